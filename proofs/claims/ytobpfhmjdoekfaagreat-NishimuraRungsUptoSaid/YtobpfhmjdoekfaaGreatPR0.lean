/- The functions that the proof meets, each as a text that Lean has checked against the program. No condition. -/
import Derived.Test.YtobpfhmjdoekfaaGreatM3
import Derived.Test.YtobpfhmjdoekfaaGreatChecked
namespace Go.Proofs.YtobpfhmjdoekfaaGreat
open Go Go.Sym Go.Proofs.Tryz
set_option maxRecDepth 100000
set_option linter.unusedVariables false

/- 3 dictum/dictumlaw26.NishimuraLadder -/
def s3 (Ψ : AVal → Heap → Prop) (rows : AVal) (atom : ByteArray) (k : Int) (h : Heap) : Prop :=
  callG prog 6 [rows] h fun v h_ =>
  tTup v fun l_ =>
  tCons l_ fun v1 l_1 =>
  tCons l_1 fun v2 l_2 =>
  tNil l_2 (
    callG prog 7 [v1, (.str atom), (.int .i64 k)] h_ fun v3 h_1 =>
    tTup v3 fun l_3 =>
    tCons l_3 fun v4 l_4 =>
    tInt .i64 v4 fun v5 =>
    tCons l_4 fun v6 l_5 =>
    tInt .i64 v6 fun v7 =>
    tNil l_5 (
      callG prog 8 [v2, (.str atom), (.int .i64 k)] h_1 fun v8 h_2 =>
      tTup v8 fun l_6 =>
      tCons l_6 fun v9 l_7 =>
      tInt .i64 v9 fun v10 =>
      tCons l_7 fun v11 l_8 =>
      tInt .i64 v11 fun v12 =>
      tNil l_8 (
        ifT (v5 == v10) (
          callG prog 9 [(.int .i64 v7)] h_2 fun v13 h_3 =>
          tInt .i64 v13 fun v14 =>
          ifT (v14 == v12) (
            callG prog 10 [v1, v2] h_3 fun v15 h_4 =>
            tBool v15 fun v16 =>
            ifT v16 (
              callG prog 11 [] h_4 fun v17 h_5 =>
              tBool v17 fun v18 =>
              retG (.bool v18) h_5 Ψ) (
              retG (.bool false) h_4 Ψ)) (
            retG (.bool false) h_3 Ψ)) (
          retG (.bool false) h_2 Ψ))))

def s3_A (Ψ : AVal → Heap → Prop) : Ann :=
  .seq (rA 1)
  (.seq (rA 7)
  (.seq (rA 9)
  (.seq (rA 9)
  (.seq (.reg [⟨none, [(0, false), (1, false), (2, false), (3, false)]⟩, ⟨some (35, true), [(4, false), (5, false), (6, false), (7, false)]⟩, ⟨none, [(8, false), (9, false)]⟩, ⟨some (41, true), [(10, false), (11, false), (12, false)]⟩, ⟨none, [(13, false), (14, false)]⟩, ⟨some (46, true), [(15, false)]⟩, ⟨none, [(16, false), (17, false)]⟩])
  (.leaf)))))

theorem s3_ok {Ψ : AVal → Heap → Prop} {rows : AVal} {atom : ByteArray} {k : Int} {h : Heap} (H : s3 Ψ rows atom k h) : ACalls prog 3 [rows, (.str atom), (.int .i64 k)] h Ψ :=
  calls_of_evF func3 (by kernel_rfl) (by kernel_rfl) (by kernel_rfl)
    (Eq.mpr (by as_aux_lemma => kernel_rfl : oblF prog f3 (s3_A Ψ) Ψ = (True ∧ True ∧ True ∧ True ∧ True ∧ True)) ⟨trivial, ⟨trivial, ⟨trivial, ⟨trivial, ⟨trivial, trivial⟩⟩⟩⟩⟩)
    (Eq.mpr (by as_aux_lemma => kernel_rfl : evF prog f3 (s3_A Ψ) Ψ [rows, (.str atom), (.int .i64 k)] h = s3 Ψ rows atom k h) H)

/- 6 dictum/dictumlaw04.Tables -/
def s6 (Ψ : AVal → Heap → Prop) (rows : AVal) (h : Heap) : Prop :=
  callG prog 21 [rows] h fun v h_ =>
  tTup v fun l_ =>
  tCons l_ fun v1 l_1 =>
  tCons l_1 fun v2 l_2 =>
  tCons l_2 fun v3 l_3 =>
  tBool v3 fun v4 =>
  tNil l_3 (
    ifT (!v4) (
      callG prog 22 [] h_ fun v5 h_1 =>
      Sym.newRow 1 [(.agg [.nilsl])] h_1 fun r h_2 =>
      retG (.tuple [v5, (.ptr r 0 0)]) h_2 Ψ) (
      retG (.tuple [v1, v2]) h_ Ψ))

def s6_A (Ψ : AVal → Heap → Prop) : Ann :=
  .seq (rA 2)
  (.seq (rA 9)
  (.seq (.seq (rA 2)
  (.cond (.seq (rA 5)
  (.leaf))
  (.leaf)))
  (.seq (rA 4)
  (.leaf))))

theorem s6_ok {Ψ : AVal → Heap → Prop} {rows : AVal} {h : Heap} (H : s6 Ψ rows h) : ACalls prog 6 [rows] h Ψ :=
  calls_of_evF func6 (by kernel_rfl) (by kernel_rfl) (by kernel_rfl)
    (Eq.mpr (by as_aux_lemma => kernel_rfl : oblF prog f6 (s6_A Ψ) Ψ = (True ∧ True ∧ (True ∧ (True ∧ True) ∧ True) ∧ True ∧ True)) ⟨trivial, ⟨trivial, ⟨⟨trivial, ⟨⟨trivial, trivial⟩, trivial⟩⟩, ⟨trivial, trivial⟩⟩⟩⟩)
    (Eq.mpr (by as_aux_lemma => kernel_rfl : evF prog f6 (s6_A Ψ) Ψ [rows] h = s6 Ψ rows h) H)

/- 8 dictum/dictumref26.Ladder -/
def s8 (Ψ : AVal → Heap → Prop) (t : AVal) (atom : ByteArray) (k : Int) (h : Heap) : Prop :=
  callG prog 28 [(.str atom)] h fun v h_ =>
  tBool v fun v1 =>
  ifT (!v1) (
    retG (.tuple [(.int .i64 0), (.int .i64 32)]) h_ Ψ) (
    callG prog 29 [(.int .i64 k)] h_ fun v2 h_1 =>
    tBool v2 fun v3 =>
    ifT (!v3) (
      retG (.tuple [(.int .i64 0), (.int .i64 2)]) h_1 Ψ) (
      nilCheckA t fun p =>
      addOff p 0 fun p1 =>
      ld1 h_1 p1 fun v4 =>
      lenN v4 fun n =>
      callG prog 30 [t, (.str atom), (.int .i64 k)] h_1 fun v5 h_2 =>
      tTup v5 fun l_ =>
      tCons l_ fun v6 l_1 =>
      tInt .i64 v6 fun v7 =>
      tCons l_1 fun v8 l_2 =>
      tInt .i64 v8 fun v9 =>
      tNil l_2 (
        ifT (v9 != 0) (
          callG prog 31 [t, (.int .i64 n)] h_2 fun v10 h_3 =>
          tInt .i64 v10 fun v11 =>
          retG (.tuple [(.int .i64 0), (.int .i64 30)]) h_3 Ψ) (
          retG (.tuple [(.int .i64 v7), (.int .i64 0)]) h_2 Ψ))))

def s8_A (Ψ : AVal → Heap → Prop) : Ann :=
  .seq (rA 2)
  (.seq (.seq (rA 3)
  (.cond (.seq (rA 2)
  (.leaf))
  (.leaf)))
  (.seq (.seq (rA 3)
  (.cond (.seq (rA 2)
  (.leaf))
  (.leaf)))
  (.seq (rA 6)
  (.seq (rA 9)
  (.seq (.seq (rA 2)
  (.cond (.seq (rA 3)
  (.seq (rA 2)
  (.leaf)))
  (.leaf)))
  (.seq (rA 3)
  (.leaf)))))))

theorem s8_ok {Ψ : AVal → Heap → Prop} {t : AVal} {atom : ByteArray} {k : Int} {h : Heap} (H : s8 Ψ t atom k h) : ACalls prog 8 [t, (.str atom), (.int .i64 k)] h Ψ :=
  calls_of_evF func8 (by kernel_rfl) (by kernel_rfl) (by kernel_rfl)
    (Eq.mpr (by as_aux_lemma => kernel_rfl : oblF prog f8 (s8_A Ψ) Ψ = (True ∧ (True ∧ (True ∧ True) ∧ True) ∧ (True ∧ (True ∧ True) ∧ True) ∧ True ∧ True ∧ (True ∧ (True ∧ True ∧ True) ∧ True) ∧ True ∧ True)) ⟨trivial, ⟨⟨trivial, ⟨⟨trivial, trivial⟩, trivial⟩⟩, ⟨⟨trivial, ⟨⟨trivial, trivial⟩, trivial⟩⟩, ⟨trivial, ⟨trivial, ⟨⟨trivial, ⟨⟨trivial, ⟨trivial, trivial⟩⟩, trivial⟩⟩, ⟨trivial, trivial⟩⟩⟩⟩⟩⟩⟩)
    (Eq.mpr (by as_aux_lemma => kernel_rfl : evF prog f8 (s8_A Ψ) Ψ [t, (.str atom), (.int .i64 k)] h = s8 Ψ t atom k h) H)

/- 10 dictum/dictumlaw04.Same -/
def s10 (Ψ : AVal → Heap → Prop) (t : AVal) (r : AVal) (h : Heap) : Prop :=
  callG prog 32 [t, r] h fun v h_ =>
  tBool v fun v1 =>
  retG (.bool v1) h_ Ψ

def s10_A (Ψ : AVal → Heap → Prop) : Ann :=
  .seq (rA 1)
  (.seq (rA 4)
  (.leaf))

theorem s10_ok {Ψ : AVal → Heap → Prop} {t : AVal} {r : AVal} {h : Heap} (H : s10 Ψ t r h) : ACalls prog 10 [t, r] h Ψ :=
  calls_of_evF func10 (by kernel_rfl) (by kernel_rfl) (by kernel_rfl)
    (Eq.mpr (by as_aux_lemma => kernel_rfl : oblF prog f10 (s10_A Ψ) Ψ = (True ∧ True ∧ True)) ⟨trivial, ⟨trivial, trivial⟩⟩)
    (Eq.mpr (by as_aux_lemma => kernel_rfl : evF prog f10 (s10_A Ψ) Ψ [t, r] h = s10 Ψ t r h) H)

/- 13 dictum/dictumref26.Rung -/
abbrev s13l1_T := AVal → Int → AVal → AVal → Int → Heap → Prop
def s13l1_R (F : s13l1_T) (l : List AVal) (h : Heap) : Prop := J.cons l fun x0 l => J.cons l fun v l => J.int .i64 v fun x1 => J.cons l fun x2 l => J.cons l fun x3 l => J.cons l fun v l => J.int .i64 v fun x4 => J.nil l (F x0 x1 x2 x3 x4 h)
def s13l1_G (F : s13l1_T) (x0 : AVal) (x1 : Int) (x2 x3 : AVal) (x4 : Int) (h : Heap) : Prop := gJ [.any, .int .i64, .any, .any, .int .i64] [x0, (.int .i64 x1), x2, x3, (.int .i64 x4)] h (s13l1_R F)
def s13l1_E (F : Nat → s13l1_T) (x0 : AVal) (x1 : Int) (x2 x3 : AVal) (x4 : Int) (h : Heap) : Prop := gJ [.any, .int .i64, .any, .any, .int .i64] [x0, (.int .i64 x1), x2, x3, (.int .i64 x4)] h (fun l h => ∃ n, s13l1_R (F n) l h)
theorem s13l1_go {F : s13l1_T} {x0 : AVal} {x1 : Int} {x2 x3 : AVal} {x4 : Int} {h : Heap} (H : F x0 x1 x2 x3 x4 h) : s13l1_G F x0 x1 x2 x3 x4 h := gJ_plain rfl H
theorem s13l1_in {F : Nat → s13l1_T} {x0 : AVal} {x1 : Int} {x2 x3 : AVal} {x4 : Int} {h : Heap} (n : Nat) (H : F n x0 x1 x2 x3 x4 h) : s13l1_E F x0 x1 x2 x3 x4 h := gJ_plain rfl ⟨n, H⟩

def s13c2 (Ψ : AVal → Heap → Prop) (L1 : s13l1_T) (t2 : AVal) (id_2 : Int) (below1 v25 : AVal) (i1 k : Int) (h : Heap) : Prop :=
  ixS 1 below1 i1 fun p4 =>
  ld1 h p4 fun v26 =>
  tInt .i64 v26 fun v27 =>
  ixS 1 v25 v27 fun p5 =>
  st true h p5 [(.int .i64 k)] fun h_5 =>
  rg (i1 + 1) (
    L1 t2 id_2 below1 v25 (i1 + 1) h_5)

def s13l1 (Ψ : AVal → Heap → Prop) : Nat → s13l1_T
  | 0, _, _, _, _, _, _ => False
  | n1 + 1, t1, id_1, below, v11, i, h =>
    lenN below fun n2 =>
    ifT (decide (i < n2)) (
      nilCheckA t1 fun p =>
      addOff p 0 fun p1 =>
      ld1 h p1 fun v12 =>
      ixS 1 below i fun p2 =>
      ld1 h p2 fun v13 =>
      tInt .i64 v13 fun v14 =>
      ixS 4 v12 v14 fun p3 =>
      ldN 4 h p3 fun l_8 =>
      tCons l_8 fun v15 l_9 =>
      tInt .i64 v15 fun v16 =>
      tCons l_9 fun v17 l_10 =>
      tStr v17 fun v18 =>
      tCons l_10 fun v19 l_11 =>
      tInt .i64 v19 fun v20 =>
      tCons l_11 fun v21 l_12 =>
      tInt .i64 v21 fun v22 =>
      tNil l_12 (
        Sym.newRow 4 [(.agg [(.int .i64 0), (.str (ByteArray.mk #[])), (.int .i64 0), (.int .i64 0)])] h fun r h_3 =>
        (ldN 4 h_3 p3 fun l_13 =>
        (AVal.agg l_13) = (.agg [(.int .i64 v16), (.str v18), (.int .i64 v20), (.int .i64 v22)])) ∧
        (ld1 h_3 p2 fun v23 =>
        v23 = (.int .i64 v14)) ∧
        (ld1 h_3 p1 fun v24 =>
        v24 = v12) ∧
        st false h_3 (.ptr r 0 0) [(.int .i64 v16), (.str v18), (.int .i64 v20), (.int .i64 v22)] fun h_4 =>
        ld1 h_4 (.ptr r 0 0) fun v28 =>
        tInt .i64 v28 fun v29 =>
        ifT (v29 == 1) (
          s13c2 Ψ (s13l1_G (s13l1 Ψ n1)) t1 id_1 below v11 i 1 h_4) (
          ifT (v29 == 3) (
            ld1 h_4 (.ptr r 0 2) fun v30 =>
            tInt .i64 v30 fun v31 =>
            ixS 1 v11 v31 fun p6 =>
            ld1 h_4 p6 fun v32 =>
            tInt .i64 v32 fun v33 =>
            ld1 h_4 (.ptr r 0 3) fun v34 =>
            tInt .i64 v34 fun v35 =>
            ixS 1 v11 v35 fun p7 =>
            ld1 h_4 p7 fun v36 =>
            tInt .i64 v36 fun v37 =>
            callG prog 46 [(.int .i64 v33), (.int .i64 v37)] h_4 fun v38 h_6 =>
            tInt .i64 v38 fun v39 =>
            s13c2 Ψ (s13l1_G (s13l1 Ψ n1)) t1 id_1 below v11 i v39 h_6) (
            ifT (v29 == 4) (
              ld1 h_4 (.ptr r 0 2) fun v40 =>
              tInt .i64 v40 fun v41 =>
              ixS 1 v11 v41 fun p8 =>
              ld1 h_4 p8 fun v42 =>
              tInt .i64 v42 fun v43 =>
              ld1 h_4 (.ptr r 0 3) fun v44 =>
              tInt .i64 v44 fun v45 =>
              ixS 1 v11 v45 fun p9 =>
              ld1 h_4 p9 fun v46 =>
              tInt .i64 v46 fun v47 =>
              callG prog 47 [(.int .i64 v43), (.int .i64 v47)] h_4 fun v48 h_7 =>
              tInt .i64 v48 fun v49 =>
              s13c2 Ψ (s13l1_G (s13l1 Ψ n1)) t1 id_1 below v11 i v49 h_7) (
              ifT (v29 == 5) (
                ld1 h_4 (.ptr r 0 2) fun v50 =>
                tInt .i64 v50 fun v51 =>
                ixS 1 v11 v51 fun p10 =>
                ld1 h_4 p10 fun v52 =>
                tInt .i64 v52 fun v53 =>
                ld1 h_4 (.ptr r 0 3) fun v54 =>
                tInt .i64 v54 fun v55 =>
                ixS 1 v11 v55 fun p11 =>
                ld1 h_4 p11 fun v56 =>
                tInt .i64 v56 fun v57 =>
                callG prog 48 [(.int .i64 v53), (.int .i64 v57)] h_4 fun v58 h_8 =>
                tInt .i64 v58 fun v59 =>
                s13c2 Ψ (s13l1_G (s13l1 Ψ n1)) t1 id_1 below v11 i v59 h_8) (
                s13c2 Ψ (s13l1_G (s13l1 Ψ n1)) t1 id_1 below v11 i 0 h_4)))))) (
      ixS 1 v11 id_1 fun p12 =>
      ld1 h p12 fun v60 =>
      tInt .i64 v60 fun v61 =>
      retG (.tuple [(.int .i64 v61), (.int .i64 0)]) h Ψ)

def s13 (Ψ : AVal → Heap → Prop) (t : AVal) (id_ : Int) (h : Heap) : Prop :=
  callG prog 45 [t, (.int .i64 id_)] h fun v h_ =>
  tTup v fun l_ =>
  tCons l_ fun v1 l_1 =>
  tCons l_1 fun v2 l_2 =>
  tCons l_2 fun v3 l_3 =>
  tCons l_3 fun v4 l_4 =>
  tInt .i64 v4 fun v5 =>
  tNil l_4 (
    ifT (v5 != 0) (
      retG (.tuple [(.int .i64 0), (.int .i64 v5)]) h_ Ψ) (
      lenN v1 fun n =>
      ifT (decide (1 < n)) (
        retG (.tuple [(.int .i64 0), (.int .i64 220)]) h_ Ψ) (
        callG prog 17 [t, (.int .i64 id_)] h_ fun v6 h_1 =>
        tTup v6 fun l_5 =>
        tCons l_5 fun v7 l_6 =>
        tCons l_6 fun v8 l_7 =>
        tInt .i64 v8 fun v9 =>
        tNil l_7 (
          rg (id_ + 1) (
            mkS false 1 8 (.int .i64 0) h_1 (id_ + 1) (id_ + 1) fun v10 h_2 =>
            s13l1_E (s13l1 Ψ) t id_ v7 v10 0 h_2)))))

def s13_A (Ψ : AVal → Heap → Prop) : Ann :=
  .seq (rA 2)
  (.seq (rA 12)
  (.seq (.seq (rA 2)
  (.cond (.seq (rA 3)
  (.leaf))
  (.leaf)))
  (.seq (.seq (rA 3)
  (.cond (.seq (rA 2)
  (.leaf))
  (.leaf)))
  (.seq (rA 8)
  (.seq (rA 4)
  (.seq (.seq (rA 1)
  (.block (.loop [(0, .any), (1, .int .i64), (10, .any), (12, .any), (13, .int .i64)] (fun n l h => s13l1_R (s13l1 Ψ n) l h) (fun L1 =>
  .seq (.seq (rA 4)
  (.cond (.leaf)
  (.leaf)))
  (.seq (.block (.seq (.draw [(0, false), (1, false), (2, false), (3, false), (4, false), (5, false), (6, false), (7, false), (8, false), (9, false), (10, false), (11, false)] [0, 1, 3, 7, 0, 0, 48, 112, 255, 511, 0, 2047])
  (.seq (rA 1)
  (.cut [(0, .any), (1, .int .i64), (10, .any), (12, .any), (13, .int .i64), (15, .int .i64)] (fun l h => J.cons l fun x0 l => J.cons l fun v l => J.int .i64 v fun x1 => J.cons l fun x2 l => J.cons l fun x3 l => J.cons l fun v l => J.int .i64 v fun x4 => J.cons l fun v l => J.int .i64 v fun x5 => J.nil l (s13c2 Ψ (fun y0 y1 y2 y3 y4 h => L1 [y0, (.int .i64 y1), y2, y3, (.int .i64 y4)] h) x0 x1 x2 x3 x4 x5 h)) (.seq (rA 2)
  (.block (.seq (rA 2)
  (.cond (rA 1)
  (.seq (rA 2)
  (.cond (.draw [(0, false), (1, false), (2, false), (3, false), (4, false), (5, false), (6, false), (7, false), (8, false), (9, false), (10, false), (11, false)] [0, 0, 2, 7, 15, 0, 0, 64, 224, 480, 1023, 2047])
  (.seq (rA 2)
  (.cond (.draw [(0, false), (1, false), (2, false), (3, false), (4, false), (5, false), (6, false), (7, false), (8, false), (9, false), (10, false), (11, false)] [0, 0, 2, 7, 15, 0, 0, 64, 224, 480, 1023, 2047])
  (.seq (rA 2)
  (.cond (.draw [(0, false), (1, false), (2, false), (3, false), (4, false), (5, false), (6, false), (7, false), (8, false), (9, false), (10, false), (11, false)] [0, 0, 2, 7, 15, 0, 0, 64, 224, 480, 1023, 2047])
  (.leaf)))))))))))
  (rA 8)))))
  (rA 3))))))
  (.seq (rA 6)
  (.leaf))))))))

theorem s13_ok {Ψ : AVal → Heap → Prop} {t : AVal} {id_ : Int} {h : Heap} (H : s13 Ψ t id_ h) : ACalls prog 13 [t, (.int .i64 id_)] h Ψ :=
  calls_of_evF func13 (by kernel_rfl) (by kernel_rfl) (by kernel_rfl)
    (Eq.mpr (by as_aux_lemma => kernel_rfl : oblF prog f13 (s13_A Ψ) Ψ = (True ∧ True ∧ (True ∧ (True ∧ True) ∧ True) ∧ (True ∧ (True ∧ True) ∧ True) ∧ True ∧ True ∧ (True ∧ (∀ (h : Heap) (x0 : AVal) (x1 : Int) (x2 x3 : AVal) (x4 : Int), ON (s13l1 Ψ 0 x0 x1 x2 x3 x4 h)) ∧ ∀ n1 : Nat, (∀ (h : Heap) (x0 : AVal) (x1 : Int) (x2 x3 : AVal) (x4 : Int), OI (s13l1 Ψ (n1 + 1) x0 x1 x2 x3 x4 h)) ∧ ((True ∧ True ∧ True) ∧ (True ∧ True ∧ (True ∧ True ∧ True ∧ True ∧ True ∧ True ∧ True ∧ True ∧ True ∧ True) ∧ (∀ (h : Heap) (x0 : AVal) (x1 : Int) (x2 x3 : AVal) (x4 x5 : Int), OI (s13c2 Ψ (s13l1_G (s13l1 Ψ n1)) x0 x1 x2 x3 x4 x5 h)) ∧ (True)) ∧ True)) ∧ True ∧ True)) ⟨trivial, ⟨trivial, ⟨⟨trivial, ⟨⟨trivial, trivial⟩, trivial⟩⟩, ⟨⟨trivial, ⟨⟨trivial, trivial⟩, trivial⟩⟩, ⟨trivial, ⟨trivial, ⟨⟨trivial, ⟨fun _ _ _ _ _ _ H => H, fun _ => ⟨fun _ _ _ _ _ _ H => H, ⟨⟨trivial, ⟨trivial, trivial⟩⟩, ⟨⟨trivial, ⟨trivial, ⟨⟨trivial, ⟨trivial, ⟨trivial, ⟨trivial, ⟨trivial, ⟨trivial, ⟨trivial, ⟨trivial, ⟨trivial, trivial⟩⟩⟩⟩⟩⟩⟩⟩⟩, fun _ _ _ _ _ _ _ H => H, trivial⟩⟩⟩, trivial⟩⟩⟩⟩⟩, ⟨trivial, trivial⟩⟩⟩⟩⟩⟩⟩⟩)
    (Eq.mpr (by as_aux_lemma => kernel_rfl : evF prog f13 (s13_A Ψ) Ψ [t, (.int .i64 id_)] h = s13 Ψ t id_ h) H)

/- 15 dictum/dictumref26.Equal -/
def s15 (Ψ : AVal → Heap → Prop) (t : AVal) (a : Int) (b : Int) (h : Heap) : Prop :=
  callG prog 13 [t, (.int .i64 a)] h fun v h_ =>
  tTup v fun l_ =>
  tCons l_ fun v1 l_1 =>
  tInt .i64 v1 fun v2 =>
  tCons l_1 fun v3 l_2 =>
  tInt .i64 v3 fun v4 =>
  tNil l_2 (
    ifT (v4 != 0) (
      retG (.tuple [(.bool false), (.int .i64 v4)]) h_ Ψ) (
      callG prog 13 [t, (.int .i64 b)] h_ fun v5 h_1 =>
      tTup v5 fun l_3 =>
      tCons l_3 fun v6 l_4 =>
      tInt .i64 v6 fun v7 =>
      tCons l_4 fun v8 l_5 =>
      tInt .i64 v8 fun v9 =>
      tNil l_5 (
        ifT (v9 != 0) (
          retG (.tuple [(.bool false), (.int .i64 v9)]) h_1 Ψ) (
          callG prog 45 [t, (.int .i64 a)] h_1 fun v10 h_2 =>
          tTup v10 fun l_6 =>
          tCons l_6 fun v11 l_7 =>
          tCons l_7 fun v12 l_8 =>
          tCons l_8 fun v13 l_9 =>
          tCons l_9 fun v14 l_10 =>
          tInt .i64 v14 fun v15 =>
          tNil l_10 (
            callG prog 45 [t, (.int .i64 b)] h_2 fun v16 h_3 =>
            tTup v16 fun l_11 =>
            tCons l_11 fun v17 l_12 =>
            tCons l_12 fun v18 l_13 =>
            tCons l_13 fun v19 l_14 =>
            tCons l_14 fun v20 l_15 =>
            tInt .i64 v20 fun v21 =>
            tNil l_15 (
              ifT (v2 == v7) (
                ifT (v2 == 0) (
                  retG (.tuple [(.bool true), (.int .i64 0)]) h_3 Ψ) (
                  ifT (v2 == (-1)) (
                    retG (.tuple [(.bool true), (.int .i64 0)]) h_3 Ψ) (
                    ixS 1 v11 0 fun p =>
                    ld1 h_3 p fun v22 =>
                    tStr v22 fun v23 =>
                    ixS 1 v17 0 fun p1 =>
                    ld1 h_3 p1 fun v24 =>
                    tStr v24 fun v25 =>
                    retG (.tuple [(.bool (strEq v23 v25)), (.int .i64 0)]) h_3 Ψ))) (
                retG (.tuple [(.bool false), (.int .i64 0)]) h_3 Ψ)))))))

def s15_A (Ψ : AVal → Heap → Prop) : Ann :=
  .seq (rA 2)
  (.seq (rA 8)
  (.seq (.seq (rA 2)
  (.cond (.seq (rA 3)
  (.leaf))
  (.leaf)))
  (.seq (rA 8)
  (.seq (.seq (rA 2)
  (.cond (.seq (rA 3)
  (.leaf))
  (.leaf)))
  (.seq (rA 12)
  (.seq (rA 12)
  (.seq (.draw [(0, false), (1, false), (2, false), (3, false), (4, false), (5, false), (6, false), (7, false), (8, false), (9, false), (10, false), (11, false), (12, false), (13, false), (14, false), (15, false), (16, false), (17, false), (18, false), (19, false), (20, false), (21, false)] [0, 0, 3, 7, 15, 31, 63, 127, 255, 511, 1023, 2047, 4095, 8191, 2047, 18431, 51199, 131071, 262143, 524287, 1048575, 2097151])
  (.leaf))))))))

theorem s15_ok {Ψ : AVal → Heap → Prop} {t : AVal} {a : Int} {b : Int} {h : Heap} (H : s15 Ψ t a b h) : ACalls prog 15 [t, (.int .i64 a), (.int .i64 b)] h Ψ :=
  calls_of_evF func15 (by kernel_rfl) (by kernel_rfl) (by kernel_rfl)
    (Eq.mpr (by as_aux_lemma => kernel_rfl : oblF prog f15 (s15_A Ψ) Ψ = (True ∧ True ∧ (True ∧ (True ∧ True) ∧ True) ∧ True ∧ (True ∧ (True ∧ True) ∧ True) ∧ True ∧ True ∧ True ∧ True)) ⟨trivial, ⟨trivial, ⟨⟨trivial, ⟨⟨trivial, trivial⟩, trivial⟩⟩, ⟨trivial, ⟨⟨trivial, ⟨⟨trivial, trivial⟩, trivial⟩⟩, ⟨trivial, ⟨trivial, ⟨trivial, trivial⟩⟩⟩⟩⟩⟩⟩⟩)
    (Eq.mpr (by as_aux_lemma => kernel_rfl : evF prog f15 (s15_A Ψ) Ψ [t, (.int .i64 a), (.int .i64 b)] h = s15 Ψ t a b h) H)

/- 20 dictum/dictumref26.Has -/
def s20 (Ψ : AVal → Heap → Prop) (k : Int) (w : Int) (h : Heap) : Prop :=
  rg (k - 1) (
    2 ≠ (0 : Int) ∧
    rg (Int.tdiv (k - 1) 2) (
      ifT (k == (-1)) (
        retG (.bool true) h Ψ) (
        ifT (k == 0) (
          retG (.bool false) h Ψ) (
          2 ≠ (0 : Int) ∧
          ifT ((Int.tmod k 2) == 1) (
            retG (.bool (decide (w ≤ (Int.tdiv (k - 1) 2)))) h Ψ) (
            2 ≠ (0 : Int) ∧
            rg (Int.tdiv k 2) (
              rg ((Int.tdiv k 2) - 1) (
                ifT (decide (w < ((Int.tdiv k 2) - 1))) (
                  retG (.bool true) h Ψ) (
                  2 ≠ (0 : Int) ∧
                  rg (Int.tdiv k 2) (
                    retG (.bool (w == (Int.tdiv k 2))) h Ψ)))))))))

def s20_A (Ψ : AVal → Heap → Prop) : Ann :=
  .seq (rA 1)
  (.seq (rA 4)
  (.seq (.block (.seq (rA 3)
  (.cond (.seq (rA 1)
  (.leaf))
  (.seq (rA 3)
  (.cond (.seq (rA 1)
  (.leaf))
  (.seq (rA 4)
  (.cond (.seq (rA 4)
  (.leaf))
  (.leaf))))))))
  (.seq (.reg [⟨none, [(0, false), (1, false), (2, false), (3, false), (4, false), (5, false)]⟩, ⟨some (27, false), [(6, false), (7, false), (8, false), (9, false)]⟩, ⟨none, [(10, false), (11, false)]⟩])
  (.leaf))))

theorem s20_ok {Ψ : AVal → Heap → Prop} {k : Int} {w : Int} {h : Heap} (H : s20 Ψ k w h) : ACalls prog 20 [(.int .i64 k), (.int .i64 w)] h Ψ :=
  calls_of_evF func20 (by kernel_rfl) (by kernel_rfl) (by kernel_rfl)
    (Eq.mpr (by as_aux_lemma => kernel_rfl : oblF prog f20 (s20_A Ψ) Ψ = (True ∧ True ∧ (True ∧ (True ∧ True) ∧ True ∧ (True ∧ True) ∧ True ∧ (True ∧ True) ∧ True) ∧ True ∧ True)) ⟨trivial, ⟨trivial, ⟨⟨trivial, ⟨⟨trivial, trivial⟩, ⟨trivial, ⟨⟨trivial, trivial⟩, ⟨trivial, ⟨⟨trivial, trivial⟩, trivial⟩⟩⟩⟩⟩⟩, ⟨trivial, trivial⟩⟩⟩⟩)
    (Eq.mpr (by as_aux_lemma => kernel_rfl : evF prog f20 (s20_A Ψ) Ψ [(.int .i64 k), (.int .i64 w)] h = s20 Ψ k w h) H)

/- 22 dictum/formula.New -/
def s22 (Ψ : AVal → Heap → Prop) (h : Heap) : Prop :=
  newMap h fun r h_ =>
  Sym.newRow 2 [(.agg [.nilsl, (.mapr r)])] h_ fun r1 h_1 =>
  retG (.ptr r1 0 0) h_1 Ψ

def s22_A (Ψ : AVal → Heap → Prop) : Ann :=
  .seq (rA 1)
  (.seq (rA 4)
  (.leaf))

theorem s22_ok {Ψ : AVal → Heap → Prop} {h : Heap} (H : s22 Ψ  h) : ACalls prog 22 [] h Ψ :=
  calls_of_evF func22 (by kernel_rfl) (by kernel_rfl) (by kernel_rfl)
    (Eq.mpr (by as_aux_lemma => kernel_rfl : oblF prog f22 (s22_A Ψ) Ψ = (True ∧ True ∧ True)) ⟨trivial, ⟨trivial, trivial⟩⟩)
    (Eq.mpr (by as_aux_lemma => kernel_rfl : evF prog f22 (s22_A Ψ) Ψ [] h = s22 Ψ  h) H)

/- 24 dictum/formula.Word -/
abbrev s24l1_T := ByteArray → Int → Int → Heap → Prop
def s24l1_R (F : s24l1_T) (l : List AVal) (h : Heap) : Prop := J.cons l fun v l => J.str v fun x0 => J.cons l fun v l => J.int .i64 v fun x1 => J.cons l fun v l => J.int .i64 v fun x2 => J.nil l (F x0 x1 x2 h)
def s24l1_G (F : s24l1_T) (x0 : ByteArray) (x1 x2 : Int) (h : Heap) : Prop := gJ [.str, .int .i64, .int .i64] [(.str x0), (.int .i64 x1), (.int .i64 x2)] h (s24l1_R F)
def s24l1_E (F : Nat → s24l1_T) (x0 : ByteArray) (x1 x2 : Int) (h : Heap) : Prop := gJ [.str, .int .i64, .int .i64] [(.str x0), (.int .i64 x1), (.int .i64 x2)] h (fun l h => ∃ n, s24l1_R (F n) l h)
theorem s24l1_go {F : s24l1_T} {x0 : ByteArray} {x1 x2 : Int} {h : Heap} (H : F x0 x1 x2 h) : s24l1_G F x0 x1 x2 h := gJ_plain rfl H
theorem s24l1_in {F : Nat → s24l1_T} {x0 : ByteArray} {x1 x2 : Int} {h : Heap} (n : Nat) (H : F n x0 x1 x2 h) : s24l1_E F x0 x1 x2 h := gJ_plain rfl ⟨n, H⟩

def s24c3 (Ψ : AVal → Heap → Prop) (L1 : s24l1_T) (name3 : ByteArray) (t8_2 t9_2 : Int) (t44 : Bool) (h : Heap) : Prop :=
  ifT t44 (
    retG (.bool false) h Ψ) (
    rg (t9_2 + 1) (
      L1 name3 t8_2 (t9_2 + 1) h))

def s24c2 (Ψ : AVal → Heap → Prop) (L1 : s24l1_T) (name2 : ByteArray) (i c : Int) (letter : Bool) (t8_1 t9_1 : Int) (h : Heap) : Prop :=
  ifT (!letter) (
    ifT (i == 0) (
      s24c3 Ψ L1 name2 t8_1 t9_1 true h) (
      ifT (c != 95) (
        ifT (c != 39) (
          ifT (decide (c < 48)) (
            s24c3 Ψ L1 name2 t8_1 t9_1 true h) (
            s24c3 Ψ L1 name2 t8_1 t9_1 (decide (57 < c)) h)) (
          s24c3 Ψ L1 name2 t8_1 t9_1 false h)) (
        s24c3 Ψ L1 name2 t8_1 t9_1 false h))) (
    s24c3 Ψ L1 name2 t8_1 t9_1 false h)

def s24l1 (Ψ : AVal → Heap → Prop) : Nat → s24l1_T
  | 0, _, _, _, _ => False
  | n + 1, name1, t8, t9, h =>
    ifT (decide (t9 < t8)) (
      ((0 : Int) ≤ t9 ∧ t9 < (name1.size : Int)) ∧
      ifT (decide (97 ≤ (bitsI .or .u8 (btA name1 t9) 32))) (
        s24c2 Ψ (s24l1_G (s24l1 Ψ n)) name1 t9 (btA name1 t9) (decide ((bitsI .or .u8 (btA name1 t9) 32) ≤ 122)) t8 t9 h) (
        s24c2 Ψ (s24l1_G (s24l1 Ψ n)) name1 t9 (btA name1 t9) false t8 t9 h)) (
      ifT (!strEq name1 (ByteArray.mk #[])) (
        ifT (decide ((name1.size : Int) ≤ 31)) (
          callG prog 57 [(.str name1)] h fun v h_ =>
          tBool v fun v1 =>
          retG (.bool (!v1)) h_ Ψ) (
          retG (.bool false) h Ψ)) (
        retG (.bool false) h Ψ))

def s24 (Ψ : AVal → Heap → Prop) (name : ByteArray) (h : Heap) : Prop :=
  s24l1_E (s24l1 Ψ) name (name.size : Int) 0 h

def s24_A (Ψ : AVal → Heap → Prop) : Ann :=
  .seq (rA 1)
  (.seq (.seq (rA 3)
  (.block (.loop [(0, .str), (8, .int .i64), (9, .int .i64)] (fun n l h => s24l1_R (s24l1 Ψ n) l h) (fun L1 =>
  .seq (rA 1)
  (.seq (.cond (.leaf)
  (.leaf))
  (.seq (.block (.seq (rA 2)
  (.seq (rA 4)
  (.seq (rA 3)
  (.cut [(0, .str), (3, .int .i64), (4, .int .u8), (6, .bool), (8, .int .i64), (9, .int .i64)] (fun l h => J.cons l fun v l => J.str v fun x0 => J.cons l fun v l => J.int .i64 v fun x1 => J.cons l fun v l => J.int .u8 v fun x2 => J.cons l fun v l => J.bool v fun x3 => J.cons l fun v l => J.int .i64 v fun x4 => J.cons l fun v l => J.int .i64 v fun x5 => J.nil l (s24c2 Ψ (fun y0 y1 y2 h => L1 [(.str y0), (.int .i64 y1), (.int .i64 y2)] h) x0 x1 x2 x3 x4 x5 h)) (.reg [⟨none, [(0, false), (1, false), (2, false)]⟩, ⟨some (19, true), [(3, false), (4, false)]⟩, ⟨none, [(5, false), (6, false)]⟩])
  (.cut [(0, .str), (8, .int .i64), (9, .int .i64), (44, .bool)] (fun l h => J.cons l fun v l => J.str v fun x0 => J.cons l fun v l => J.int .i64 v fun x1 => J.cons l fun v l => J.int .i64 v fun x2 => J.cons l fun v l => J.bool v fun x3 => J.nil l (s24c3 Ψ (fun y0 y1 y2 h => L1 [(.str y0), (.int .i64 y1), (.int .i64 y2)] h) x0 x1 x2 x3 h)) (.reg [⟨none, [(0, false), (1, false), (2, false)]⟩, ⟨some (25, true), [(3, false), (4, false), (5, false)]⟩, ⟨some (28, false), [(6, false), (7, false), (8, false)]⟩, ⟨some (31, true), [(9, false), (10, false)]⟩, ⟨some (28, false), [(11, false), (12, false)]⟩, ⟨some (35, true), [(13, false), (14, false), (15, false)]⟩, ⟨some (38, false), [(16, false), (17, false)]⟩, ⟨some (35, true), [(18, false)]⟩, ⟨some (28, false), [(19, false)]⟩, ⟨some (25, true), [(20, false)]⟩, ⟨none, [(21, false)]⟩])
  (.cond (.seq (rA 1)
  (.leaf))
  (.leaf))))))))
  (rA 2)))))))
  (.seq (.reg [⟨none, [(0, false), (1, false), (2, false)]⟩, ⟨some (48, true), [(3, false), (4, false), (5, false)]⟩, ⟨none, [(6, false), (7, false)]⟩, ⟨some (53, true), [(8, false), (9, false), (10, false)]⟩, ⟨none, [(11, false), (12, false)]⟩])
  (.leaf)))

theorem s24_ok {Ψ : AVal → Heap → Prop} {name : ByteArray} {h : Heap} (H : s24 Ψ name h) : ACalls prog 24 [(.str name)] h Ψ :=
  calls_of_evF func24 (by kernel_rfl) (by kernel_rfl) (by kernel_rfl)
    (Eq.mpr (by as_aux_lemma => kernel_rfl : oblF prog f24 (s24_A Ψ) Ψ = (True ∧ (True ∧ (∀ (h : Heap) (x0 : ByteArray) (x1 x2 : Int), ON (s24l1 Ψ 0 x0 x1 x2 h)) ∧ ∀ n1 : Nat, (∀ (h : Heap) (x0 : ByteArray) (x1 x2 : Int), OI (s24l1 Ψ (n1 + 1) x0 x1 x2 h)) ∧ (True ∧ (True ∧ True) ∧ (True ∧ True ∧ True ∧ (True) ∧ (∀ (h : Heap) (x0 : ByteArray) (x1 x2 : Int) (x3 : Bool) (x4 x5 : Int), OI (s24c2 Ψ (s24l1_G (s24l1 Ψ n1)) x0 x1 x2 x3 x4 x5 h)) ∧ ((True) ∧ (∀ (h : Heap) (x0 : ByteArray) (x1 x2 : Int) (x3 : Bool), OI (s24c3 Ψ (s24l1_G (s24l1 Ψ n1)) x0 x1 x2 x3 h)) ∧ ((True ∧ True) ∧ True))) ∧ True)) ∧ True ∧ True)) ⟨trivial, ⟨⟨trivial, ⟨fun _ _ _ _ H => H, fun _ => ⟨fun _ _ _ _ H => H, ⟨trivial, ⟨⟨trivial, trivial⟩, ⟨⟨trivial, ⟨trivial, ⟨trivial, ⟨trivial, fun _ _ _ _ _ _ _ H => H, ⟨trivial, fun _ _ _ _ _ H => H, ⟨⟨trivial, trivial⟩, trivial⟩⟩⟩⟩⟩⟩, trivial⟩⟩⟩⟩⟩⟩, ⟨trivial, trivial⟩⟩⟩)
    (Eq.mpr (by as_aux_lemma => kernel_rfl : evF prog f24 (s24_A Ψ) Ψ [(.str name)] h = s24 Ψ name h) H)

/- 26 dictum/nishimura.climb -/
def s26c2 (Ψ : AVal → Heap → Prop) (k2 e1 : Int) (rungs : AVal) (h : Heap) : Prop :=
  ifT (e1 != 0) (
    retG (.tuple [(.int .i64 0), (.int .i64 e1)]) h Ψ) (
    ixS 1 rungs k2 fun p1 =>
    ld1 h p1 fun v25 =>
    tInt .i64 v25 fun v26 =>
    retG (.tuple [(.int .i64 v26), (.int .i64 0)]) h Ψ)

abbrev s26l3_T := AVal → Int → Int → AVal → Heap → Prop
def s26l3_R (F : s26l3_T) (l : List AVal) (h : Heap) : Prop := J.cons l fun x0 l => J.cons l fun v l => J.int .i64 v fun x1 => J.cons l fun v l => J.int .i64 v fun x2 => J.cons l fun x3 l => J.nil l (F x0 x1 x2 x3 h)
def s26l3_G (F : s26l3_T) (x0 : AVal) (x1 x2 : Int) (x3 : AVal) (h : Heap) : Prop := gJ [.any, .int .i64, .int .i64, .any] [x0, (.int .i64 x1), (.int .i64 x2), x3] h (s26l3_R F)
def s26l3_E (F : Nat → s26l3_T) (x0 : AVal) (x1 x2 : Int) (x3 : AVal) (h : Heap) : Prop := gJ [.any, .int .i64, .int .i64, .any] [x0, (.int .i64 x1), (.int .i64 x2), x3] h (fun l h => ∃ n, s26l3_R (F n) l h)
theorem s26l3_go {F : s26l3_T} {x0 : AVal} {x1 x2 : Int} {x3 : AVal} {h : Heap} (H : F x0 x1 x2 x3 h) : s26l3_G F x0 x1 x2 x3 h := gJ_plain rfl H
theorem s26l3_in {F : Nat → s26l3_T} {x0 : AVal} {x1 x2 : Int} {x3 : AVal} {h : Heap} (n : Nat) (H : F n x0 x1 x2 x3 h) : s26l3_E F x0 x1 x2 x3 h := gJ_plain rfl ⟨n, H⟩

def s26c4 (Ψ : AVal → Heap → Prop) (L3 : s26l3_T) (t3 : AVal) (k4 e3 : Int) (rungs2 : AVal) (id_ : Int) (h : Heap) : Prop :=
  appC 1 8 h rungs2 (.lsl 1 [(.int .i64 id_)]) fun v27 h_6 =>
  L3 t3 k4 e3 v27 h_6

def s26l3 (Ψ : AVal → Heap → Prop) : Nat → s26l3_T
  | 0, _, _, _, _, _ => False
  | n + 1, t2, k3, e2, rungs1, h =>
    ifT (e2 == 0) (
      lenN rungs1 fun n1 =>
      ifT (decide (k3 < n1)) (
        s26c2 Ψ k3 e2 rungs1 h) (
        2 ≠ (0 : Int) ∧
        ifT ((Int.tmod n1 2) == 1) (
          rg (n1 - 2) (
            ixS 1 rungs1 (n1 - 2) fun p2 =>
            ld1 h p2 fun v28 =>
            tInt .i64 v28 fun v29 =>
            rg (n1 - 1) (
              ixS 1 rungs1 (n1 - 1) fun p3 =>
              ld1 h p3 fun v30 =>
              tInt .i64 v30 fun v31 =>
              callG prog 62 [t2, (.int .i64 v29), (.int .i64 v31)] h fun v32 h_7 =>
              tTup v32 fun l_15 =>
              tCons l_15 fun v33 l_16 =>
              tInt .i64 v33 fun v34 =>
              tCons l_16 fun v35 l_17 =>
              tInt .i64 v35 fun v36 =>
              tNil l_17 (
                s26c4 Ψ (s26l3_G (s26l3 Ψ n)) t2 k3 v36 rungs1 v34 h_7)))) (
          rg (n1 - 1) (
            ixS 1 rungs1 (n1 - 1) fun p4 =>
            ld1 h p4 fun v37 =>
            tInt .i64 v37 fun v38 =>
            rg (n1 - 3) (
              ixS 1 rungs1 (n1 - 3) fun p5 =>
              ld1 h p5 fun v39 =>
              tInt .i64 v39 fun v40 =>
              callG prog 59 [t2, (.int .i64 v38), (.int .i64 v40)] h fun v41 h_8 =>
              tTup v41 fun l_18 =>
              tCons l_18 fun v42 l_19 =>
              tInt .i64 v42 fun v43 =>
              tCons l_19 fun v44 l_20 =>
              tInt .i64 v44 fun v45 =>
              tNil l_20 (
                s26c4 Ψ (s26l3_G (s26l3 Ψ n)) t2 k3 v45 rungs1 v43 h_8)))))) (
      s26c2 Ψ k3 e2 rungs1 h)

def s26c1 (Ψ : AVal → Heap → Prop) (t1 : AVal) (k1 p e : Int) (t50 : Bool) (h : Heap) : Prop :=
  ifT t50 (
    retG (.tuple [(.int .i64 p), (.int .i64 e)]) h Ψ) (
    callG prog 61 [t1, (.int .i64 p)] h fun v20 h_4 =>
    tTup v20 fun l_12 =>
    tCons l_12 fun v21 l_13 =>
    tInt .i64 v21 fun v22 =>
    tCons l_13 fun v23 l_14 =>
    tInt .i64 v23 fun v24 =>
    tNil l_14 (
      Sym.newRow 1 [(.int .i64 0), (.int .i64 p), (.int .i64 v22)] h_4 fun r h_5 =>
      s26l3_E (s26l3 Ψ) t1 k1 v24 (.sl r 1 0 3) h_5))

def s26 (Ψ : AVal → Heap → Prop) (t : AVal) (atom : ByteArray) (k : Int) (h : Heap) : Prop :=
  ifT (k == (-1)) (
    callG prog 58 [t] h fun v h_ =>
    tTup v fun l_ =>
    tCons l_ fun v1 l_1 =>
    tInt .i64 v1 fun v2 =>
    tCons l_1 fun v3 l_2 =>
    tInt .i64 v3 fun v4 =>
    tNil l_2 (
      ifT (v4 != 0) (
        retG (.tuple [(.int .i64 0), (.int .i64 v4)]) h_ Ψ) (
        callG prog 59 [t, (.int .i64 v2), (.int .i64 v2)] h_ fun v5 h_1 =>
        tTup v5 fun l_3 =>
        tCons l_3 fun v6 l_4 =>
        tInt .i64 v6 fun v7 =>
        tCons l_4 fun v8 l_5 =>
        tInt .i64 v8 fun v9 =>
        tNil l_5 (
          retG (.tuple [(.int .i64 v7), (.int .i64 v9)]) h_1 Ψ)))) (
    ifT (k == 0) (
      callG prog 58 [t] h fun v10 h_2 =>
      tTup v10 fun l_6 =>
      tCons l_6 fun v11 l_7 =>
      tInt .i64 v11 fun v12 =>
      tCons l_7 fun v13 l_8 =>
      tInt .i64 v13 fun v14 =>
      tNil l_8 (
        retG (.tuple [(.int .i64 v12), (.int .i64 v14)]) h_2 Ψ)) (
      callG prog 60 [t, (.str atom)] h fun v15 h_3 =>
      tTup v15 fun l_9 =>
      tCons l_9 fun v16 l_10 =>
      tInt .i64 v16 fun v17 =>
      tCons l_10 fun v18 l_11 =>
      tInt .i64 v18 fun v19 =>
      tNil l_11 (
        ifT (k == 1) (
          s26c1 Ψ t k v17 v19 true h_3) (
          s26c1 Ψ t k v17 v19 (v19 != 0) h_3))))

def s26_A (Ψ : AVal → Heap → Prop) : Ann :=
  .seq (rA 2)
  (.block (.seq (.seq (rA 1)
  (.block (.seq (rA 2)
  (.cond (.seq (rA 7)
  (.seq (.seq (rA 2)
  (.cond (.seq (rA 3)
  (.leaf))
  (.leaf)))
  (.seq (rA 8)
  (.leaf))))
  (.seq (rA 2)
  (.cond (.seq (rA 6)
  (.leaf))
  (.leaf)))))))
  (.seq (rA 8)
  (.seq (.cut [(0, .any), (2, .int .i64), (10, .int .i64), (11, .int .i64), (50, .bool)] (fun l h => J.cons l fun x0 l => J.cons l fun v l => J.int .i64 v fun x1 => J.cons l fun v l => J.int .i64 v fun x2 => J.cons l fun v l => J.int .i64 v fun x3 => J.cons l fun v l => J.bool v fun x4 => J.nil l (s26c1 Ψ x0 x1 x2 x3 x4 h)) (.reg [⟨none, [(0, false), (1, false), (2, false)]⟩, ⟨some (47, false), [(3, false), (4, false)]⟩, ⟨none, [(5, false)]⟩])
  (.cond (.seq (rA 4)
  (.leaf))
  (.leaf)))
  (.seq (rA 8)
  (.seq (rA 4)
  (.seq (.leaf)
  (.cut [(2, .int .i64), (11, .int .i64), (13, .any)] (fun l h => J.cons l fun v l => J.int .i64 v fun x0 => J.cons l fun v l => J.int .i64 v fun x1 => J.cons l fun x2 l => J.nil l (s26c2 Ψ x0 x1 x2 h)) (.block (.loop [(0, .any), (2, .int .i64), (11, .int .i64), (13, .any)] (fun n l h => s26l3_R (s26l3 Ψ n) l h) (fun L3 =>
  .seq (.seq (rA 2)
  (.cond (.leaf)
  (.leaf)))
  (.block (.seq (rA 3)
  (.seq (.seq (rA 3)
  (.cond (.leaf)
  (.leaf)))
  (.seq (rA 1)
  (.cut [(0, .any), (2, .int .i64), (11, .int .i64), (13, .any), (15, .int .i64)] (fun l h => J.cons l fun x0 l => J.cons l fun v l => J.int .i64 v fun x1 => J.cons l fun v l => J.int .i64 v fun x2 => J.cons l fun x3 l => J.cons l fun v l => J.int .i64 v fun x4 => J.nil l (s26c4 Ψ (fun y0 y1 y2 y3 h => L3 [y0, (.int .i64 y1), (.int .i64 y2), y3] h) x0 x1 x2 x3 x4 h)) (.seq (rA 3)
  (.cond (.draw [(0, false), (1, false), (2, false), (3, false), (4, false), (5, false), (6, false), (7, false), (8, false), (9, false), (10, false), (11, false), (12, false), (13, false), (14, false), (15, false), (16, false)] [0, 0, 0, 4, 14, 30, 0, 0, 128, 448, 960, 2047, 4095, 8191, 8191, 16383, 65535])
  (.draw [(0, false), (1, false), (2, false), (3, false), (4, false), (5, false), (6, false), (7, false), (8, false), (9, false), (10, false), (11, false), (12, false), (13, false), (14, false), (15, false), (16, false)] [0, 0, 0, 4, 14, 30, 0, 0, 128, 448, 960, 2047, 4095, 8191, 8191, 16383, 65535])))
  (.reg [⟨none, [(0, false), (1, false), (2, true), (3, false), (4, false)]⟩])))))))))
  (.seq (.seq (rA 2)
  (.cond (.seq (rA 3)
  (.leaf))
  (.leaf)))
  (.seq (rA 6)
  (.leaf)))))))))))

theorem s26_ok {Ψ : AVal → Heap → Prop} {t : AVal} {atom : ByteArray} {k : Int} {h : Heap} (H : s26 Ψ t atom k h) : ACalls prog 26 [t, (.str atom), (.int .i64 k)] h Ψ :=
  calls_of_evF func26 (by kernel_rfl) (by kernel_rfl) (by kernel_rfl)
    (Eq.mpr (by as_aux_lemma => kernel_rfl : oblF prog f26 (s26_A Ψ) Ψ = (True ∧ (True ∧ True ∧ (True ∧ (True ∧ (True ∧ True) ∧ True) ∧ True ∧ True) ∧ True ∧ (True ∧ True) ∧ True) ∧ True ∧ ((True) ∧ (∀ (h : Heap) (x0 : AVal) (x1 x2 x3 : Int) (x4 : Bool), OI (s26c1 Ψ x0 x1 x2 x3 x4 h)) ∧ ((True ∧ True) ∧ True)) ∧ True ∧ True ∧ True ∧ ((∀ (h : Heap) (x0 : AVal) (x1 x2 : Int) (x3 : AVal), ON (s26l3 Ψ 0 x0 x1 x2 x3 h)) ∧ ∀ n3 : Nat, (∀ (h : Heap) (x0 : AVal) (x1 x2 : Int) (x3 : AVal), OI (s26l3 Ψ (n3 + 1) x0 x1 x2 x3 h)) ∧ ((True ∧ True ∧ True) ∧ True ∧ (True ∧ True ∧ True) ∧ True ∧ (True ∧ True ∧ True) ∧ (∀ (h : Heap) (x0 : AVal) (x1 x2 : Int) (x3 : AVal) (x4 : Int), OI (s26c4 Ψ (s26l3_G (s26l3 Ψ n3)) x0 x1 x2 x3 x4 h)) ∧ (True))) ∧ (∀ (h : Heap) (x0 x1 : Int) (x2 : AVal), OI (s26c2 Ψ x0 x1 x2 h)) ∧ ((True ∧ (True ∧ True) ∧ True) ∧ True ∧ True))) ⟨trivial, ⟨⟨trivial, ⟨trivial, ⟨⟨trivial, ⟨⟨trivial, ⟨⟨trivial, trivial⟩, trivial⟩⟩, ⟨trivial, trivial⟩⟩⟩, ⟨trivial, ⟨⟨trivial, trivial⟩, trivial⟩⟩⟩⟩⟩, ⟨trivial, ⟨⟨trivial, fun _ _ _ _ _ _ H => H, ⟨⟨trivial, trivial⟩, trivial⟩⟩, ⟨trivial, ⟨trivial, ⟨trivial, ⟨⟨fun _ _ _ _ _ H => H, fun _ => ⟨fun _ _ _ _ _ H => H, ⟨⟨trivial, ⟨trivial, trivial⟩⟩, ⟨trivial, ⟨⟨trivial, ⟨trivial, trivial⟩⟩, ⟨trivial, ⟨⟨trivial, ⟨trivial, trivial⟩⟩, fun _ _ _ _ _ _ H => H, trivial⟩⟩⟩⟩⟩⟩⟩, fun _ _ _ _ H => H, ⟨⟨trivial, ⟨⟨trivial, trivial⟩, trivial⟩⟩, ⟨trivial, trivial⟩⟩⟩⟩⟩⟩⟩⟩⟩⟩)
    (Eq.mpr (by as_aux_lemma => kernel_rfl : evF prog f26 (s26_A Ψ) Ψ [t, (.str atom), (.int .i64 k)] h = s26 Ψ t atom k h) H)

/- 28 dictum/dictumref03.Word -/
abbrev s28l2_T := ByteArray → Int → Heap → Prop
def s28l2_R (F : s28l2_T) (l : List AVal) (h : Heap) : Prop := J.cons l fun v l => J.str v fun x0 => J.cons l fun v l => J.int .i64 v fun x1 => J.nil l (F x0 x1 h)
def s28l2_G (F : s28l2_T) (x0 : ByteArray) (x1 : Int) (h : Heap) : Prop := gJ [.str, .int .i64] [(.str x0), (.int .i64 x1)] h (s28l2_R F)
def s28l2_E (F : Nat → s28l2_T) (x0 : ByteArray) (x1 : Int) (h : Heap) : Prop := gJ [.str, .int .i64] [(.str x0), (.int .i64 x1)] h (fun l h => ∃ n, s28l2_R (F n) l h)
theorem s28l2_go {F : s28l2_T} {x0 : ByteArray} {x1 : Int} {h : Heap} (H : F x0 x1 h) : s28l2_G F x0 x1 h := gJ_plain rfl H
theorem s28l2_in {F : Nat → s28l2_T} {x0 : ByteArray} {x1 : Int} {h : Heap} (n : Nat) (H : F n x0 x1 h) : s28l2_E F x0 x1 h := gJ_plain rfl ⟨n, H⟩

def s28c3 (Ψ : AVal → Heap → Prop) (L2 : s28l2_T) (s3 : ByteArray) (i1 : Int) (t55 : Bool) (h : Heap) : Prop :=
  ifT t55 (
    retG (.bool false) h Ψ) (
    rg (i1 + 1) (
      L2 s3 (i1 + 1) h))

abbrev s28l4_T := ByteArray → AVal → Int → Heap → Prop
def s28l4_R (F : s28l4_T) (l : List AVal) (h : Heap) : Prop := J.cons l fun v l => J.str v fun x0 => J.cons l fun x1 l => J.cons l fun v l => J.int .i64 v fun x2 => J.nil l (F x0 x1 x2 h)
def s28l4_G (F : s28l4_T) (x0 : ByteArray) (x1 : AVal) (x2 : Int) (h : Heap) : Prop := gJ [.str, .any, .int .i64] [(.str x0), x1, (.int .i64 x2)] h (s28l4_R F)
def s28l4_E (F : Nat → s28l4_T) (x0 : ByteArray) (x1 : AVal) (x2 : Int) (h : Heap) : Prop := gJ [.str, .any, .int .i64] [(.str x0), x1, (.int .i64 x2)] h (fun l h => ∃ n, s28l4_R (F n) l h)
theorem s28l4_go {F : s28l4_T} {x0 : ByteArray} {x1 : AVal} {x2 : Int} {h : Heap} (H : F x0 x1 x2 h) : s28l4_G F x0 x1 x2 h := gJ_plain rfl H
theorem s28l4_in {F : Nat → s28l4_T} {x0 : ByteArray} {x1 : AVal} {x2 : Int} {h : Heap} (n : Nat) (H : F n x0 x1 x2 h) : s28l4_E F x0 x1 x2 h := gJ_plain rfl ⟨n, H⟩

def s28l4 (Ψ : AVal → Heap → Prop) : Nat → s28l4_T
  | 0, _, _, _, _ => False
  | n1 + 1, s4, l_, i2, h =>
    lenN l_ fun n2 =>
    ifT (decide (i2 < n2)) (
      ixS 1 l_ i2 fun p =>
      ld1 h p fun v3 =>
      tStr v3 fun v4 =>
      ifT (strEq v4 s4) (
        retG (.bool false) h Ψ) (
        rg (i2 + 1) (
          s28l4_G (s28l4 Ψ n1) s4 l_ (i2 + 1) h))) (
      retG (.bool true) h Ψ)

def s28l2 (Ψ : AVal → Heap → Prop) : Nat → s28l2_T
  | 0, _, _, _ => False
  | n + 1, s2, i, h =>
    ifT (decide (i < (s2.size : Int))) (
      ((0 : Int) ≤ i ∧ i < (s2.size : Int)) ∧
      callG prog 63 [(.int .u8 (btA s2 i))] h fun v h_ =>
      tBool v fun v1 =>
      ifT (!v1) (
        ((0 : Int) ≤ i ∧ i < (s2.size : Int)) ∧
        ifT (decide (48 ≤ (btA s2 i))) (
          ((0 : Int) ≤ i ∧ i < (s2.size : Int)) ∧
          ifT (!(decide ((btA s2 i) ≤ 57))) (
            ((0 : Int) ≤ i ∧ i < (s2.size : Int)) ∧
            ifT ((btA s2 i) != 95) (
              ((0 : Int) ≤ i ∧ i < (s2.size : Int)) ∧
              s28c3 Ψ (s28l2_G (s28l2 Ψ n)) s2 i ((btA s2 i) != 39) h_) (
              s28c3 Ψ (s28l2_G (s28l2 Ψ n)) s2 i false h_)) (
            s28c3 Ψ (s28l2_G (s28l2 Ψ n)) s2 i false h_)) (
          ((0 : Int) ≤ i ∧ i < (s2.size : Int)) ∧
          ifT ((btA s2 i) != 95) (
            ((0 : Int) ≤ i ∧ i < (s2.size : Int)) ∧
            s28c3 Ψ (s28l2_G (s28l2 Ψ n)) s2 i ((btA s2 i) != 39) h_) (
            s28c3 Ψ (s28l2_G (s28l2 Ψ n)) s2 i false h_))) (
        s28c3 Ψ (s28l2_G (s28l2 Ψ n)) s2 i false h_)) (
      callG prog 64 [] h fun v2 h_1 =>
      s28l4_E (s28l4 Ψ) s2 v2 0 h_1)

def s28c1 (Ψ : AVal → Heap → Prop) (s1 : ByteArray) (t19 : Bool) (h : Heap) : Prop :=
  ifT t19 (
    retG (.bool false) h Ψ) (
    s28l2_E (s28l2 Ψ) s1 1 h)

def s28 (Ψ : AVal → Heap → Prop) (s : ByteArray) (h : Heap) : Prop :=
  ifT (decide ((s.size : Int) < 1)) (
    s28c1 Ψ s true h) (
    ifT (decide (31 < (s.size : Int))) (
      s28c1 Ψ s true h) (
      ((0 : Int) ≤ 0 ∧ 0 < (s.size : Int)) ∧
      callG prog 63 [(.int .u8 (btA s 0))] h fun v5 h_2 =>
      tBool v5 fun v6 =>
      s28c1 Ψ s (!v6) h_2))

def s28_A (Ψ : AVal → Heap → Prop) : Ann :=
  .seq (rA 1)
  (.seq (.cut [(0, .str), (19, .bool)] (fun l h => J.cons l fun v l => J.str v fun x0 => J.cons l fun v l => J.bool v fun x1 => J.nil l (s28c1 Ψ x0 x1 h)) (.reg [⟨none, [(0, false), (1, false), (2, false), (3, false)]⟩, ⟨some (9, false), [(4, false), (5, false), (6, false)]⟩, ⟨none, [(7, false), (8, false)]⟩, ⟨some (14, false), [(9, false), (10, false), (11, false), (12, false)]⟩, ⟨none, [(13, false)]⟩])
  (.cond (.seq (rA 1)
  (.leaf))
  (.leaf)))
  (.seq (.seq (rA 1)
  (.block (.loop [(0, .str), (3, .int .i64)] (fun n l h => s28l2_R (s28l2 Ψ n) l h) (fun L2 =>
  .seq (.seq (rA 4)
  (.cond (.leaf)
  (.leaf)))
  (.seq (.block (.cut [(0, .str), (3, .int .i64), (55, .bool)] (fun l h => J.cons l fun v l => J.str v fun x0 => J.cons l fun v l => J.int .i64 v fun x1 => J.cons l fun v l => J.bool v fun x2 => J.nil l (s28c3 Ψ (fun y0 y1 h => L2 [(.str y0), (.int .i64 y1)] h) x0 x1 x2 h)) (.reg [⟨none, [(0, false), (1, false), (2, false), (3, false), (4, false), (5, false)]⟩, ⟨some (31, true), [(6, false), (7, false), (8, false), (9, false), (10, false)]⟩, ⟨some (36, true), [(11, false), (12, false), (13, false), (14, false)]⟩, ⟨some (31, true), [(15, false), (16, false)]⟩, ⟨none, [(17, false), (18, false)]⟩, ⟨some (44, true), [(19, false), (20, false), (21, false), (22, false)]⟩, ⟨none, [(23, false), (24, false)]⟩, ⟨some (50, true), [(25, false), (26, false), (27, false), (28, false)]⟩, ⟨none, [(29, false)]⟩])
  (.cond (.seq (rA 1)
  (.leaf))
  (.leaf))))
  (rA 3))))))
  (.seq (rA 2)
  (.seq (.seq (rA 1)
  (.block (.loop [(0, .str), (4, .any), (5, .int .i64)] (fun n l h => s28l4_R (s28l4 Ψ n) l h) (fun L4 =>
  .seq (.seq (rA 4)
  (.cond (.leaf)
  (.leaf)))
  (.seq (.block (.seq (rA 6)
  (.cond (.seq (rA 1)
  (.leaf))
  (.leaf))))
  (rA 3))))))
  (.seq (rA 1)
  (.leaf))))))

theorem s28_ok {Ψ : AVal → Heap → Prop} {s : ByteArray} {h : Heap} (H : s28 Ψ s h) : ACalls prog 28 [(.str s)] h Ψ :=
  calls_of_evF func28 (by kernel_rfl) (by kernel_rfl) (by kernel_rfl)
    (Eq.mpr (by as_aux_lemma => kernel_rfl : oblF prog f28 (s28_A Ψ) Ψ = (True ∧ ((True) ∧ (∀ (h : Heap) (x0 : ByteArray) (x1 : Bool), OI (s28c1 Ψ x0 x1 h)) ∧ ((True ∧ True) ∧ True)) ∧ (True ∧ (∀ (h : Heap) (x0 : ByteArray) (x1 : Int), ON (s28l2 Ψ 0 x0 x1 h)) ∧ ∀ n2 : Nat, (∀ (h : Heap) (x0 : ByteArray) (x1 : Int), OI (s28l2 Ψ (n2 + 1) x0 x1 h)) ∧ ((True ∧ True ∧ True) ∧ ((True) ∧ (∀ (h : Heap) (x0 : ByteArray) (x1 : Int) (x2 : Bool), OI (s28c3 Ψ (s28l2_G (s28l2 Ψ n2)) x0 x1 x2 h)) ∧ ((True ∧ True) ∧ True)) ∧ True)) ∧ True ∧ (True ∧ (∀ (h : Heap) (x0 : ByteArray) (x1 : AVal) (x2 : Int), ON (s28l4 Ψ 0 x0 x1 x2 h)) ∧ ∀ n4 : Nat, (∀ (h : Heap) (x0 : ByteArray) (x1 : AVal) (x2 : Int), OI (s28l4 Ψ (n4 + 1) x0 x1 x2 h)) ∧ ((True ∧ True ∧ True) ∧ (True ∧ (True ∧ True) ∧ True) ∧ True)) ∧ True ∧ True)) ⟨trivial, ⟨⟨trivial, fun _ _ _ H => H, ⟨⟨trivial, trivial⟩, trivial⟩⟩, ⟨⟨trivial, ⟨fun _ _ _ H => H, fun _ => ⟨fun _ _ _ H => H, ⟨⟨trivial, ⟨trivial, trivial⟩⟩, ⟨⟨trivial, fun _ _ _ _ H => H, ⟨⟨trivial, trivial⟩, trivial⟩⟩, trivial⟩⟩⟩⟩⟩, ⟨trivial, ⟨⟨trivial, ⟨fun _ _ _ _ H => H, fun _ => ⟨fun _ _ _ _ H => H, ⟨⟨trivial, ⟨trivial, trivial⟩⟩, ⟨⟨trivial, ⟨⟨trivial, trivial⟩, trivial⟩⟩, trivial⟩⟩⟩⟩⟩, ⟨trivial, trivial⟩⟩⟩⟩⟩⟩)
    (Eq.mpr (by as_aux_lemma => kernel_rfl : evF prog f28 (s28_A Ψ) Ψ [(.str s)] h = s28 Ψ s h) H)

/- 30 dictum/dictumref26.rung -/
abbrev s30l3_T := AVal → Int → Int → Int → Int → Heap → Prop
def s30l3_R (F : s30l3_T) (l : List AVal) (h : Heap) : Prop := J.cons l fun x0 l => J.cons l fun v l => J.int .i64 v fun x1 => J.cons l fun v l => J.int .i64 v fun x2 => J.cons l fun v l => J.int .i64 v fun x3 => J.cons l fun v l => J.int .i64 v fun x4 => J.nil l (F x0 x1 x2 x3 x4 h)
def s30l3_G (F : s30l3_T) (x0 : AVal) (x1 x2 x3 x4 : Int) (h : Heap) : Prop := gJ [.any, .int .i64, .int .i64, .int .i64, .int .i64] [x0, (.int .i64 x1), (.int .i64 x2), (.int .i64 x3), (.int .i64 x4)] h (s30l3_R F)
def s30l3_E (F : Nat → s30l3_T) (x0 : AVal) (x1 x2 x3 x4 : Int) (h : Heap) : Prop := gJ [.any, .int .i64, .int .i64, .int .i64, .int .i64] [x0, (.int .i64 x1), (.int .i64 x2), (.int .i64 x3), (.int .i64 x4)] h (fun l h => ∃ n, s30l3_R (F n) l h)
theorem s30l3_go {F : s30l3_T} {x0 : AVal} {x1 x2 x3 x4 : Int} {h : Heap} (H : F x0 x1 x2 x3 x4 h) : s30l3_G F x0 x1 x2 x3 x4 h := gJ_plain rfl H
theorem s30l3_in {F : Nat → s30l3_T} {x0 : AVal} {x1 x2 x3 x4 : Int} {h : Heap} (n : Nat) (H : F n x0 x1 x2 x3 x4 h) : s30l3_E F x0 x1 x2 x3 x4 h := gJ_plain rfl ⟨n, H⟩

def s30c5 (Ψ : AVal → Heap → Prop) (L3 : s30l3_T) (t5 : AVal) (k5 e3 odd2 even2 i2 x1 : Int) (t100 : Bool) (h : Heap) : Prop :=
  ifT t100 (
    retG (.tuple [(.int .i64 x1), (.int .i64 e3)]) h Ψ) (
    rg (i2 + 1) (
      L3 t5 k5 odd2 even2 (i2 + 1) h))

def s30c4 (Ψ : AVal → Heap → Prop) (L3 : s30l3_T) (t4 : AVal) (k4 e2 odd1 even1 i1 x : Int) (h : Heap) : Prop :=
  ifT (e2 != 0) (
    s30c5 Ψ L3 t4 k4 e2 odd1 even1 i1 x true h) (
    s30c5 Ψ L3 t4 k4 e2 odd1 even1 i1 x (i1 == k4) h)

def s30l3 (Ψ : AVal → Heap → Prop) : Nat → s30l3_T
  | 0, _, _, _, _, _, _ => False
  | n + 1, t3, k3, odd, even, i, h =>
    ifT (decide (i ≤ k3)) (
      2 ≠ (0 : Int) ∧
      ifT ((Int.tmod i 2) == 1) (
        callG prog 69 [t3, (.int .i64 4), (.int .i64 odd), (.int .i64 even)] h fun v25 h_5 =>
        tTup v25 fun l_15 =>
        tCons l_15 fun v26 l_16 =>
        tInt .i64 v26 fun v27 =>
        tCons l_16 fun v28 l_17 =>
        tInt .i64 v28 fun v29 =>
        tNil l_17 (
          s30c4 Ψ (s30l3_G (s30l3 Ψ n)) t3 k3 v29 v27 odd i v27 h_5)) (
        callG prog 66 [t3, (.int .i64 odd), (.int .i64 even)] h fun v30 h_6 =>
        tTup v30 fun l_18 =>
        tCons l_18 fun v31 l_19 =>
        tInt .i64 v31 fun v32 =>
        tCons l_19 fun v33 l_20 =>
        tInt .i64 v33 fun v34 =>
        tNil l_20 (
          s30c4 Ψ (s30l3_G (s30l3 Ψ n)) t3 k3 v34 odd v32 i v32 h_6))) (
      retG (.tuple [(.int .i64 0), (.int .i64 0)]) h Ψ)

def s30c2 (Ψ : AVal → Heap → Prop) (t2 : AVal) (k2 p1 e1 q : Int) (t64 : Bool) (h : Heap) : Prop :=
  ifT t64 (
    retG (.tuple [(.int .i64 q), (.int .i64 e1)]) h Ψ) (
    s30l3_E (s30l3 Ψ) t2 k2 p1 q 3 h)

def s30c1 (Ψ : AVal → Heap → Prop) (t1 : AVal) (k1 p e : Int) (t50 : Bool) (h : Heap) : Prop :=
  ifT t50 (
    retG (.tuple [(.int .i64 p), (.int .i64 e)]) h Ψ) (
    callG prog 68 [t1, (.int .i64 p)] h fun v20 h_4 =>
    tTup v20 fun l_12 =>
    tCons l_12 fun v21 l_13 =>
    tInt .i64 v21 fun v22 =>
    tCons l_13 fun v23 l_14 =>
    tInt .i64 v23 fun v24 =>
    tNil l_14 (
      ifT (v24 != 0) (
        s30c2 Ψ t1 k1 p v24 v22 true h_4) (
        s30c2 Ψ t1 k1 p v24 v22 (k1 == 2) h_4)))

def s30 (Ψ : AVal → Heap → Prop) (t : AVal) (atom : ByteArray) (k : Int) (h : Heap) : Prop :=
  ifT (k == 0) (
    callG prog 65 [t] h fun v h_ =>
    tTup v fun l_ =>
    tCons l_ fun v1 l_1 =>
    tInt .i64 v1 fun v2 =>
    tCons l_1 fun v3 l_2 =>
    tInt .i64 v3 fun v4 =>
    tNil l_2 (
      retG (.tuple [(.int .i64 v2), (.int .i64 v4)]) h_ Ψ)) (
    ifT (k == (-1)) (
      callG prog 65 [t] h fun v5 h_1 =>
      tTup v5 fun l_3 =>
      tCons l_3 fun v6 l_4 =>
      tInt .i64 v6 fun v7 =>
      tCons l_4 fun v8 l_5 =>
      tInt .i64 v8 fun v9 =>
      tNil l_5 (
        ifT (v9 != 0) (
          retG (.tuple [(.int .i64 0), (.int .i64 v9)]) h_1 Ψ) (
          callG prog 66 [t, (.int .i64 v7), (.int .i64 v7)] h_1 fun v10 h_2 =>
          tTup v10 fun l_6 =>
          tCons l_6 fun v11 l_7 =>
          tInt .i64 v11 fun v12 =>
          tCons l_7 fun v13 l_8 =>
          tInt .i64 v13 fun v14 =>
          tNil l_8 (
            retG (.tuple [(.int .i64 v12), (.int .i64 v14)]) h_2 Ψ)))) (
      callG prog 67 [t, (.str atom)] h fun v15 h_3 =>
      tTup v15 fun l_9 =>
      tCons l_9 fun v16 l_10 =>
      tInt .i64 v16 fun v17 =>
      tCons l_10 fun v18 l_11 =>
      tInt .i64 v18 fun v19 =>
      tNil l_11 (
        ifT (v19 != 0) (
          s30c1 Ψ t k v17 v19 true h_3) (
          s30c1 Ψ t k v17 v19 (k == 1) h_3))))

def s30_A (Ψ : AVal → Heap → Prop) : Ann :=
  .seq (rA 2)
  (.seq (.seq (rA 2)
  (.cond (.seq (rA 6)
  (.leaf))
  (.leaf)))
  (.seq (.seq (rA 2)
  (.cond (.seq (rA 7)
  (.seq (.seq (rA 2)
  (.cond (.seq (rA 3)
  (.leaf))
  (.leaf)))
  (.seq (rA 8)
  (.leaf))))
  (.leaf)))
  (.seq (rA 8)
  (.seq (.cut [(0, .any), (2, .int .i64), (10, .int .i64), (11, .int .i64), (50, .bool)] (fun l h => J.cons l fun x0 l => J.cons l fun v l => J.int .i64 v fun x1 => J.cons l fun v l => J.int .i64 v fun x2 => J.cons l fun v l => J.int .i64 v fun x3 => J.cons l fun v l => J.bool v fun x4 => J.nil l (s30c1 Ψ x0 x1 x2 x3 x4 h)) (.reg [⟨none, [(0, false), (1, false), (2, false)]⟩, ⟨some (47, false), [(3, false), (4, false)]⟩, ⟨none, [(5, false)]⟩])
  (.cond (.seq (rA 4)
  (.leaf))
  (.leaf)))
  (.seq (rA 8)
  (.seq (.cut [(0, .any), (2, .int .i64), (10, .int .i64), (11, .int .i64), (12, .int .i64), (64, .bool)] (fun l h => J.cons l fun x0 l => J.cons l fun v l => J.int .i64 v fun x1 => J.cons l fun v l => J.int .i64 v fun x2 => J.cons l fun v l => J.int .i64 v fun x3 => J.cons l fun v l => J.int .i64 v fun x4 => J.cons l fun v l => J.bool v fun x5 => J.nil l (s30c2 Ψ x0 x1 x2 x3 x4 x5 h)) (.reg [⟨none, [(0, false), (1, false), (2, false)]⟩, ⟨some (61, false), [(3, false), (4, false)]⟩, ⟨none, [(5, false)]⟩])
  (.cond (.seq (rA 4)
  (.leaf))
  (.leaf)))
  (.seq (rA 4)
  (.seq (.seq (rA 1)
  (.block (.loop [(0, .any), (2, .int .i64), (13, .int .i64), (14, .int .i64), (15, .int .i64)] (fun n l h => s30l3_R (s30l3 Ψ n) l h) (fun L3 =>
  .seq (.seq (rA 3)
  (.cond (.leaf)
  (.leaf)))
  (.seq (.block (.seq (rA 1)
  (.cut [(0, .any), (2, .int .i64), (11, .int .i64), (13, .int .i64), (14, .int .i64), (15, .int .i64), (16, .int .i64)] (fun l h => J.cons l fun x0 l => J.cons l fun v l => J.int .i64 v fun x1 => J.cons l fun v l => J.int .i64 v fun x2 => J.cons l fun v l => J.int .i64 v fun x3 => J.cons l fun v l => J.int .i64 v fun x4 => J.cons l fun v l => J.int .i64 v fun x5 => J.cons l fun v l => J.int .i64 v fun x6 => J.nil l (s30c4 Ψ (fun y0 y1 y2 y3 y4 h => L3 [y0, (.int .i64 y1), (.int .i64 y2), (.int .i64 y3), (.int .i64 y4)] h) x0 x1 x2 x3 x4 x5 x6 h)) (.seq (rA 3)
  (.cond (.seq (rA 9)
  (.seq (rA 2)
  (rA 2)))
  (.seq (rA 9)
  (rA 2))))
  (.cut [(0, .any), (2, .int .i64), (11, .int .i64), (13, .int .i64), (14, .int .i64), (15, .int .i64), (16, .int .i64), (100, .bool)] (fun l h => J.cons l fun x0 l => J.cons l fun v l => J.int .i64 v fun x1 => J.cons l fun v l => J.int .i64 v fun x2 => J.cons l fun v l => J.int .i64 v fun x3 => J.cons l fun v l => J.int .i64 v fun x4 => J.cons l fun v l => J.int .i64 v fun x5 => J.cons l fun v l => J.int .i64 v fun x6 => J.cons l fun v l => J.bool v fun x7 => J.nil l (s30c5 Ψ (fun y0 y1 y2 y3 y4 h => L3 [y0, (.int .i64 y1), (.int .i64 y2), (.int .i64 y3), (.int .i64 y4)] h) x0 x1 x2 x3 x4 x5 x6 x7 h)) (.reg [⟨none, [(0, false), (1, false), (2, false)]⟩, ⟨some (96, false), [(3, false), (4, false), (5, false)]⟩, ⟨none, [(6, false)]⟩])
  (.cond (.seq (rA 4)
  (.leaf))
  (.leaf))))))
  (rA 3))))))
  (.seq (rA 2)
  (.leaf))))))))))

theorem s30_ok {Ψ : AVal → Heap → Prop} {t : AVal} {atom : ByteArray} {k : Int} {h : Heap} (H : s30 Ψ t atom k h) : ACalls prog 30 [t, (.str atom), (.int .i64 k)] h Ψ :=
  calls_of_evF func30 (by kernel_rfl) (by kernel_rfl) (by kernel_rfl)
    (Eq.mpr (by as_aux_lemma => kernel_rfl : oblF prog f30 (s30_A Ψ) Ψ = (True ∧ (True ∧ (True ∧ True) ∧ True) ∧ (True ∧ (True ∧ (True ∧ (True ∧ True) ∧ True) ∧ True ∧ True) ∧ True) ∧ True ∧ ((True) ∧ (∀ (h : Heap) (x0 : AVal) (x1 x2 x3 : Int) (x4 : Bool), OI (s30c1 Ψ x0 x1 x2 x3 x4 h)) ∧ ((True ∧ True) ∧ True)) ∧ True ∧ ((True) ∧ (∀ (h : Heap) (x0 : AVal) (x1 x2 x3 x4 : Int) (x5 : Bool), OI (s30c2 Ψ x0 x1 x2 x3 x4 x5 h)) ∧ ((True ∧ True) ∧ True)) ∧ True ∧ (True ∧ (∀ (h : Heap) (x0 : AVal) (x1 x2 x3 x4 : Int), ON (s30l3 Ψ 0 x0 x1 x2 x3 x4 h)) ∧ ∀ n3 : Nat, (∀ (h : Heap) (x0 : AVal) (x1 x2 x3 x4 : Int), OI (s30l3 Ψ (n3 + 1) x0 x1 x2 x3 x4 h)) ∧ ((True ∧ True ∧ True) ∧ (True ∧ (True ∧ (True ∧ True ∧ True) ∧ True ∧ True) ∧ (∀ (h : Heap) (x0 : AVal) (x1 x2 x3 x4 x5 x6 : Int), OI (s30c4 Ψ (s30l3_G (s30l3 Ψ n3)) x0 x1 x2 x3 x4 x5 x6 h)) ∧ ((True) ∧ (∀ (h : Heap) (x0 : AVal) (x1 x2 x3 x4 x5 x6 : Int) (x7 : Bool), OI (s30c5 Ψ (s30l3_G (s30l3 Ψ n3)) x0 x1 x2 x3 x4 x5 x6 x7 h)) ∧ ((True ∧ True) ∧ True))) ∧ True)) ∧ True ∧ True)) ⟨trivial, ⟨⟨trivial, ⟨⟨trivial, trivial⟩, trivial⟩⟩, ⟨⟨trivial, ⟨⟨trivial, ⟨⟨trivial, ⟨⟨trivial, trivial⟩, trivial⟩⟩, ⟨trivial, trivial⟩⟩⟩, trivial⟩⟩, ⟨trivial, ⟨⟨trivial, fun _ _ _ _ _ _ H => H, ⟨⟨trivial, trivial⟩, trivial⟩⟩, ⟨trivial, ⟨⟨trivial, fun _ _ _ _ _ _ _ H => H, ⟨⟨trivial, trivial⟩, trivial⟩⟩, ⟨trivial, ⟨⟨trivial, ⟨fun _ _ _ _ _ _ H => H, fun _ => ⟨fun _ _ _ _ _ _ H => H, ⟨⟨trivial, ⟨trivial, trivial⟩⟩, ⟨⟨trivial, ⟨⟨trivial, ⟨⟨trivial, ⟨trivial, trivial⟩⟩, ⟨trivial, trivial⟩⟩⟩, fun _ _ _ _ _ _ _ _ H => H, ⟨trivial, fun _ _ _ _ _ _ _ _ _ H => H, ⟨⟨trivial, trivial⟩, trivial⟩⟩⟩⟩, trivial⟩⟩⟩⟩⟩, ⟨trivial, trivial⟩⟩⟩⟩⟩⟩⟩⟩⟩⟩)
    (Eq.mpr (by as_aux_lemma => kernel_rfl : evF prog f30 (s30_A Ψ) Ψ [t, (.str atom), (.int .i64 k)] h = s30 Ψ t atom k h) H)

/- 32 dictum/dictumlaw03.Like -/
def s32 (Ψ : AVal → Heap → Prop) (t : AVal) (r : AVal) (h : Heap) : Prop :=
  nilCheckA r fun p =>
  addOff p 0 fun p1 =>
  ld1 h p1 fun v =>
  callG prog 71 [t] h fun v1 h_ =>
  (ld1 h_ p1 fun v2 =>
  v2 = v) ∧
  callG prog 70 [v1, v] h_ fun v3 h_1 =>
  tBool v3 fun v4 =>
  ifT v4 (
    nilCheckA r fun p2 =>
    addOff p2 0 fun p3 =>
    ld1 h_1 p3 fun v5 =>
    lenN v5 fun n =>
    callG prog 25 [t] h_1 fun v6 h_2 =>
    tInt .i64 v6 fun v7 =>
    (ld1 h_2 p3 fun v8 =>
    v8 = v5) ∧
    retG (.bool (v7 == n)) h_2 Ψ) (
    retG (.bool false) h_1 Ψ)

def s32_A (Ψ : AVal → Heap → Prop) : Ann :=
  .seq (rA 1)
  (.seq (.draw [(0, false), (2, false), (3, false), (4, false), (5, false), (1, false), (6, false), (7, false), (8, false), (10, false), (11, false), (12, false), (13, false), (14, false), (9, false), (15, false), (16, false), (17, false)] [0, 1, 0, 4, 12, 28, 63, 127, 255, 511, 255, 1279, 3327, 7423, 15615, 32767, 65535, 131071])
  (.leaf))

theorem s32_ok {Ψ : AVal → Heap → Prop} {t : AVal} {r : AVal} {h : Heap} (H : s32 Ψ t r h) : ACalls prog 32 [t, r] h Ψ :=
  calls_of_evF func32 (by kernel_rfl) (by kernel_rfl) (by kernel_rfl)
    (Eq.mpr (by as_aux_lemma => kernel_rfl : oblF prog f32 (s32_A Ψ) Ψ = (True ∧ True ∧ True)) ⟨trivial, ⟨trivial, trivial⟩⟩)
    (Eq.mpr (by as_aux_lemma => kernel_rfl : evF prog f32 (s32_A Ψ) Ψ [t, r] h = s32 Ψ t r h) H)

/- 34 dictum/nishimura.Join -/
def s34 (Ψ : AVal → Heap → Prop) (a : Int) (b : Int) (h : Heap) : Prop :=
  callG prog 72 [(.int .i64 a), (.int .i64 b), (.func (.func 42) [] [])] h fun v h_ =>
  tTup v fun l_ =>
  tCons l_ fun v1 l_1 =>
  tInt .i64 v1 fun v2 =>
  tCons l_1 fun v3 l_2 =>
  tInt .i64 v3 fun v4 =>
  tNil l_2 (
    retG (.tuple [(.int .i64 v2), (.int .i64 v4)]) h_ Ψ)

def s34_A (Ψ : AVal → Heap → Prop) : Ann :=
  .seq (rA 2)
  (.seq (rA 7)
  (.leaf))

theorem s34_ok {Ψ : AVal → Heap → Prop} {a : Int} {b : Int} {h : Heap} (H : s34 Ψ a b h) : ACalls prog 34 [(.int .i64 a), (.int .i64 b)] h Ψ :=
  calls_of_evF func34 (by kernel_rfl) (by kernel_rfl) (by kernel_rfl)
    (Eq.mpr (by as_aux_lemma => kernel_rfl : oblF prog f34 (s34_A Ψ) Ψ = (True ∧ True ∧ True)) ⟨trivial, ⟨trivial, trivial⟩⟩)
    (Eq.mpr (by as_aux_lemma => kernel_rfl : evF prog f34 (s34_A Ψ) Ψ [(.int .i64 a), (.int .i64 b)] h = s34 Ψ a b h) H)

/- 36 dictum/nishimura.Below -/
def s36c1 (Ψ : AVal → Heap → Prop) (x y : AVal) (t25 : Bool) (h : Heap) : Prop :=
  ifT t25 (
    retG (.tuple [(.bool false), (.int .i64 2)]) h Ψ) (
    ldN 3 h x fun l_14 =>
    tCons l_14 fun v20 l_15 =>
    tBool v20 fun v21 =>
    tCons l_15 fun v22 l_16 =>
    tInt .i64 v22 fun v23 =>
    tCons l_16 fun v24 l_17 =>
    tBool v24 fun v25 =>
    tNil l_17 (
      ldN 3 h y fun l_18 =>
      tCons l_18 fun v26 l_19 =>
      tBool v26 fun v27 =>
      tCons l_19 fun v28 l_20 =>
      tInt .i64 v28 fun v29 =>
      tCons l_20 fun v30 l_21 =>
      tBool v30 fun v31 =>
      tNil l_21 (
        callG prog 74 [(.agg [(.bool v21), (.int .i64 v23), (.bool v25)]), (.agg [(.bool v27), (.int .i64 v29), (.bool v31)])] h fun v32 h_6 =>
        tBool v32 fun v33 =>
        retG (.tuple [(.bool v33), (.int .i64 0)]) h_6 Ψ)))

def s36 (Ψ : AVal → Heap → Prop) (a : Int) (b : Int) (h : Heap) : Prop :=
  callG prog 73 [(.int .i64 a)] h fun v h_ =>
  tTup v fun l_ =>
  tCons l_ fun v1 l_1 =>
  tCons l_1 fun v2 l_2 =>
  tBool v2 fun v3 =>
  tNil l_2 (
    tAgg v1 fun l_3 =>
    tCons l_3 fun v4 l_4 =>
    tBool v4 fun v5 =>
    tCons l_4 fun v6 l_5 =>
    tInt .i64 v6 fun v7 =>
    tCons l_5 fun v8 l_6 =>
    tBool v8 fun v9 =>
    tNil l_6 (
      Sym.newRow 3 [(.agg [(.bool false), (.int .i64 0), (.bool false)])] h_ fun r h_1 =>
      st false h_1 (.ptr r 0 0) [(.bool v5), (.int .i64 v7), (.bool v9)] fun h_2 =>
      callG prog 73 [(.int .i64 b)] h_2 fun v10 h_3 =>
      tTup v10 fun l_7 =>
      tCons l_7 fun v11 l_8 =>
      tCons l_8 fun v12 l_9 =>
      tBool v12 fun v13 =>
      tNil l_9 (
        tAgg v11 fun l_10 =>
        tCons l_10 fun v14 l_11 =>
        tBool v14 fun v15 =>
        tCons l_11 fun v16 l_12 =>
        tInt .i64 v16 fun v17 =>
        tCons l_12 fun v18 l_13 =>
        tBool v18 fun v19 =>
        tNil l_13 (
          Sym.newRow 3 [(.agg [(.bool false), (.int .i64 0), (.bool false)])] h_3 fun r1 h_4 =>
          st false h_4 (.ptr r1 0 0) [(.bool v15), (.int .i64 v17), (.bool v19)] fun h_5 =>
          ifT (!v3) (
            s36c1 Ψ (.ptr r 0 0) (.ptr r1 0 0) true h_5) (
            s36c1 Ψ (.ptr r 0 0) (.ptr r1 0 0) (!v13) h_5)))))

def s36_A (Ψ : AVal → Heap → Prop) : Ann :=
  .seq (rA 2)
  (.seq (rA 8)
  (.seq (rA 8)
  (.seq (.cut [(6, .any), (8, .any), (25, .bool)] (fun l h => J.cons l fun x0 l => J.cons l fun x1 l => J.cons l fun v l => J.bool v fun x2 => J.nil l (s36c1 Ψ x0 x1 x2 h)) (.reg [⟨none, [(0, false), (1, false), (2, false)]⟩, ⟨some (22, false), [(3, false), (4, false)]⟩, ⟨none, [(5, false)]⟩])
  (.cond (.seq (rA 2)
  (.leaf))
  (.leaf)))
  (.seq (rA 5)
  (.leaf)))))

theorem s36_ok {Ψ : AVal → Heap → Prop} {a : Int} {b : Int} {h : Heap} (H : s36 Ψ a b h) : ACalls prog 36 [(.int .i64 a), (.int .i64 b)] h Ψ :=
  calls_of_evF func36 (by kernel_rfl) (by kernel_rfl) (by kernel_rfl)
    (Eq.mpr (by as_aux_lemma => kernel_rfl : oblF prog f36 (s36_A Ψ) Ψ = (True ∧ True ∧ True ∧ ((True) ∧ (∀ (h : Heap) (x0 x1 : AVal) (x2 : Bool), OI (s36c1 Ψ x0 x1 x2 h)) ∧ ((True ∧ True) ∧ True)) ∧ True ∧ True)) ⟨trivial, ⟨trivial, ⟨trivial, ⟨⟨trivial, fun _ _ _ _ H => H, ⟨⟨trivial, trivial⟩, trivial⟩⟩, ⟨trivial, trivial⟩⟩⟩⟩⟩)
    (Eq.mpr (by as_aux_lemma => kernel_rfl : evF prog f36 (s36_A Ψ) Ψ [(.int .i64 a), (.int .i64 b)] h = s36 Ψ a b h) H)

/- 39 dictum/measure.Atoms -/
abbrev s39l1_T := AVal → AVal → AVal → Int → Int → Heap → Prop
def s39l1_R (F : s39l1_T) (l : List AVal) (h : Heap) : Prop := J.cons l fun x0 l => J.cons l fun x1 l => J.cons l fun x2 l => J.cons l fun v l => J.int .i64 v fun x3 => J.cons l fun v l => J.int .i64 v fun x4 => J.nil l (F x0 x1 x2 x3 x4 h)
def s39l1_G (F : s39l1_T) (x0 x1 x2 : AVal) (x3 x4 : Int) (h : Heap) : Prop := gJ [.any, .any, .any, .int .i64, .int .i64] [x0, x1, x2, (.int .i64 x3), (.int .i64 x4)] h (s39l1_R F)
def s39l1_E (F : Nat → s39l1_T) (x0 x1 x2 : AVal) (x3 x4 : Int) (h : Heap) : Prop := gJ [.any, .any, .any, .int .i64, .int .i64] [x0, x1, x2, (.int .i64 x3), (.int .i64 x4)] h (fun l h => ∃ n, s39l1_R (F n) l h)
theorem s39l1_go {F : s39l1_T} {x0 x1 x2 : AVal} {x3 x4 : Int} {h : Heap} (H : F x0 x1 x2 x3 x4 h) : s39l1_G F x0 x1 x2 x3 x4 h := gJ_plain rfl H
theorem s39l1_in {F : Nat → s39l1_T} {x0 x1 x2 : AVal} {x3 x4 : Int} {h : Heap} (n : Nat) (H : F n x0 x1 x2 x3 x4 h) : s39l1_E F x0 x1 x2 x3 x4 h := gJ_plain rfl ⟨n, H⟩

def s39c2 (Ψ : AVal → Heap → Prop) (L1 : s39l1_T) (t2 out1 t30_1 : AVal) (t31_1 t32_1 : Int) (h : Heap) : Prop :=
  rg (t32_1 + 1) (
    L1 t2 out1 t30_1 t31_1 (t32_1 + 1) h)

def s39l1 (Ψ : AVal → Heap → Prop) : Nat → s39l1_T
  | 0, _, _, _, _, _, _ => False
  | n1 + 1, t1, out, t30, t31, t32, h =>
    ifT (decide (t32 < t31)) (
      ixS 1 t30 t32 fun p =>
      ld1 h p fun v16 =>
      tInt .i64 v16 fun v17 =>
      callG prog 37 [t1, (.int .i64 v17)] h fun v18 h_4 =>
      tTup v18 fun l_11 =>
      tCons l_11 fun v19 l_12 =>
      tCons l_12 fun v20 l_13 =>
      tBool v20 fun v21 =>
      tNil l_13 (
        tAgg v19 fun l_14 =>
        tCons l_14 fun v22 l_15 =>
        tInt .i64 v22 fun v23 =>
        tCons l_15 fun v24 l_16 =>
        tStr v24 fun v25 =>
        tCons l_16 fun v26 l_17 =>
        tInt .i64 v26 fun v27 =>
        tCons l_17 fun v28 l_18 =>
        tInt .i64 v28 fun v29 =>
        tNil l_18 (
          Sym.newRow 4 [(.agg [(.int .i64 0), (.str (ByteArray.mk #[])), (.int .i64 0), (.int .i64 0)])] h_4 fun r1 h_5 =>
          st false h_5 (.ptr r1 0 0) [(.int .i64 v23), (.str v25), (.int .i64 v27), (.int .i64 v29)] fun h_6 =>
          ld1 h_6 (.ptr r1 0 0) fun v30 =>
          tInt .i64 v30 fun v31 =>
          ifT (v31 == 1) (
            ld1 h_6 (.ptr r1 0 1) fun v32 =>
            tStr v32 fun v33 =>
            appC 1 16 h_6 out (.lsl 1 [(.str v33)]) fun v34 h_7 =>
            s39c2 Ψ (s39l1_G (s39l1 Ψ n1)) t1 v34 t30 t31 t32 h_7) (
            s39c2 Ψ (s39l1_G (s39l1 Ψ n1)) t1 out t30 t31 t32 h_6)))) (
      callG prog 79 [out] h fun v35 h_8 =>
      retG (.tuple [out, (.int .i64 0)]) h_8 Ψ)

def s39 (Ψ : AVal → Heap → Prop) (t : AVal) (id_ : Int) (h : Heap) : Prop :=
  callG prog 78 [t, (.int .i64 id_)] h fun v h_ =>
  tTup v fun l_ =>
  tCons l_ fun v1 l_1 =>
  tCons l_1 fun v2 l_2 =>
  tInt .i64 v2 fun v3 =>
  tNil l_2 (
    tAgg v1 fun l_3 =>
    tCons l_3 fun v4 l_4 =>
    tInt .i64 v4 fun v5 =>
    tCons l_4 fun v6 l_5 =>
    tStr v6 fun v7 =>
    tCons l_5 fun v8 l_6 =>
    tInt .i64 v8 fun v9 =>
    tCons l_6 fun v10 l_7 =>
    tInt .i64 v10 fun v11 =>
    tNil l_7 (
      Sym.newRow 4 [(.agg [(.int .i64 0), (.str (ByteArray.mk #[])), (.int .i64 0), (.int .i64 0)])] h_ fun r h_1 =>
      st false h_1 (.ptr r 0 0) [(.int .i64 v5), (.str v7), (.int .i64 v9), (.int .i64 v11)] fun h_2 =>
      ifT (v3 != 0) (
        retG (.tuple [.nilsl, (.int .i64 v3)]) h_2 Ψ) (
        callG prog 40 [t, (.int .i64 id_)] h_2 fun v12 h_3 =>
        tTup v12 fun l_8 =>
        tCons l_8 fun v13 l_9 =>
        tCons l_9 fun v14 l_10 =>
        tInt .i64 v14 fun v15 =>
        tNil l_10 (
          lenN v13 fun n =>
          s39l1_E (s39l1 Ψ) t .nilsl v13 n 0 h_3))))

def s39_A (Ψ : AVal → Heap → Prop) : Ann :=
  .seq (rA 2)
  (.seq (.seq (rA 9)
  (.seq (rA 2)
  (.cond (.seq (rA 3)
  (.leaf))
  (.leaf))))
  (.seq (rA 1)
  (.seq (rA 8)
  (.seq (.seq (rA 3)
  (.block (.loop [(0, .any), (8, .any), (30, .any), (31, .int .i64), (32, .int .i64)] (fun n l h => s39l1_R (s39l1 Ψ n) l h) (fun L1 =>
  .seq (rA 1)
  (.seq (.cond (.leaf)
  (.leaf))
  (.cut [(0, .any), (8, .any), (30, .any), (31, .int .i64), (32, .int .i64)] (fun l h => J.cons l fun x0 l => J.cons l fun x1 l => J.cons l fun x2 l => J.cons l fun v l => J.int .i64 v fun x3 => J.cons l fun v l => J.int .i64 v fun x4 => J.nil l (s39c2 Ψ (fun y0 y1 y2 y3 y4 h => L1 [y0, y1, y2, (.int .i64 y3), (.int .i64 y4)] h) x0 x1 x2 x3 x4 h)) (.block (.seq (rA 3)
  (.seq (rA 9)
  (.seq (rA 3)
  (.cond (.reg [⟨none, [(0, false), (1, false), (2, false), (3, true), (4, false), (5, false)]⟩])
  (.leaf))))))
  (rA 2)))))))
  (.seq (rA 2)
  (.seq (rA 3)
  (.leaf)))))))

theorem s39_ok {Ψ : AVal → Heap → Prop} {t : AVal} {id_ : Int} {h : Heap} (H : s39 Ψ t id_ h) : ACalls prog 39 [t, (.int .i64 id_)] h Ψ :=
  calls_of_evF func39 (by kernel_rfl) (by kernel_rfl) (by kernel_rfl)
    (Eq.mpr (by as_aux_lemma => kernel_rfl : oblF prog f39 (s39_A Ψ) Ψ = (True ∧ (True ∧ True ∧ (True ∧ True) ∧ True) ∧ True ∧ True ∧ (True ∧ (∀ (h : Heap) (x0 x1 x2 : AVal) (x3 x4 : Int), ON (s39l1 Ψ 0 x0 x1 x2 x3 x4 h)) ∧ ∀ n1 : Nat, (∀ (h : Heap) (x0 x1 x2 : AVal) (x3 x4 : Int), OI (s39l1 Ψ (n1 + 1) x0 x1 x2 x3 x4 h)) ∧ (True ∧ (True ∧ True) ∧ (True ∧ True ∧ True ∧ True ∧ True) ∧ (∀ (h : Heap) (x0 x1 x2 : AVal) (x3 x4 : Int), OI (s39c2 Ψ (s39l1_G (s39l1 Ψ n1)) x0 x1 x2 x3 x4 h)) ∧ (True))) ∧ True ∧ True ∧ True)) ⟨trivial, ⟨⟨trivial, ⟨trivial, ⟨⟨trivial, trivial⟩, trivial⟩⟩⟩, ⟨trivial, ⟨trivial, ⟨⟨trivial, ⟨fun _ _ _ _ _ _ H => H, fun _ => ⟨fun _ _ _ _ _ _ H => H, ⟨trivial, ⟨⟨trivial, trivial⟩, ⟨⟨trivial, ⟨trivial, ⟨trivial, ⟨trivial, trivial⟩⟩⟩⟩, fun _ _ _ _ _ _ H => H, trivial⟩⟩⟩⟩⟩⟩, ⟨trivial, ⟨trivial, trivial⟩⟩⟩⟩⟩⟩⟩)
    (Eq.mpr (by as_aux_lemma => kernel_rfl : evF prog f39 (s39_A Ψ) Ψ [t, (.int .i64 id_)] h = s39 Ψ t id_ h) H)

/- 41 dictum/nishimura.meet -/
def s41 (Ψ : AVal → Heap → Prop) (a_all : Bool) (a_low : Int) (a_gap : Bool) (b_all : Bool) (b_low : Int) (b_gap : Bool) (h : Heap) : Prop :=
  Sym.newRow 3 [(.agg [(.bool false), (.int .i64 0), (.bool false)])] h fun r h_ =>
  callG prog 83 [(.agg [(.bool a_all), (.int .i64 a_low), (.bool a_gap)]), (.agg [(.bool b_all), (.int .i64 b_low), (.bool b_gap)])] h_ fun v h_1 =>
  tInt .i64 v fun v1 =>
  callG prog 82 [(.int .i64 v1), (.func (.func 84) [] [(.lptr [(.bool a_all), (.int .i64 a_low), (.bool a_gap)]), (.lptr [(.bool b_all), (.int .i64 b_low), (.bool b_gap)])])] h_1 fun v2 h_2 =>
  tAgg v2 fun l_ =>
  tCons l_ fun v3 l_1 =>
  tBool v3 fun v4 =>
  tCons l_1 fun v5 l_2 =>
  tInt .i64 v5 fun v6 =>
  tCons l_2 fun v7 l_3 =>
  tBool v7 fun v8 =>
  tNil l_3 (
    st false h_2 (.ptr r 0 0) [(.bool v4), (.int .i64 v6), (.bool v8)] fun h_3 =>
    ldN 3 h_3 (.ptr r 0 0) fun l_4 =>
    tCons l_4 fun v9 l_5 =>
    tBool v9 fun v10 =>
    tCons l_5 fun v11 l_6 =>
    tInt .i64 v11 fun v12 =>
    tCons l_6 fun v13 l_7 =>
    tBool v13 fun v14 =>
    tNil l_7 (
      retG (.agg [(.bool v10), (.int .i64 v12), (.bool v14)]) h_3 Ψ))

def s41_A (Ψ : AVal → Heap → Prop) : Ann :=
  .seq (.reg [⟨none, [(0, true), (1, true), (2, false)]⟩])
  (.seq (rA 6)
  (.leaf))

theorem s41_ok {Ψ : AVal → Heap → Prop} {a_all : Bool} {a_low : Int} {a_gap : Bool} {b_all : Bool} {b_low : Int} {b_gap : Bool} {h : Heap} (H : s41 Ψ a_all a_low a_gap b_all b_low b_gap h) : ACalls prog 41 [(.agg [(.bool a_all), (.int .i64 a_low), (.bool a_gap)]), (.agg [(.bool b_all), (.int .i64 b_low), (.bool b_gap)])] h Ψ :=
  calls_of_evF func41 (by kernel_rfl) (by kernel_rfl) (by kernel_rfl)
    (Eq.mpr (by as_aux_lemma => kernel_rfl : oblF prog f41 (s41_A Ψ) Ψ = (True ∧ True ∧ True)) ⟨trivial, ⟨trivial, trivial⟩⟩)
    (Eq.mpr (by as_aux_lemma => kernel_rfl : evF prog f41 (s41_A Ψ) Ψ [(.agg [(.bool a_all), (.int .i64 a_low), (.bool a_gap)]), (.agg [(.bool b_all), (.int .i64 b_low), (.bool b_gap)])] h = s41 Ψ a_all a_low a_gap b_all b_low b_gap h) H)

/- 43 dictum/nishimura.imp -/
abbrev s43l1_T := AVal → AVal → Int → Int → Heap → Prop
def s43l1_R (F : s43l1_T) (l : List AVal) (h : Heap) : Prop := J.cons l fun x0 l => J.cons l fun x1 l => J.cons l fun v l => J.int .i64 v fun x2 => J.cons l fun v l => J.int .i64 v fun x3 => J.nil l (F x0 x1 x2 x3 h)
def s43l1_G (F : s43l1_T) (x0 x1 : AVal) (x2 x3 : Int) (h : Heap) : Prop := gJ [.any, .any, .int .i64, .int .i64] [x0, x1, (.int .i64 x2), (.int .i64 x3)] h (s43l1_R F)
def s43l1_E (F : Nat → s43l1_T) (x0 x1 : AVal) (x2 x3 : Int) (h : Heap) : Prop := gJ [.any, .any, .int .i64, .int .i64] [x0, x1, (.int .i64 x2), (.int .i64 x3)] h (fun l h => ∃ n, s43l1_R (F n) l h)
theorem s43l1_go {F : s43l1_T} {x0 x1 : AVal} {x2 x3 : Int} {h : Heap} (H : F x0 x1 x2 x3 h) : s43l1_G F x0 x1 x2 x3 h := gJ_plain rfl H
theorem s43l1_in {F : Nat → s43l1_T} {x0 x1 : AVal} {x2 x3 : Int} {h : Heap} (n : Nat) (H : F n x0 x1 x2 x3 h) : s43l1_E F x0 x1 x2 x3 h := gJ_plain rfl ⟨n, H⟩

def s43l1 (Ψ : AVal → Heap → Prop) : Nat → s43l1_T
  | 0, _, _, _, _, _ => False
  | n + 1, t4, bars, t10, t11, h =>
    ifT (decide (t11 < t10)) (
      callV prog bars [(.int .i64 t11)] h fun v2 h_2 =>
      tBool v2 fun v3 =>
      ifT v3 (
        rg (t11 + 1) (
          callV prog bars [(.int .i64 (t11 + 1))] h_2 fun v4 h_3 =>
          tBool v4 fun v5 =>
          st false h_3 t4 [(.bool false), (.int .i64 t11), (.bool (!v5))] fun h_4 =>
          ldN 3 h_4 t4 fun l_ =>
          tCons l_ fun v6 l_1 =>
          tBool v6 fun v7 =>
          tCons l_1 fun v8 l_2 =>
          tInt .i64 v8 fun v9 =>
          tCons l_2 fun v10 l_3 =>
          tBool v10 fun v11 =>
          tNil l_3 (
            retG (.agg [(.bool v7), (.int .i64 v9), (.bool v11)]) h_4 Ψ))) (
        rg (t11 + 1) (
          s43l1_G (s43l1 Ψ n) t4 bars t10 (t11 + 1) h_2))) (
      st false h t4 [(.bool true), (.int .i64 0), (.bool false)] fun h_5 =>
      ldN 3 h_5 t4 fun l_4 =>
      tCons l_4 fun v12 l_5 =>
      tBool v12 fun v13 =>
      tCons l_5 fun v14 l_6 =>
      tInt .i64 v14 fun v15 =>
      tCons l_6 fun v16 l_7 =>
      tBool v16 fun v17 =>
      tNil l_7 (
        retG (.agg [(.bool v13), (.int .i64 v15), (.bool v17)]) h_5 Ψ))

def s43 (Ψ : AVal → Heap → Prop) (a_all : Bool) (a_low : Int) (a_gap : Bool) (b_all : Bool) (b_low : Int) (b_gap : Bool) (h : Heap) : Prop :=
  Sym.newRow 3 [(.agg [(.bool false), (.int .i64 0), (.bool false)])] h fun r h_ =>
  callG prog 83 [(.agg [(.bool a_all), (.int .i64 a_low), (.bool a_gap)]), (.agg [(.bool b_all), (.int .i64 b_low), (.bool b_gap)])] h_ fun v h_1 =>
  tInt .i64 v fun v1 =>
  s43l1_E (s43l1 Ψ) (.ptr r 0 0) (.func (.func 87) [] [(.lptr [(.bool a_all), (.int .i64 a_low), (.bool a_gap)]), (.lptr [(.bool b_all), (.int .i64 b_low), (.bool b_gap)])]) v1 0 h_1

def s43_A (Ψ : AVal → Heap → Prop) : Ann :=
  .seq (.reg [⟨none, [(0, true), (1, true), (2, false)]⟩])
  (.seq (rA 2)
  (.seq (.seq (rA 4)
  (.block (.loop [(4, .any), (5, .any), (10, .int .i64), (11, .int .i64)] (fun n l h => s43l1_R (s43l1 Ψ n) l h) (fun L1 =>
  .seq (rA 1)
  (.seq (.cond (.leaf)
  (.leaf))
  (.seq (.block (.seq (rA 2)
  (.seq (rA 3)
  (.cond (.seq (rA 8)
  (.leaf))
  (.leaf)))))
  (rA 2)))))))
  (.seq (rA 2)
  (.leaf))))

theorem s43_ok {Ψ : AVal → Heap → Prop} {a_all : Bool} {a_low : Int} {a_gap : Bool} {b_all : Bool} {b_low : Int} {b_gap : Bool} {h : Heap} (H : s43 Ψ a_all a_low a_gap b_all b_low b_gap h) : ACalls prog 43 [(.agg [(.bool a_all), (.int .i64 a_low), (.bool a_gap)]), (.agg [(.bool b_all), (.int .i64 b_low), (.bool b_gap)])] h Ψ :=
  calls_of_evF func43 (by kernel_rfl) (by kernel_rfl) (by kernel_rfl)
    (Eq.mpr (by as_aux_lemma => kernel_rfl : oblF prog f43 (s43_A Ψ) Ψ = (True ∧ True ∧ (True ∧ (∀ (h : Heap) (x0 x1 : AVal) (x2 x3 : Int), ON (s43l1 Ψ 0 x0 x1 x2 x3 h)) ∧ ∀ n1 : Nat, (∀ (h : Heap) (x0 x1 : AVal) (x2 x3 : Int), OI (s43l1 Ψ (n1 + 1) x0 x1 x2 x3 h)) ∧ (True ∧ (True ∧ True) ∧ (True ∧ True ∧ (True ∧ True) ∧ True) ∧ True)) ∧ True ∧ True)) ⟨trivial, ⟨trivial, ⟨⟨trivial, ⟨fun _ _ _ _ _ H => H, fun _ => ⟨fun _ _ _ _ _ H => H, ⟨trivial, ⟨⟨trivial, trivial⟩, ⟨⟨trivial, ⟨trivial, ⟨⟨trivial, trivial⟩, trivial⟩⟩⟩, trivial⟩⟩⟩⟩⟩⟩, ⟨trivial, trivial⟩⟩⟩⟩)
    (Eq.mpr (by as_aux_lemma => kernel_rfl : evF prog f43 (s43_A Ψ) Ψ [(.agg [(.bool a_all), (.int .i64 a_low), (.bool a_gap)]), (.agg [(.bool b_all), (.int .i64 b_low), (.bool b_gap)])] h = s43 Ψ a_all a_low a_gap b_all b_low b_gap h) H)

/- 45 dictum/dictumref06.Signs -/
abbrev s45l1_T := AVal → Int → AVal → AVal → AVal → Int → Heap → Prop
def s45l1_R (F : s45l1_T) (l : List AVal) (h : Heap) : Prop := J.cons l fun x0 l => J.cons l fun v l => J.int .i64 v fun x1 => J.cons l fun x2 l => J.cons l fun x3 l => J.cons l fun x4 l => J.cons l fun v l => J.int .i64 v fun x5 => J.nil l (F x0 x1 x2 x3 x4 x5 h)
def s45l1_G (F : s45l1_T) (x0 : AVal) (x1 : Int) (x2 x3 x4 : AVal) (x5 : Int) (h : Heap) : Prop := gJ [.any, .int .i64, .any, .any, .any, .int .i64] [x0, (.int .i64 x1), x2, x3, x4, (.int .i64 x5)] h (s45l1_R F)
def s45l1_E (F : Nat → s45l1_T) (x0 : AVal) (x1 : Int) (x2 x3 x4 : AVal) (x5 : Int) (h : Heap) : Prop := gJ [.any, .int .i64, .any, .any, .any, .int .i64] [x0, (.int .i64 x1), x2, x3, x4, (.int .i64 x5)] h (fun l h => ∃ n, s45l1_R (F n) l h)
theorem s45l1_go {F : s45l1_T} {x0 : AVal} {x1 : Int} {x2 x3 x4 : AVal} {x5 : Int} {h : Heap} (H : F x0 x1 x2 x3 x4 x5 h) : s45l1_G F x0 x1 x2 x3 x4 x5 h := gJ_plain rfl H
theorem s45l1_in {F : Nat → s45l1_T} {x0 : AVal} {x1 : Int} {x2 x3 x4 : AVal} {x5 : Int} {h : Heap} (n : Nat) (H : F n x0 x1 x2 x3 x4 x5 h) : s45l1_E F x0 x1 x2 x3 x4 x5 h := gJ_plain rfl ⟨n, H⟩

def s45c2 (Ψ : AVal → Heap → Prop) (L1 : s45l1_T) (t2 : AVal) (id_2 : Int) (all1 pos1 neg1 : AVal) (i1 : Int) (h : Heap) : Prop :=
  rg (i1 + 1) (
    L1 t2 id_2 all1 pos1 neg1 (i1 + 1) h)

def s45c4 (Ψ : AVal → Heap → Prop) (L1 : s45l1_T) (t4 : AVal) (id_4 : Int) (all3 pos3 neg3 : AVal) (i3 n2 : Int) (h : Heap) : Prop :=
  ifT (decide (0 < n2)) (
    nilCheckA t4 fun p5 =>
    addOff p5 0 fun p6 =>
    ld1 h p6 fun v12 =>
    ixS 4 v12 i3 fun p7 =>
    addOff p7 1 fun p8 =>
    ld1 h p8 fun v13 =>
    tStr v13 fun v14 =>
    callG prog 89 [neg3, (.str v14)] h fun v15 h_2 =>
    s45c2 Ψ L1 t4 id_4 all3 pos3 v15 i3 h_2) (
    s45c2 Ψ L1 t4 id_4 all3 pos3 neg3 i3 h)

def s45c3 (Ψ : AVal → Heap → Prop) (L1 : s45l1_T) (t3 : AVal) (id_3 : Int) (all2 pos2 neg2 : AVal) (i2 p4 n1 : Int) (h : Heap) : Prop :=
  ifT (decide (0 < p4)) (
    nilCheckA t3 fun p9 =>
    addOff p9 0 fun p10 =>
    ld1 h p10 fun v16 =>
    ixS 4 v16 i2 fun p11 =>
    addOff p11 1 fun p12 =>
    ld1 h p12 fun v17 =>
    tStr v17 fun v18 =>
    callG prog 89 [pos2, (.str v18)] h fun v19 h_3 =>
    s45c4 Ψ L1 t3 id_3 all2 v19 neg2 i2 n1 h_3) (
    s45c4 Ψ L1 t3 id_3 all2 pos2 neg2 i2 n1 h)

def s45l1 (Ψ : AVal → Heap → Prop) : Nat → s45l1_T
  | 0, _, _, _, _, _, _, _ => False
  | n + 1, t1, id_1, all, pos, neg, i, h =>
    ifT (decide (i ≤ id_1)) (
      nilCheckA t1 fun p =>
      addOff p 0 fun p1 =>
      ld1 h p1 fun v2 =>
      ixS 4 v2 i fun p2 =>
      addOff p2 0 fun p3 =>
      ld1 h p3 fun v3 =>
      tInt .i64 v3 fun v4 =>
      ifT (v4 != 1) (
        s45c2 Ψ (s45l1_G (s45l1 Ψ n)) t1 id_1 all pos neg i h) (
        callG prog 88 [t1, (.int .i64 i), (.int .i64 id_1)] h fun v5 h_1 =>
        tTup v5 fun l_ =>
        tCons l_ fun v6 l_1 =>
        tInt .i64 v6 fun v7 =>
        tCons l_1 fun v8 l_2 =>
        tInt .i64 v8 fun v9 =>
        tCons l_2 fun v10 l_3 =>
        tInt .i64 v10 fun v11 =>
        tNil l_3 (
          rg (v7 + v9) (
            ifT (decide (0 < (v7 + v9))) (
              nilCheckA t1 fun p13 =>
              addOff p13 0 fun p14 =>
              ld1 h_1 p14 fun v20 =>
              ixS 4 v20 i fun p15 =>
              addOff p15 1 fun p16 =>
              ld1 h_1 p16 fun v21 =>
              tStr v21 fun v22 =>
              callG prog 89 [all, (.str v22)] h_1 fun v23 h_4 =>
              s45c3 Ψ (s45l1_G (s45l1 Ψ n)) t1 id_1 v23 pos neg i v7 v9 h_4) (
              s45c3 Ψ (s45l1_G (s45l1 Ψ n)) t1 id_1 all pos neg i v7 v9 h_1))))) (
      retG (.tuple [all, pos, neg, (.int .i64 0)]) h Ψ)

def s45 (Ψ : AVal → Heap → Prop) (t : AVal) (id_ : Int) (h : Heap) : Prop :=
  callG prog 50 [t, (.int .i64 id_)] h fun v h_ =>
  tBool v fun v1 =>
  ifT (!v1) (
    retG (.tuple [.nilsl, .nilsl, .nilsl, (.int .i64 31)]) h_ Ψ) (
    s45l1_E (s45l1 Ψ) t id_ .nilsl .nilsl .nilsl 0 h_)

def s45_A (Ψ : AVal → Heap → Prop) : Ann :=
  .seq (rA 4)
  (.seq (.seq (rA 4)
  (.cond (.seq (rA 4)
  (.leaf))
  (.leaf)))
  (.seq (rA 3)
  (.seq (.seq (rA 1)
  (.block (.loop [(0, .any), (1, .int .i64), (8, .any), (9, .any), (10, .any), (11, .int .i64)] (fun n l h => s45l1_R (s45l1 Ψ n) l h) (fun L1 =>
  .seq (.seq (rA 3)
  (.cond (.leaf)
  (.leaf)))
  (.cut [(0, .any), (1, .int .i64), (8, .any), (9, .any), (10, .any), (11, .int .i64)] (fun l h => J.cons l fun x0 l => J.cons l fun v l => J.int .i64 v fun x1 => J.cons l fun x2 l => J.cons l fun x3 l => J.cons l fun x4 l => J.cons l fun v l => J.int .i64 v fun x5 => J.nil l (s45c2 Ψ (fun y0 y1 y2 y3 y4 y5 h => L1 [y0, (.int .i64 y1), y2, y3, y4, (.int .i64 y5)] h) x0 x1 x2 x3 x4 x5 h)) (.block (.seq (.seq (rA 9)
  (.cond (.leaf)
  (.leaf)))
  (.seq (rA 11)
  (.cut [(0, .any), (1, .int .i64), (8, .any), (9, .any), (10, .any), (11, .int .i64), (12, .int .i64), (13, .int .i64)] (fun l h => J.cons l fun x0 l => J.cons l fun v l => J.int .i64 v fun x1 => J.cons l fun x2 l => J.cons l fun x3 l => J.cons l fun x4 l => J.cons l fun v l => J.int .i64 v fun x5 => J.cons l fun v l => J.int .i64 v fun x6 => J.cons l fun v l => J.int .i64 v fun x7 => J.nil l (s45c3 Ψ (fun y0 y1 y2 y3 y4 y5 h => L1 [y0, (.int .i64 y1), y2, y3, y4, (.int .i64 y5)] h) x0 x1 x2 x3 x4 x5 x6 x7 h)) (.seq (rA 4)
  (.cond (rA 11)
  (.leaf)))
  (.cut [(0, .any), (1, .int .i64), (8, .any), (9, .any), (10, .any), (11, .int .i64), (13, .int .i64)] (fun l h => J.cons l fun x0 l => J.cons l fun v l => J.int .i64 v fun x1 => J.cons l fun x2 l => J.cons l fun x3 l => J.cons l fun x4 l => J.cons l fun v l => J.int .i64 v fun x5 => J.cons l fun v l => J.int .i64 v fun x6 => J.nil l (s45c4 Ψ (fun y0 y1 y2 y3 y4 y5 h => L1 [y0, (.int .i64 y1), y2, y3, y4, (.int .i64 y5)] h) x0 x1 x2 x3 x4 x5 x6 h)) (.seq (rA 2)
  (.cond (rA 11)
  (.leaf)))
  (.seq (rA 2)
  (.cond (rA 11)
  (.leaf))))))))
  (rA 3))))))
  (.seq (rA 7)
  (.leaf)))))

theorem s45_ok {Ψ : AVal → Heap → Prop} {t : AVal} {id_ : Int} {h : Heap} (H : s45 Ψ t id_ h) : ACalls prog 45 [t, (.int .i64 id_)] h Ψ :=
  calls_of_evF func45 (by kernel_rfl) (by kernel_rfl) (by kernel_rfl)
    (Eq.mpr (by as_aux_lemma => kernel_rfl : oblF prog f45 (s45_A Ψ) Ψ = (True ∧ (True ∧ (True ∧ True) ∧ True) ∧ True ∧ (True ∧ (∀ (h : Heap) (x0 : AVal) (x1 : Int) (x2 x3 x4 : AVal) (x5 : Int), ON (s45l1 Ψ 0 x0 x1 x2 x3 x4 x5 h)) ∧ ∀ n1 : Nat, (∀ (h : Heap) (x0 : AVal) (x1 : Int) (x2 x3 x4 : AVal) (x5 : Int), OI (s45l1 Ψ (n1 + 1) x0 x1 x2 x3 x4 x5 h)) ∧ ((True ∧ True ∧ True) ∧ ((True ∧ True ∧ True) ∧ True ∧ (True ∧ True ∧ True) ∧ (∀ (h : Heap) (x0 : AVal) (x1 : Int) (x2 x3 x4 : AVal) (x5 x6 x7 : Int), OI (s45c3 Ψ (s45l1_G (s45l1 Ψ n1)) x0 x1 x2 x3 x4 x5 x6 x7 h)) ∧ ((True ∧ True ∧ True) ∧ (∀ (h : Heap) (x0 : AVal) (x1 : Int) (x2 x3 x4 : AVal) (x5 x6 : Int), OI (s45c4 Ψ (s45l1_G (s45l1 Ψ n1)) x0 x1 x2 x3 x4 x5 x6 h)) ∧ (True ∧ True ∧ True))) ∧ (∀ (h : Heap) (x0 : AVal) (x1 : Int) (x2 x3 x4 : AVal) (x5 : Int), OI (s45c2 Ψ (s45l1_G (s45l1 Ψ n1)) x0 x1 x2 x3 x4 x5 h)) ∧ (True))) ∧ True ∧ True)) ⟨trivial, ⟨⟨trivial, ⟨⟨trivial, trivial⟩, trivial⟩⟩, ⟨trivial, ⟨⟨trivial, ⟨fun _ _ _ _ _ _ _ H => H, fun _ => ⟨fun _ _ _ _ _ _ _ H => H, ⟨⟨trivial, ⟨trivial, trivial⟩⟩, ⟨⟨⟨trivial, ⟨trivial, trivial⟩⟩, ⟨trivial, ⟨⟨trivial, ⟨trivial, trivial⟩⟩, fun _ _ _ _ _ _ _ _ _ H => H, ⟨⟨trivial, ⟨trivial, trivial⟩⟩, fun _ _ _ _ _ _ _ _ H => H, ⟨trivial, ⟨trivial, trivial⟩⟩⟩⟩⟩⟩, fun _ _ _ _ _ _ _ H => H, trivial⟩⟩⟩⟩⟩, ⟨trivial, trivial⟩⟩⟩⟩⟩)
    (Eq.mpr (by as_aux_lemma => kernel_rfl : evF prog f45 (s45_A Ψ) Ψ [t, (.int .i64 id_)] h = s45 Ψ t id_ h) H)

/- 47 dictum/dictumref26.join -/
abbrev s47l1_T := Int → Int → AVal → Int → Heap → Prop
def s47l1_R (F : s47l1_T) (l : List AVal) (h : Heap) : Prop := J.cons l fun v l => J.int .i64 v fun x0 => J.cons l fun v l => J.int .i64 v fun x1 => J.cons l fun x2 l => J.cons l fun v l => J.int .i64 v fun x3 => J.nil l (F x0 x1 x2 x3 h)
def s47l1_G (F : s47l1_T) (x0 x1 : Int) (x2 : AVal) (x3 : Int) (h : Heap) : Prop := gJ [.int .i64, .int .i64, .any, .int .i64] [(.int .i64 x0), (.int .i64 x1), x2, (.int .i64 x3)] h (s47l1_R F)
def s47l1_E (F : Nat → s47l1_T) (x0 x1 : Int) (x2 : AVal) (x3 : Int) (h : Heap) : Prop := gJ [.int .i64, .int .i64, .any, .int .i64] [(.int .i64 x0), (.int .i64 x1), x2, (.int .i64 x3)] h (fun l h => ∃ n, s47l1_R (F n) l h)
theorem s47l1_go {F : s47l1_T} {x0 x1 : Int} {x2 : AVal} {x3 : Int} {h : Heap} (H : F x0 x1 x2 x3 h) : s47l1_G F x0 x1 x2 x3 h := gJ_plain rfl H
theorem s47l1_in {F : Nat → s47l1_T} {x0 x1 : Int} {x2 : AVal} {x3 : Int} {h : Heap} (n : Nat) (H : F n x0 x1 x2 x3 h) : s47l1_E F x0 x1 x2 x3 h := gJ_plain rfl ⟨n, H⟩

def s47c2 (Ψ : AVal → Heap → Prop) (L1 : s47l1_T) (a2 b2 : Int) (in_1 : AVal) (w1 : Int) (h : Heap) : Prop :=
  rg (w1 + 1) (
    L1 a2 b2 in_1 (w1 + 1) h)

def s47l1 (Ψ : AVal → Heap → Prop) : Nat → s47l1_T
  | 0, _, _, _, _, _ => False
  | n + 1, a1, b1, in_, w, h =>
    lenN in_ fun n1 =>
    ifT (decide (w < n1)) (
      callG prog 20 [(.int .i64 a1), (.int .i64 w)] h fun v3 h_2 =>
      tBool v3 fun v4 =>
      ifT v4 (
        ixS 1 in_ w fun p1 =>
        st true h_2 p1 [(.bool true)] fun h_5 =>
        s47c2 Ψ (s47l1_G (s47l1 Ψ n)) a1 b1 in_ w h_5) (
        callG prog 20 [(.int .i64 b1), (.int .i64 w)] h_2 fun v5 h_3 =>
        tBool v5 fun v6 =>
        ixS 1 in_ w fun p =>
        st true h_3 p [(.bool v6)] fun h_4 =>
        s47c2 Ψ (s47l1_G (s47l1 Ψ n)) a1 b1 in_ w h_4)) (
      callG prog 91 [in_] h fun v7 h_6 =>
      tTup v7 fun l_ =>
      tCons l_ fun v8 l_1 =>
      tInt .i64 v8 fun v9 =>
      tCons l_1 fun v10 l_2 =>
      tBool v10 fun v11 =>
      tNil l_2 (
        retG (.int .i64 v9) h_6 Ψ))

def s47 (Ψ : AVal → Heap → Prop) (a : Int) (b : Int) (h : Heap) : Prop :=
  callG prog 90 [(.int .i64 a), (.int .i64 b)] h fun v h_ =>
  tInt .i64 v fun v1 =>
  mkS false 1 1 (.bool false) h_ v1 v1 fun v2 h_1 =>
  s47l1_E (s47l1 Ψ) a b v2 0 h_1

def s47_A (Ψ : AVal → Heap → Prop) : Ann :=
  .seq (rA 1)
  (.seq (rA 5)
  (.seq (.seq (rA 1)
  (.block (.loop [(0, .int .i64), (1, .int .i64), (5, .any), (6, .int .i64)] (fun n l h => s47l1_R (s47l1 Ψ n) l h) (fun L1 =>
  .seq (.seq (rA 4)
  (.cond (.leaf)
  (.leaf)))
  (.cut [(0, .int .i64), (1, .int .i64), (5, .any), (6, .int .i64)] (fun l h => J.cons l fun v l => J.int .i64 v fun x0 => J.cons l fun v l => J.int .i64 v fun x1 => J.cons l fun x2 l => J.cons l fun v l => J.int .i64 v fun x3 => J.nil l (s47c2 Ψ (fun y0 y1 y2 y3 h => L1 [(.int .i64 y0), (.int .i64 y1), y2, (.int .i64 y3)] h) x0 x1 x2 x3 h)) (.block (.reg [⟨none, [(0, false), (1, false), (2, false), (3, false), (4, false), (5, false)]⟩, ⟨some (24, false), [(6, false), (7, false), (8, false)]⟩, ⟨none, [(9, false), (10, false), (11, false)]⟩]))
  (rA 3))))))
  (.seq (rA 7)
  (.seq (rA 2)
  (.leaf)))))

theorem s47_ok {Ψ : AVal → Heap → Prop} {a : Int} {b : Int} {h : Heap} (H : s47 Ψ a b h) : ACalls prog 47 [(.int .i64 a), (.int .i64 b)] h Ψ :=
  calls_of_evF func47 (by kernel_rfl) (by kernel_rfl) (by kernel_rfl)
    (Eq.mpr (by as_aux_lemma => kernel_rfl : oblF prog f47 (s47_A Ψ) Ψ = (True ∧ True ∧ (True ∧ (∀ (h : Heap) (x0 x1 : Int) (x2 : AVal) (x3 : Int), ON (s47l1 Ψ 0 x0 x1 x2 x3 h)) ∧ ∀ n1 : Nat, (∀ (h : Heap) (x0 x1 : Int) (x2 : AVal) (x3 : Int), OI (s47l1 Ψ (n1 + 1) x0 x1 x2 x3 h)) ∧ ((True ∧ True ∧ True) ∧ (True) ∧ (∀ (h : Heap) (x0 x1 : Int) (x2 : AVal) (x3 : Int), OI (s47c2 Ψ (s47l1_G (s47l1 Ψ n1)) x0 x1 x2 x3 h)) ∧ (True))) ∧ True ∧ True ∧ True)) ⟨trivial, ⟨trivial, ⟨⟨trivial, ⟨fun _ _ _ _ _ H => H, fun _ => ⟨fun _ _ _ _ _ H => H, ⟨⟨trivial, ⟨trivial, trivial⟩⟩, ⟨trivial, fun _ _ _ _ _ H => H, trivial⟩⟩⟩⟩⟩, ⟨trivial, ⟨trivial, trivial⟩⟩⟩⟩⟩)
    (Eq.mpr (by as_aux_lemma => kernel_rfl : evF prog f47 (s47_A Ψ) Ψ [(.int .i64 a), (.int .i64 b)] h = s47 Ψ a b h) H)

/- 49 slices.Equal[[]string,string] -/
abbrev s49l1_T := AVal → AVal → Int → Int → Heap → Prop
def s49l1_R (F : s49l1_T) (l : List AVal) (h : Heap) : Prop := J.cons l fun x0 l => J.cons l fun x1 l => J.cons l fun v l => J.int .i64 v fun x2 => J.cons l fun v l => J.int .i64 v fun x3 => J.nil l (F x0 x1 x2 x3 h)
def s49l1_G (F : s49l1_T) (x0 x1 : AVal) (x2 x3 : Int) (h : Heap) : Prop := gJ [.any, .any, .int .i64, .int .i64] [x0, x1, (.int .i64 x2), (.int .i64 x3)] h (s49l1_R F)
def s49l1_E (F : Nat → s49l1_T) (x0 x1 : AVal) (x2 x3 : Int) (h : Heap) : Prop := gJ [.any, .any, .int .i64, .int .i64] [x0, x1, (.int .i64 x2), (.int .i64 x3)] h (fun l h => ∃ n, s49l1_R (F n) l h)
theorem s49l1_go {F : s49l1_T} {x0 x1 : AVal} {x2 x3 : Int} {h : Heap} (H : F x0 x1 x2 x3 h) : s49l1_G F x0 x1 x2 x3 h := gJ_plain rfl H
theorem s49l1_in {F : Nat → s49l1_T} {x0 x1 : AVal} {x2 x3 : Int} {h : Heap} (n : Nat) (H : F n x0 x1 x2 x3 h) : s49l1_E F x0 x1 x2 x3 h := gJ_plain rfl ⟨n, H⟩

def s49l1 (Ψ : AVal → Heap → Prop) : Nat → s49l1_T
  | 0, _, _, _, _, _ => False
  | n3 + 1, s1_1, s2_1, t12, t13, h =>
    ifT (decide (t13 < t12)) (
      ixS 1 s1_1 t13 fun p =>
      ld1 h p fun v =>
      tStr v fun v1 =>
      ixS 1 s2_1 t13 fun p1 =>
      ld1 h p1 fun v2 =>
      tStr v2 fun v3 =>
      ifT (!strEq v1 v3) (
        retG (.bool false) h Ψ) (
        rg (t13 + 1) (
          s49l1_G (s49l1 Ψ n3) s1_1 s2_1 t12 (t13 + 1) h))) (
      retG (.bool true) h Ψ)

def s49 (Ψ : AVal → Heap → Prop) (s1 : AVal) (s2 : AVal) (h : Heap) : Prop :=
  lenN s1 fun n =>
  lenN s2 fun n1 =>
  ifT (n != n1) (
    retG (.bool false) h Ψ) (
    lenN s1 fun n2 =>
    s49l1_E (s49l1 Ψ) s1 s2 n2 0 h)

def s49_A (Ψ : AVal → Heap → Prop) : Ann :=
  .seq (rA 1)
  (.seq (.seq (rA 5)
  (.cond (.seq (rA 1)
  (.leaf))
  (.leaf)))
  (.seq (.seq (rA 3)
  (.block (.loop [(0, .any), (1, .any), (12, .int .i64), (13, .int .i64)] (fun n l h => s49l1_R (s49l1 Ψ n) l h) (fun L1 =>
  .seq (rA 1)
  (.seq (.cond (.leaf)
  (.leaf))
  (.seq (.block (.seq (rA 2)
  (.seq (.draw [(0, false), (1, false), (2, false), (3, false), (4, false), (5, false), (6, false), (7, false), (8, false)] [0, 0, 3, 7, 0, 0, 48, 112, 255])
  (.cond (.seq (rA 1)
  (.leaf))
  (.leaf)))))
  (rA 2)))))))
  (.seq (rA 1)
  (.leaf))))

theorem s49_ok {Ψ : AVal → Heap → Prop} {s1 : AVal} {s2 : AVal} {h : Heap} (H : s49 Ψ s1 s2 h) : ACalls prog 49 [s1, s2] h Ψ :=
  calls_of_evF func49 (by kernel_rfl) (by kernel_rfl) (by kernel_rfl)
    (Eq.mpr (by as_aux_lemma => kernel_rfl : oblF prog f49 (s49_A Ψ) Ψ = (True ∧ (True ∧ (True ∧ True) ∧ True) ∧ (True ∧ (∀ (h : Heap) (x0 x1 : AVal) (x2 x3 : Int), ON (s49l1 Ψ 0 x0 x1 x2 x3 h)) ∧ ∀ n1 : Nat, (∀ (h : Heap) (x0 x1 : AVal) (x2 x3 : Int), OI (s49l1 Ψ (n1 + 1) x0 x1 x2 x3 h)) ∧ (True ∧ (True ∧ True) ∧ (True ∧ True ∧ (True ∧ True) ∧ True) ∧ True)) ∧ True ∧ True)) ⟨trivial, ⟨⟨trivial, ⟨⟨trivial, trivial⟩, trivial⟩⟩, ⟨⟨trivial, ⟨fun _ _ _ _ _ H => H, fun _ => ⟨fun _ _ _ _ _ H => H, ⟨trivial, ⟨⟨trivial, trivial⟩, ⟨⟨trivial, ⟨trivial, ⟨⟨trivial, trivial⟩, trivial⟩⟩⟩, trivial⟩⟩⟩⟩⟩⟩, ⟨trivial, trivial⟩⟩⟩⟩)
    (Eq.mpr (by as_aux_lemma => kernel_rfl : evF prog f49 (s49_A Ψ) Ψ [s1, s2] h = s49 Ψ s1 s2 h) H)

/- 54 dictum/dictumref03.From -/
abbrev s54l1_T := AVal → AVal → Int → Heap → Prop
def s54l1_R (F : s54l1_T) (l : List AVal) (h : Heap) : Prop := J.cons l fun x0 l => J.cons l fun x1 l => J.cons l fun v l => J.int .i64 v fun x2 => J.nil l (F x0 x1 x2 h)
def s54l1_G (F : s54l1_T) (x0 x1 : AVal) (x2 : Int) (h : Heap) : Prop := gJ [.any, .any, .int .i64] [x0, x1, (.int .i64 x2)] h (s54l1_R F)
def s54l1_E (F : Nat → s54l1_T) (x0 x1 : AVal) (x2 : Int) (h : Heap) : Prop := gJ [.any, .any, .int .i64] [x0, x1, (.int .i64 x2)] h (fun l h => ∃ n, s54l1_R (F n) l h)
theorem s54l1_go {F : s54l1_T} {x0 x1 : AVal} {x2 : Int} {h : Heap} (H : F x0 x1 x2 h) : s54l1_G F x0 x1 x2 h := gJ_plain rfl H
theorem s54l1_in {F : Nat → s54l1_T} {x0 x1 : AVal} {x2 : Int} {h : Heap} (n : Nat) (H : F n x0 x1 x2 h) : s54l1_E F x0 x1 x2 h := gJ_plain rfl ⟨n, H⟩

def s54l1 (Ψ : AVal → Heap → Prop) : Nat → s54l1_T
  | 0, _, _, _, _ => False
  | n + 1, rows1, t, i, h =>
    lenN rows1 fun n1 =>
    ifT (decide (i < n1)) (
      ixS 4 rows1 i fun p =>
      ldN 4 h p fun l_ =>
      tCons l_ fun v l_1 =>
      tInt .i64 v fun v1 =>
      tCons l_1 fun v2 l_2 =>
      tStr v2 fun v3 =>
      tCons l_2 fun v4 l_3 =>
      tInt .i64 v4 fun v5 =>
      tCons l_3 fun v6 l_4 =>
      tInt .i64 v6 fun v7 =>
      tNil l_4 (
        callG prog 98 [t, (.agg [(.int .i64 v1), (.str v3), (.int .i64 v5), (.int .i64 v7)])] h fun v8 h_1 =>
        tTup v8 fun l_5 =>
        tCons l_5 fun v9 l_6 =>
        tInt .i64 v9 fun v10 =>
        tCons l_6 fun v11 l_7 =>
        tInt .i64 v11 fun v12 =>
        tNil l_7 (
          ifT (v12 != 0) (
            retG (.tuple [.nilptr, (.int .i64 v12)]) h_1 Ψ) (
            ifT (v10 != i) (
              retG (.tuple [.nilptr, (.int .i64 31)]) h_1 Ψ) (
              rg (i + 1) (
                s54l1_G (s54l1 Ψ n) rows1 t (i + 1) h_1)))))) (
      retG (.tuple [t, (.int .i64 0)]) h Ψ)

def s54 (Ψ : AVal → Heap → Prop) (rows : AVal) (h : Heap) : Prop :=
  Sym.newRow 1 [(.agg [.nilsl])] h fun r h_ =>
  s54l1_E (s54l1 Ψ) rows (.ptr r 0 0) 0 h_

def s54_A (Ψ : AVal → Heap → Prop) : Ann :=
  .seq (rA 2)
  (.seq (rA 3)
  (.seq (.seq (rA 1)
  (.block (.loop [(0, .any), (4, .any), (5, .int .i64)] (fun n l h => s54l1_R (s54l1 Ψ n) l h) (fun L1 =>
  .seq (.seq (rA 4)
  (.cond (.leaf)
  (.leaf)))
  (.seq (.block (.seq (rA 11)
  (.seq (.seq (rA 2)
  (.cond (.seq (rA 3)
  (.leaf))
  (.leaf)))
  (.seq (rA 3)
  (.cond (.seq (rA 2)
  (.leaf))
  (.leaf))))))
  (rA 3))))))
  (.seq (rA 3)
  (.leaf))))

theorem s54_ok {Ψ : AVal → Heap → Prop} {rows : AVal} {h : Heap} (H : s54 Ψ rows h) : ACalls prog 54 [rows] h Ψ :=
  calls_of_evF func54 (by kernel_rfl) (by kernel_rfl) (by kernel_rfl)
    (Eq.mpr (by as_aux_lemma => kernel_rfl : oblF prog f54 (s54_A Ψ) Ψ = (True ∧ True ∧ (True ∧ (∀ (h : Heap) (x0 x1 : AVal) (x2 : Int), ON (s54l1 Ψ 0 x0 x1 x2 h)) ∧ ∀ n1 : Nat, (∀ (h : Heap) (x0 x1 : AVal) (x2 : Int), OI (s54l1 Ψ (n1 + 1) x0 x1 x2 h)) ∧ ((True ∧ True ∧ True) ∧ (True ∧ (True ∧ (True ∧ True) ∧ True) ∧ True ∧ (True ∧ True) ∧ True) ∧ True)) ∧ True ∧ True)) ⟨trivial, ⟨trivial, ⟨⟨trivial, ⟨fun _ _ _ _ H => H, fun _ => ⟨fun _ _ _ _ H => H, ⟨⟨trivial, ⟨trivial, trivial⟩⟩, ⟨⟨trivial, ⟨⟨trivial, ⟨⟨trivial, trivial⟩, trivial⟩⟩, ⟨trivial, ⟨⟨trivial, trivial⟩, trivial⟩⟩⟩⟩, trivial⟩⟩⟩⟩⟩, ⟨trivial, trivial⟩⟩⟩⟩)
    (Eq.mpr (by as_aux_lemma => kernel_rfl : evF prog f54 (s54_A Ψ) Ψ [rows] h = s54 Ψ rows h) H)

/- 56 (*dictum/formula.Table).alive -/
def s56 (Ψ : AVal → Heap → Prop) (t : AVal) (h : Heap) : Prop :=
  nilP t fun b =>
  ifT (!b) (
    nilCheckA t fun p =>
    addOff p 1 fun p1 =>
    ld1 h p1 fun v =>
    nilM v fun b1 =>
    retG (.bool (!b1)) h Ψ) (
    retG (.bool false) h Ψ)

def s56_A (Ψ : AVal → Heap → Prop) : Ann :=
  .seq (rA 1)
  (.seq (.reg [⟨none, [(0, false), (1, false), (2, false)]⟩, ⟨some (5, true), [(3, false), (4, false), (5, false), (6, false), (7, false)]⟩, ⟨none, [(8, false), (9, false)]⟩])
  (.leaf))

theorem s56_ok {Ψ : AVal → Heap → Prop} {t : AVal} {h : Heap} (H : s56 Ψ t h) : ACalls prog 56 [t] h Ψ :=
  calls_of_evF func56 (by kernel_rfl) (by kernel_rfl) (by kernel_rfl)
    (Eq.mpr (by as_aux_lemma => kernel_rfl : oblF prog f56 (s56_A Ψ) Ψ = (True ∧ True ∧ True)) ⟨trivial, ⟨trivial, trivial⟩⟩)
    (Eq.mpr (by as_aux_lemma => kernel_rfl : evF prog f56 (s56_A Ψ) Ψ [t] h = s56 Ψ t h) H)

/- 58 (*dictum/formula.Table).Bot -/
def s58 (Ψ : AVal → Heap → Prop) (t : AVal) (h : Heap) : Prop :=
  callG prog 99 [t, (.agg [(.int .i64 2), (.str (ByteArray.mk #[])), (.int .i64 0), (.int .i64 0)])] h fun v h_ =>
  tTup v fun l_ =>
  tCons l_ fun v1 l_1 =>
  tInt .i64 v1 fun v2 =>
  tCons l_1 fun v3 l_2 =>
  tInt .i64 v3 fun v4 =>
  tNil l_2 (
    retG (.tuple [(.int .i64 v2), (.int .i64 v4)]) h_ Ψ)

def s58_A (Ψ : AVal → Heap → Prop) : Ann :=
  .seq (rA 2)
  (.seq (rA 7)
  (.leaf))

theorem s58_ok {Ψ : AVal → Heap → Prop} {t : AVal} {h : Heap} (H : s58 Ψ t h) : ACalls prog 58 [t] h Ψ :=
  calls_of_evF func58 (by kernel_rfl) (by kernel_rfl) (by kernel_rfl)
    (Eq.mpr (by as_aux_lemma => kernel_rfl : oblF prog f58 (s58_A Ψ) Ψ = (True ∧ True ∧ True)) ⟨trivial, ⟨trivial, trivial⟩⟩)
    (Eq.mpr (by as_aux_lemma => kernel_rfl : evF prog f58 (s58_A Ψ) Ψ [t] h = s58 Ψ t h) H)

/- 60 (*dictum/formula.Table).Atom -/
def s60 (Ψ : AVal → Heap → Prop) (t : AVal) (name : ByteArray) (h : Heap) : Prop :=
  callG prog 99 [t, (.agg [(.int .i64 1), (.str name), (.int .i64 0), (.int .i64 0)])] h fun v h_ =>
  tTup v fun l_ =>
  tCons l_ fun v1 l_1 =>
  tInt .i64 v1 fun v2 =>
  tCons l_1 fun v3 l_2 =>
  tInt .i64 v3 fun v4 =>
  tNil l_2 (
    retG (.tuple [(.int .i64 v2), (.int .i64 v4)]) h_ Ψ)

def s60_A (Ψ : AVal → Heap → Prop) : Ann :=
  .seq (rA 2)
  (.seq (rA 8)
  (.leaf))

theorem s60_ok {Ψ : AVal → Heap → Prop} {t : AVal} {name : ByteArray} {h : Heap} (H : s60 Ψ t name h) : ACalls prog 60 [t, (.str name)] h Ψ :=
  calls_of_evF func60 (by kernel_rfl) (by kernel_rfl) (by kernel_rfl)
    (Eq.mpr (by as_aux_lemma => kernel_rfl : oblF prog f60 (s60_A Ψ) Ψ = (True ∧ True ∧ True)) ⟨trivial, ⟨trivial, trivial⟩⟩)
    (Eq.mpr (by as_aux_lemma => kernel_rfl : evF prog f60 (s60_A Ψ) Ψ [t, (.str name)] h = s60 Ψ t name h) H)

/- 62 (*dictum/formula.Table).Or -/
def s62 (Ψ : AVal → Heap → Prop) (t : AVal) (a : Int) (b : Int) (h : Heap) : Prop :=
  callG prog 99 [t, (.agg [(.int .i64 4), (.str (ByteArray.mk #[])), (.int .i64 a), (.int .i64 b)])] h fun v h_ =>
  tTup v fun l_ =>
  tCons l_ fun v1 l_1 =>
  tInt .i64 v1 fun v2 =>
  tCons l_1 fun v3 l_2 =>
  tInt .i64 v3 fun v4 =>
  tNil l_2 (
    retG (.tuple [(.int .i64 v2), (.int .i64 v4)]) h_ Ψ)

def s62_A (Ψ : AVal → Heap → Prop) : Ann :=
  .seq (rA 2)
  (.seq (rA 9)
  (.leaf))

theorem s62_ok {Ψ : AVal → Heap → Prop} {t : AVal} {a : Int} {b : Int} {h : Heap} (H : s62 Ψ t a b h) : ACalls prog 62 [t, (.int .i64 a), (.int .i64 b)] h Ψ :=
  calls_of_evF func62 (by kernel_rfl) (by kernel_rfl) (by kernel_rfl)
    (Eq.mpr (by as_aux_lemma => kernel_rfl : oblF prog f62 (s62_A Ψ) Ψ = (True ∧ True ∧ True)) ⟨trivial, ⟨trivial, trivial⟩⟩)
    (Eq.mpr (by as_aux_lemma => kernel_rfl : evF prog f62 (s62_A Ψ) Ψ [t, (.int .i64 a), (.int .i64 b)] h = s62 Ψ t a b h) H)

/- 64 dictum/dictumref03.Reserved -/
def s64 (Ψ : AVal → Heap → Prop) (h : Heap) : Prop :=
  retG (.lsl 1 [(.str (ByteArray.mk #[97, 98, 111, 114, 116])), (.str (ByteArray.mk #[99, 97, 115, 101])), (.str (ByteArray.mk #[102, 97, 108, 115, 101])), (.str (ByteArray.mk #[102, 115, 116])), (.str (ByteArray.mk #[102, 117, 110])), (.str (ByteArray.mk #[105, 110])), (.str (ByteArray.mk #[105, 110, 108])), (.str (ByteArray.mk #[105, 110, 114])), (.str (ByteArray.mk #[108, 101, 116])), (.str (ByteArray.mk #[111, 102])), (.str (ByteArray.mk #[115, 110, 100])), (.str (ByteArray.mk #[116, 114, 117, 101]))]) h Ψ

def s64_A (Ψ : AVal → Heap → Prop) : Ann :=
  .seq (rA 1)
  (.seq (.reg [⟨none, [(0, true), (1, false)]⟩])
  (.leaf))

theorem s64_ok {Ψ : AVal → Heap → Prop} {h : Heap} (H : s64 Ψ  h) : ACalls prog 64 [] h Ψ :=
  calls_of_evF func64 (by kernel_rfl) (by kernel_rfl) (by kernel_rfl)
    (Eq.mpr (by as_aux_lemma => kernel_rfl : oblF prog f64 (s64_A Ψ) Ψ = (True ∧ True ∧ True)) ⟨trivial, ⟨trivial, trivial⟩⟩)
    (Eq.mpr (by as_aux_lemma => kernel_rfl : evF prog f64 (s64_A Ψ) Ψ [] h = s64 Ψ  h) H)

/- 66 (*dictum/dictumref03.T).Imp -/
def s66 (Ψ : AVal → Heap → Prop) (t : AVal) (a : Int) (b : Int) (h : Heap) : Prop :=
  callG prog 69 [t, (.int .i64 5), (.int .i64 a), (.int .i64 b)] h fun v h_ =>
  tTup v fun l_ =>
  tCons l_ fun v1 l_1 =>
  tInt .i64 v1 fun v2 =>
  tCons l_1 fun v3 l_2 =>
  tInt .i64 v3 fun v4 =>
  tNil l_2 (
    retG (.tuple [(.int .i64 v2), (.int .i64 v4)]) h_ Ψ)

def s66_A (Ψ : AVal → Heap → Prop) : Ann :=
  .seq (rA 2)
  (.seq (rA 8)
  (.leaf))

theorem s66_ok {Ψ : AVal → Heap → Prop} {t : AVal} {a : Int} {b : Int} {h : Heap} (H : s66 Ψ t a b h) : ACalls prog 66 [t, (.int .i64 a), (.int .i64 b)] h Ψ :=
  calls_of_evF func66 (by kernel_rfl) (by kernel_rfl) (by kernel_rfl)
    (Eq.mpr (by as_aux_lemma => kernel_rfl : oblF prog f66 (s66_A Ψ) Ψ = (True ∧ True ∧ True)) ⟨trivial, ⟨trivial, trivial⟩⟩)
    (Eq.mpr (by as_aux_lemma => kernel_rfl : evF prog f66 (s66_A Ψ) Ψ [t, (.int .i64 a), (.int .i64 b)] h = s66 Ψ t a b h) H)

/- 68 (*dictum/dictumref03.T).Not -/
def s68 (Ψ : AVal → Heap → Prop) (t : AVal) (a : Int) (h : Heap) : Prop :=
  callG prog 50 [t, (.int .i64 a)] h fun v h_ =>
  tBool v fun v1 =>
  ifT (!v1) (
    retG (.tuple [(.int .i64 0), (.int .i64 31)]) h_ Ψ) (
    callG prog 65 [t] h_ fun v2 h_1 =>
    tTup v2 fun l_ =>
    tCons l_ fun v3 l_1 =>
    tInt .i64 v3 fun v4 =>
    tCons l_1 fun v5 l_2 =>
    tInt .i64 v5 fun v6 =>
    tNil l_2 (
      ifT (v6 != 0) (
        retG (.tuple [(.int .i64 0), (.int .i64 v6)]) h_1 Ψ) (
        callG prog 66 [t, (.int .i64 a), (.int .i64 v4)] h_1 fun v7 h_2 =>
        tTup v7 fun l_3 =>
        tCons l_3 fun v8 l_4 =>
        tInt .i64 v8 fun v9 =>
        tCons l_4 fun v10 l_5 =>
        tInt .i64 v10 fun v11 =>
        tNil l_5 (
          retG (.tuple [(.int .i64 v9), (.int .i64 v11)]) h_2 Ψ))))

def s68_A (Ψ : AVal → Heap → Prop) : Ann :=
  .seq (rA 2)
  (.seq (.seq (rA 4)
  (.cond (.seq (rA 2)
  (.leaf))
  (.leaf)))
  (.seq (rA 7)
  (.seq (.seq (rA 2)
  (.cond (.seq (rA 3)
  (.leaf))
  (.leaf)))
  (.seq (rA 8)
  (.leaf)))))

theorem s68_ok {Ψ : AVal → Heap → Prop} {t : AVal} {a : Int} {h : Heap} (H : s68 Ψ t a h) : ACalls prog 68 [t, (.int .i64 a)] h Ψ :=
  calls_of_evF func68 (by kernel_rfl) (by kernel_rfl) (by kernel_rfl)
    (Eq.mpr (by as_aux_lemma => kernel_rfl : oblF prog f68 (s68_A Ψ) Ψ = (True ∧ (True ∧ (True ∧ True) ∧ True) ∧ True ∧ (True ∧ (True ∧ True) ∧ True) ∧ True ∧ True)) ⟨trivial, ⟨⟨trivial, ⟨⟨trivial, trivial⟩, trivial⟩⟩, ⟨trivial, ⟨⟨trivial, ⟨⟨trivial, trivial⟩, trivial⟩⟩, ⟨trivial, trivial⟩⟩⟩⟩⟩)
    (Eq.mpr (by as_aux_lemma => kernel_rfl : evF prog f68 (s68_A Ψ) Ψ [t, (.int .i64 a)] h = s68 Ψ t a h) H)

/- 70 dictum/dictumref03.Same -/
abbrev s70l1_T := AVal → AVal → Int → Heap → Prop
def s70l1_R (F : s70l1_T) (l : List AVal) (h : Heap) : Prop := J.cons l fun x0 l => J.cons l fun x1 l => J.cons l fun v l => J.int .i64 v fun x2 => J.nil l (F x0 x1 x2 h)
def s70l1_G (F : s70l1_T) (x0 x1 : AVal) (x2 : Int) (h : Heap) : Prop := gJ [.any, .any, .int .i64] [x0, x1, (.int .i64 x2)] h (s70l1_R F)
def s70l1_E (F : Nat → s70l1_T) (x0 x1 : AVal) (x2 : Int) (h : Heap) : Prop := gJ [.any, .any, .int .i64] [x0, x1, (.int .i64 x2)] h (fun l h => ∃ n, s70l1_R (F n) l h)
theorem s70l1_go {F : s70l1_T} {x0 x1 : AVal} {x2 : Int} {h : Heap} (H : F x0 x1 x2 h) : s70l1_G F x0 x1 x2 h := gJ_plain rfl H
theorem s70l1_in {F : Nat → s70l1_T} {x0 x1 : AVal} {x2 : Int} {h : Heap} (n : Nat) (H : F n x0 x1 x2 h) : s70l1_E F x0 x1 x2 h := gJ_plain rfl ⟨n, H⟩

def s70l1 (Ψ : AVal → Heap → Prop) : Nat → s70l1_T
  | 0, _, _, _, _ => False
  | n2 + 1, a1, b1, i, h =>
    lenN a1 fun n3 =>
    ifT (decide (i < n3)) (
      ixS 4 a1 i fun p =>
      ldN 4 h p fun l_ =>
      tCons l_ fun v l_1 =>
      tInt .i64 v fun v1 =>
      tCons l_1 fun v2 l_2 =>
      tStr v2 fun v3 =>
      tCons l_2 fun v4 l_3 =>
      tInt .i64 v4 fun v5 =>
      tCons l_3 fun v6 l_4 =>
      tInt .i64 v6 fun v7 =>
      tNil l_4 (
        ixS 4 b1 i fun p1 =>
        ldN 4 h p1 fun l_5 =>
        tCons l_5 fun v8 l_6 =>
        tInt .i64 v8 fun v9 =>
        tCons l_6 fun v10 l_7 =>
        tStr v10 fun v11 =>
        tCons l_7 fun v12 l_8 =>
        tInt .i64 v12 fun v13 =>
        tCons l_8 fun v14 l_9 =>
        tInt .i64 v14 fun v15 =>
        tNil l_9 (
          eqQ prog 54 (.agg [(.int .i64 v1), (.str v3), (.int .i64 v5), (.int .i64 v7)]) (.agg [(.int .i64 v9), (.str v11), (.int .i64 v13), (.int .i64 v15)]) fun b2 =>
          ifT (!b2) (
            retG (.bool false) h Ψ) (
            rg (i + 1) (
              s70l1_G (s70l1 Ψ n2) a1 b1 (i + 1) h))))) (
      retG (.bool true) h Ψ)

def s70 (Ψ : AVal → Heap → Prop) (a : AVal) (b : AVal) (h : Heap) : Prop :=
  lenN a fun n =>
  lenN b fun n1 =>
  ifT (n != n1) (
    retG (.bool false) h Ψ) (
    s70l1_E (s70l1 Ψ) a b 0 h)

def s70_A (Ψ : AVal → Heap → Prop) : Ann :=
  .seq (rA 1)
  (.seq (.seq (rA 5)
  (.cond (.seq (rA 1)
  (.leaf))
  (.leaf)))
  (.seq (.seq (rA 1)
  (.block (.loop [(0, .any), (1, .any), (5, .int .i64)] (fun n l h => s70l1_R (s70l1 Ψ n) l h) (fun L1 =>
  .seq (.seq (rA 4)
  (.cond (.leaf)
  (.leaf)))
  (.seq (.block (.seq (.draw [(0, false), (1, false), (2, false), (3, false), (4, false), (5, false), (6, false), (7, false), (8, false)] [0, 0, 3, 7, 0, 0, 48, 112, 255])
  (.cond (.seq (rA 1)
  (.leaf))
  (.leaf))))
  (rA 3))))))
  (.seq (rA 1)
  (.leaf))))

theorem s70_ok {Ψ : AVal → Heap → Prop} {a : AVal} {b : AVal} {h : Heap} (H : s70 Ψ a b h) : ACalls prog 70 [a, b] h Ψ :=
  calls_of_evF func70 (by kernel_rfl) (by kernel_rfl) (by kernel_rfl)
    (Eq.mpr (by as_aux_lemma => kernel_rfl : oblF prog f70 (s70_A Ψ) Ψ = (True ∧ (True ∧ (True ∧ True) ∧ True) ∧ (True ∧ (∀ (h : Heap) (x0 x1 : AVal) (x2 : Int), ON (s70l1 Ψ 0 x0 x1 x2 h)) ∧ ∀ n1 : Nat, (∀ (h : Heap) (x0 x1 : AVal) (x2 : Int), OI (s70l1 Ψ (n1 + 1) x0 x1 x2 h)) ∧ ((True ∧ True ∧ True) ∧ (True ∧ (True ∧ True) ∧ True) ∧ True)) ∧ True ∧ True)) ⟨trivial, ⟨⟨trivial, ⟨⟨trivial, trivial⟩, trivial⟩⟩, ⟨⟨trivial, ⟨fun _ _ _ _ H => H, fun _ => ⟨fun _ _ _ _ H => H, ⟨⟨trivial, ⟨trivial, trivial⟩⟩, ⟨⟨trivial, ⟨⟨trivial, trivial⟩, trivial⟩⟩, trivial⟩⟩⟩⟩⟩, ⟨trivial, trivial⟩⟩⟩⟩)
    (Eq.mpr (by as_aux_lemma => kernel_rfl : evF prog f70 (s70_A Ψ) Ψ [a, b] h = s70 Ψ a b h) H)

/- 72 dictum/nishimura.two -/
def s72c1 (Ψ : AVal → Heap → Prop) (how1 x y : AVal) (t28 : Bool) (h : Heap) : Prop :=
  ifT t28 (
    retG (.tuple [(.int .i64 0), (.int .i64 2)]) h Ψ) (
    ldN 3 h x fun l_14 =>
    tCons l_14 fun v20 l_15 =>
    tBool v20 fun v21 =>
    tCons l_15 fun v22 l_16 =>
    tInt .i64 v22 fun v23 =>
    tCons l_16 fun v24 l_17 =>
    tBool v24 fun v25 =>
    tNil l_17 (
      ldN 3 h y fun l_18 =>
      tCons l_18 fun v26 l_19 =>
      tBool v26 fun v27 =>
      tCons l_19 fun v28 l_20 =>
      tInt .i64 v28 fun v29 =>
      tCons l_20 fun v30 l_21 =>
      tBool v30 fun v31 =>
      tNil l_21 (
        callV prog how1 [(.agg [(.bool v21), (.int .i64 v23), (.bool v25)]), (.agg [(.bool v27), (.int .i64 v29), (.bool v31)])] h fun v32 h_6 =>
        tAgg v32 fun l_22 =>
        tCons l_22 fun v33 l_23 =>
        tBool v33 fun v34 =>
        tCons l_23 fun v35 l_24 =>
        tInt .i64 v35 fun v36 =>
        tCons l_24 fun v37 l_25 =>
        tBool v37 fun v38 =>
        tNil l_25 (
          callG prog 44 [(.agg [(.bool v34), (.int .i64 v36), (.bool v38)])] h_6 fun v39 h_7 =>
          tInt .i64 v39 fun v40 =>
          ifT (decide (4096 < v40)) (
            retG (.tuple [(.int .i64 0), (.int .i64 2)]) h_7 Ψ) (
            retG (.tuple [(.int .i64 v40), (.int .i64 0)]) h_7 Ψ)))))

def s72 (Ψ : AVal → Heap → Prop) (a : Int) (b : Int) (how : AVal) (h : Heap) : Prop :=
  callG prog 73 [(.int .i64 a)] h fun v h_ =>
  tTup v fun l_ =>
  tCons l_ fun v1 l_1 =>
  tCons l_1 fun v2 l_2 =>
  tBool v2 fun v3 =>
  tNil l_2 (
    tAgg v1 fun l_3 =>
    tCons l_3 fun v4 l_4 =>
    tBool v4 fun v5 =>
    tCons l_4 fun v6 l_5 =>
    tInt .i64 v6 fun v7 =>
    tCons l_5 fun v8 l_6 =>
    tBool v8 fun v9 =>
    tNil l_6 (
      Sym.newRow 3 [(.agg [(.bool false), (.int .i64 0), (.bool false)])] h_ fun r h_1 =>
      st false h_1 (.ptr r 0 0) [(.bool v5), (.int .i64 v7), (.bool v9)] fun h_2 =>
      callG prog 73 [(.int .i64 b)] h_2 fun v10 h_3 =>
      tTup v10 fun l_7 =>
      tCons l_7 fun v11 l_8 =>
      tCons l_8 fun v12 l_9 =>
      tBool v12 fun v13 =>
      tNil l_9 (
        tAgg v11 fun l_10 =>
        tCons l_10 fun v14 l_11 =>
        tBool v14 fun v15 =>
        tCons l_11 fun v16 l_12 =>
        tInt .i64 v16 fun v17 =>
        tCons l_12 fun v18 l_13 =>
        tBool v18 fun v19 =>
        tNil l_13 (
          Sym.newRow 3 [(.agg [(.bool false), (.int .i64 0), (.bool false)])] h_3 fun r1 h_4 =>
          st false h_4 (.ptr r1 0 0) [(.bool v15), (.int .i64 v17), (.bool v19)] fun h_5 =>
          ifT (!v3) (
            s72c1 Ψ how (.ptr r 0 0) (.ptr r1 0 0) true h_5) (
            s72c1 Ψ how (.ptr r 0 0) (.ptr r1 0 0) (!v13) h_5)))))

def s72_A (Ψ : AVal → Heap → Prop) : Ann :=
  .seq (rA 2)
  (.seq (rA 8)
  (.seq (rA 8)
  (.seq (.cut [(2, .any), (8, .any), (10, .any), (28, .bool)] (fun l h => J.cons l fun x0 l => J.cons l fun x1 l => J.cons l fun x2 l => J.cons l fun v l => J.bool v fun x3 => J.nil l (s72c1 Ψ x0 x1 x2 x3 h)) (.reg [⟨none, [(0, false), (1, false), (2, false)]⟩, ⟨some (25, false), [(3, false), (4, false)]⟩, ⟨none, [(5, false)]⟩])
  (.cond (.seq (rA 2)
  (.leaf))
  (.leaf)))
  (.seq (rA 6)
  (.seq (.seq (rA 2)
  (.cond (.seq (rA 2)
  (.leaf))
  (.leaf)))
  (.seq (rA 3)
  (.leaf)))))))

theorem s72_ok {Ψ : AVal → Heap → Prop} {a : Int} {b : Int} {how : AVal} {h : Heap} (H : s72 Ψ a b how h) : ACalls prog 72 [(.int .i64 a), (.int .i64 b), how] h Ψ :=
  calls_of_evF func72 (by kernel_rfl) (by kernel_rfl) (by kernel_rfl)
    (Eq.mpr (by as_aux_lemma => kernel_rfl : oblF prog f72 (s72_A Ψ) Ψ = (True ∧ True ∧ True ∧ ((True) ∧ (∀ (h : Heap) (x0 x1 x2 : AVal) (x3 : Bool), OI (s72c1 Ψ x0 x1 x2 x3 h)) ∧ ((True ∧ True) ∧ True)) ∧ True ∧ (True ∧ (True ∧ True) ∧ True) ∧ True ∧ True)) ⟨trivial, ⟨trivial, ⟨trivial, ⟨⟨trivial, fun _ _ _ _ _ H => H, ⟨⟨trivial, trivial⟩, trivial⟩⟩, ⟨trivial, ⟨⟨trivial, ⟨⟨trivial, trivial⟩, trivial⟩⟩, ⟨trivial, trivial⟩⟩⟩⟩⟩⟩⟩)
    (Eq.mpr (by as_aux_lemma => kernel_rfl : evF prog f72 (s72_A Ψ) Ψ [(.int .i64 a), (.int .i64 b), how] h = s72 Ψ a b how h) H)

/- 74 dictum/nishimura.below -/
def s74 (Ψ : AVal → Heap → Prop) (a_all : Bool) (a_low : Int) (a_gap : Bool) (b_all : Bool) (b_low : Int) (b_gap : Bool) (h : Heap) : Prop :=
  callG prog 43 [(.agg [(.bool a_all), (.int .i64 a_low), (.bool a_gap)]), (.agg [(.bool b_all), (.int .i64 b_low), (.bool b_gap)])] h fun v h_ =>
  tAgg v fun l_ =>
  tCons l_ fun v1 l_1 =>
  tBool v1 fun v2 =>
  tCons l_1 fun v3 l_2 =>
  tInt .i64 v3 fun v4 =>
  tCons l_2 fun v5 l_3 =>
  tBool v5 fun v6 =>
  tNil l_3 (
    retG (.bool v2) h_ Ψ)

def s74_A (Ψ : AVal → Heap → Prop) : Ann :=
  .seq (.reg [⟨none, [(0, true), (1, true), (2, false)]⟩])
  (.seq (rA 5)
  (.leaf))

theorem s74_ok {Ψ : AVal → Heap → Prop} {a_all : Bool} {a_low : Int} {a_gap : Bool} {b_all : Bool} {b_low : Int} {b_gap : Bool} {h : Heap} (H : s74 Ψ a_all a_low a_gap b_all b_low b_gap h) : ACalls prog 74 [(.agg [(.bool a_all), (.int .i64 a_low), (.bool a_gap)]), (.agg [(.bool b_all), (.int .i64 b_low), (.bool b_gap)])] h Ψ :=
  calls_of_evF func74 (by kernel_rfl) (by kernel_rfl) (by kernel_rfl)
    (Eq.mpr (by as_aux_lemma => kernel_rfl : oblF prog f74 (s74_A Ψ) Ψ = (True ∧ True ∧ True)) ⟨trivial, ⟨trivial, trivial⟩⟩)
    (Eq.mpr (by as_aux_lemma => kernel_rfl : evF prog f74 (s74_A Ψ) Ψ [(.agg [(.bool a_all), (.int .i64 a_low), (.bool a_gap)]), (.agg [(.bool b_all), (.int .i64 b_low), (.bool b_gap)])] h = s74 Ψ a_all a_low a_gap b_all b_low b_gap h) H)

/- 76 dictum/dictumref03.Ints -/
abbrev s76l1_T := AVal → AVal → Int → Heap → Prop
def s76l1_R (F : s76l1_T) (l : List AVal) (h : Heap) : Prop := J.cons l fun x0 l => J.cons l fun x1 l => J.cons l fun v l => J.int .i64 v fun x2 => J.nil l (F x0 x1 x2 h)
def s76l1_G (F : s76l1_T) (x0 x1 : AVal) (x2 : Int) (h : Heap) : Prop := gJ [.any, .any, .int .i64] [x0, x1, (.int .i64 x2)] h (s76l1_R F)
def s76l1_E (F : Nat → s76l1_T) (x0 x1 : AVal) (x2 : Int) (h : Heap) : Prop := gJ [.any, .any, .int .i64] [x0, x1, (.int .i64 x2)] h (fun l h => ∃ n, s76l1_R (F n) l h)
theorem s76l1_go {F : s76l1_T} {x0 x1 : AVal} {x2 : Int} {h : Heap} (H : F x0 x1 x2 h) : s76l1_G F x0 x1 x2 h := gJ_plain rfl H
theorem s76l1_in {F : Nat → s76l1_T} {x0 x1 : AVal} {x2 : Int} {h : Heap} (n : Nat) (H : F n x0 x1 x2 h) : s76l1_E F x0 x1 x2 h := gJ_plain rfl ⟨n, H⟩

def s76l1 (Ψ : AVal → Heap → Prop) : Nat → s76l1_T
  | 0, _, _, _, _ => False
  | n2 + 1, a1, b1, i, h =>
    lenN a1 fun n3 =>
    ifT (decide (i < n3)) (
      ixS 1 a1 i fun p =>
      ld1 h p fun v =>
      tInt .i64 v fun v1 =>
      ixS 1 b1 i fun p1 =>
      ld1 h p1 fun v2 =>
      tInt .i64 v2 fun v3 =>
      ifT (v1 != v3) (
        retG (.bool false) h Ψ) (
        rg (i + 1) (
          s76l1_G (s76l1 Ψ n2) a1 b1 (i + 1) h))) (
      retG (.bool true) h Ψ)

def s76 (Ψ : AVal → Heap → Prop) (a : AVal) (b : AVal) (h : Heap) : Prop :=
  lenN a fun n =>
  lenN b fun n1 =>
  ifT (n != n1) (
    retG (.bool false) h Ψ) (
    s76l1_E (s76l1 Ψ) a b 0 h)

def s76_A (Ψ : AVal → Heap → Prop) : Ann :=
  .seq (rA 1)
  (.seq (.seq (rA 5)
  (.cond (.seq (rA 1)
  (.leaf))
  (.leaf)))
  (.seq (.seq (rA 1)
  (.block (.loop [(0, .any), (1, .any), (5, .int .i64)] (fun n l h => s76l1_R (s76l1 Ψ n) l h) (fun L1 =>
  .seq (.seq (rA 4)
  (.cond (.leaf)
  (.leaf)))
  (.seq (.block (.seq (.draw [(0, false), (1, false), (2, false), (3, false), (4, false), (5, false), (6, false), (7, false), (8, false)] [0, 0, 3, 7, 0, 0, 48, 112, 255])
  (.cond (.seq (rA 1)
  (.leaf))
  (.leaf))))
  (rA 3))))))
  (.seq (rA 1)
  (.leaf))))

theorem s76_ok {Ψ : AVal → Heap → Prop} {a : AVal} {b : AVal} {h : Heap} (H : s76 Ψ a b h) : ACalls prog 76 [a, b] h Ψ :=
  calls_of_evF func76 (by kernel_rfl) (by kernel_rfl) (by kernel_rfl)
    (Eq.mpr (by as_aux_lemma => kernel_rfl : oblF prog f76 (s76_A Ψ) Ψ = (True ∧ (True ∧ (True ∧ True) ∧ True) ∧ (True ∧ (∀ (h : Heap) (x0 x1 : AVal) (x2 : Int), ON (s76l1 Ψ 0 x0 x1 x2 h)) ∧ ∀ n1 : Nat, (∀ (h : Heap) (x0 x1 : AVal) (x2 : Int), OI (s76l1 Ψ (n1 + 1) x0 x1 x2 h)) ∧ ((True ∧ True ∧ True) ∧ (True ∧ (True ∧ True) ∧ True) ∧ True)) ∧ True ∧ True)) ⟨trivial, ⟨⟨trivial, ⟨⟨trivial, trivial⟩, trivial⟩⟩, ⟨⟨trivial, ⟨fun _ _ _ _ H => H, fun _ => ⟨fun _ _ _ _ H => H, ⟨⟨trivial, ⟨trivial, trivial⟩⟩, ⟨⟨trivial, ⟨⟨trivial, trivial⟩, trivial⟩⟩, trivial⟩⟩⟩⟩⟩, ⟨trivial, trivial⟩⟩⟩⟩)
    (Eq.mpr (by as_aux_lemma => kernel_rfl : evF prog f76 (s76_A Ψ) Ψ [a, b] h = s76 Ψ a b h) H)

/- 78 dictum/measure.row -/
def s78 (Ψ : AVal → Heap → Prop) (t : AVal) (id_ : Int) (h : Heap) : Prop :=
  Sym.newRow 4 [(.agg [(.int .i64 0), (.str (ByteArray.mk #[])), (.int .i64 0), (.int .i64 0)])] h fun r h_ =>
  callG prog 23 [t] h_ fun v h_1 =>
  nilP v fun b =>
  ifT b (
    st false h_1 (.ptr r 0 0) [(.int .i64 0), (.str (ByteArray.mk #[])), (.int .i64 0), (.int .i64 0)] fun h_2 =>
    ldN 4 h_2 (.ptr r 0 0) fun l_ =>
    tCons l_ fun v1 l_1 =>
    tInt .i64 v1 fun v2 =>
    tCons l_1 fun v3 l_2 =>
    tStr v3 fun v4 =>
    tCons l_2 fun v5 l_3 =>
    tInt .i64 v5 fun v6 =>
    tCons l_3 fun v7 l_4 =>
    tInt .i64 v7 fun v8 =>
    tNil l_4 (
      retG (.tuple [(.agg [(.int .i64 v2), (.str v4), (.int .i64 v6), (.int .i64 v8)]), (.int .i64 1)]) h_2 Ψ)) (
    callG prog 37 [t, (.int .i64 id_)] h_1 fun v9 h_3 =>
    tTup v9 fun l_5 =>
    tCons l_5 fun v10 l_6 =>
    tCons l_6 fun v11 l_7 =>
    tBool v11 fun v12 =>
    tNil l_7 (
      tAgg v10 fun l_8 =>
      tCons l_8 fun v13 l_9 =>
      tInt .i64 v13 fun v14 =>
      tCons l_9 fun v15 l_10 =>
      tStr v15 fun v16 =>
      tCons l_10 fun v17 l_11 =>
      tInt .i64 v17 fun v18 =>
      tCons l_11 fun v19 l_12 =>
      tInt .i64 v19 fun v20 =>
      tNil l_12 (
        Sym.newRow 4 [(.agg [(.int .i64 0), (.str (ByteArray.mk #[])), (.int .i64 0), (.int .i64 0)])] h_3 fun r1 h_4 =>
        st false h_4 (.ptr r1 0 0) [(.int .i64 v14), (.str v16), (.int .i64 v18), (.int .i64 v20)] fun h_5 =>
        ifT (!v12) (
          ldN 4 h_5 (.ptr r1 0 0) fun l_13 =>
          tCons l_13 fun v21 l_14 =>
          tInt .i64 v21 fun v22 =>
          tCons l_14 fun v23 l_15 =>
          tStr v23 fun v24 =>
          tCons l_15 fun v25 l_16 =>
          tInt .i64 v25 fun v26 =>
          tCons l_16 fun v27 l_17 =>
          tInt .i64 v27 fun v28 =>
          tNil l_17 (
            st false h_5 (.ptr r 0 0) [(.int .i64 v22), (.str v24), (.int .i64 v26), (.int .i64 v28)] fun h_6 =>
            ldN 4 h_6 (.ptr r 0 0) fun l_18 =>
            tCons l_18 fun v29 l_19 =>
            tInt .i64 v29 fun v30 =>
            tCons l_19 fun v31 l_20 =>
            tStr v31 fun v32 =>
            tCons l_20 fun v33 l_21 =>
            tInt .i64 v33 fun v34 =>
            tCons l_21 fun v35 l_22 =>
            tInt .i64 v35 fun v36 =>
            tNil l_22 (
              retG (.tuple [(.agg [(.int .i64 v30), (.str v32), (.int .i64 v34), (.int .i64 v36)]), (.int .i64 31)]) h_6 Ψ))) (
          ldN 4 h_5 (.ptr r1 0 0) fun l_23 =>
          tCons l_23 fun v37 l_24 =>
          tInt .i64 v37 fun v38 =>
          tCons l_24 fun v39 l_25 =>
          tStr v39 fun v40 =>
          tCons l_25 fun v41 l_26 =>
          tInt .i64 v41 fun v42 =>
          tCons l_26 fun v43 l_27 =>
          tInt .i64 v43 fun v44 =>
          tNil l_27 (
            st false h_5 (.ptr r 0 0) [(.int .i64 v38), (.str v40), (.int .i64 v42), (.int .i64 v44)] fun h_7 =>
            ldN 4 h_7 (.ptr r 0 0) fun l_28 =>
            tCons l_28 fun v45 l_29 =>
            tInt .i64 v45 fun v46 =>
            tCons l_29 fun v47 l_30 =>
            tStr v47 fun v48 =>
            tCons l_30 fun v49 l_31 =>
            tInt .i64 v49 fun v50 =>
            tCons l_31 fun v51 l_32 =>
            tInt .i64 v51 fun v52 =>
            tNil l_32 (
              retG (.tuple [(.agg [(.int .i64 v46), (.str v48), (.int .i64 v50), (.int .i64 v52)]), (.int .i64 0)]) h_7 Ψ))))))

def s78_A (Ψ : AVal → Heap → Prop) : Ann :=
  .seq (rA 2)
  (.seq (.seq (rA 3)
  (.cond (.seq (rA 3)
  (.leaf))
  (.leaf)))
  (.seq (rA 9)
  (.seq (.seq (rA 2)
  (.cond (.seq (rA 3)
  (.leaf))
  (.leaf)))
  (.seq (rA 3)
  (.leaf)))))

theorem s78_ok {Ψ : AVal → Heap → Prop} {t : AVal} {id_ : Int} {h : Heap} (H : s78 Ψ t id_ h) : ACalls prog 78 [t, (.int .i64 id_)] h Ψ :=
  calls_of_evF func78 (by kernel_rfl) (by kernel_rfl) (by kernel_rfl)
    (Eq.mpr (by as_aux_lemma => kernel_rfl : oblF prog f78 (s78_A Ψ) Ψ = (True ∧ (True ∧ (True ∧ True) ∧ True) ∧ True ∧ (True ∧ (True ∧ True) ∧ True) ∧ True ∧ True)) ⟨trivial, ⟨⟨trivial, ⟨⟨trivial, trivial⟩, trivial⟩⟩, ⟨trivial, ⟨⟨trivial, ⟨⟨trivial, trivial⟩, trivial⟩⟩, ⟨trivial, trivial⟩⟩⟩⟩⟩)
    (Eq.mpr (by as_aux_lemma => kernel_rfl : evF prog f78 (s78_A Ψ) Ψ [t, (.int .i64 id_)] h = s78 Ψ t id_ h) H)

/- 80 (*dictum/formula.Table).Below$1 -/
def s80 (Ψ : AVal → Heap → Prop) (id_ : Int) (c0 : AVal) (c1 : AVal) (c2 : AVal) (h : Heap) : Prop :=
  ld1 h c0 fun v =>
  mapGet (.int .i64 0) h v (.int .i64 id_) fun v1 b =>
  tInt .i64 v1 fun v2 =>
  ifT (decide (0 < v2)) (
    retG (.tuple []) h Ψ) (
    ld1 h c0 fun v3 =>
    mapPut h v3 (.int .i64 id_) (.int .i64 1) fun h_ =>
    ld1 h_ c1 fun v4 =>
    nilCheckA v4 fun p =>
    addOff p 0 fun p1 =>
    ld1 h_ p1 fun v5 =>
    ixS 4 v5 id_ fun p2 =>
    ldN 4 h_ p2 fun l_ =>
    tCons l_ fun v6 l_1 =>
    tInt .i64 v6 fun v7 =>
    tCons l_1 fun v8 l_2 =>
    tStr v8 fun v9 =>
    tCons l_2 fun v10 l_3 =>
    tInt .i64 v10 fun v11 =>
    tCons l_3 fun v12 l_4 =>
    tInt .i64 v12 fun v13 =>
    tNil l_4 (
      Sym.newRow 4 [(.agg [(.int .i64 0), (.str (ByteArray.mk #[])), (.int .i64 0), (.int .i64 0)])] h_ fun r h_1 =>
      st false h_1 (.ptr r 0 0) [(.int .i64 v7), (.str v9), (.int .i64 v11), (.int .i64 v13)] fun h_2 =>
      ld1 h_2 (.ptr r 0 0) fun v14 =>
      tInt .i64 v14 fun v15 =>
      ifT (decide (3 ≤ v15)) (
        ld1 h_2 c2 fun v16 =>
        ld1 h_2 (.ptr r 0 2) fun v17 =>
        tInt .i64 v17 fun v18 =>
        callV prog v16 [(.int .i64 v18)] h_2 fun v19 h_3 =>
        ld1 h_3 c2 fun v20 =>
        ld1 h_3 (.ptr r 0 3) fun v21 =>
        tInt .i64 v21 fun v22 =>
        callV prog v20 [(.int .i64 v22)] h_3 fun v23 h_4 =>
        retG (.tuple []) h_4 Ψ) (
        retG (.tuple []) h_2 Ψ)))

def s80_A (Ψ : AVal → Heap → Prop) : Ann :=
  .seq (.seq (rA 4)
  (.cond (.leaf)
  (.leaf)))
  (.seq (rA 3)
  (.seq (rA 9)
  (.seq (rA 3)
  (.cond (.seq (rA 4)
  (rA 4))
  (.leaf)))))

theorem s80_ok {Ψ : AVal → Heap → Prop} {id_ : Int} {c0 : AVal} {c1 : AVal} {c2 : AVal} {h : Heap} (H : s80 Ψ id_ c0 c1 c2 h) : ACalls prog 80 [(.int .i64 id_), c0, c1, c2] h Ψ :=
  calls_of_evF func80 (by kernel_rfl) (by kernel_rfl) (by kernel_rfl)
    (Eq.mpr (by as_aux_lemma => kernel_rfl : oblF prog f80 (s80_A Ψ) Ψ = ((True ∧ True ∧ True) ∧ True ∧ True ∧ True ∧ (True ∧ True) ∧ True)) ⟨⟨trivial, ⟨trivial, trivial⟩⟩, ⟨trivial, ⟨trivial, ⟨trivial, ⟨⟨trivial, trivial⟩, trivial⟩⟩⟩⟩⟩)
    (Eq.mpr (by as_aux_lemma => kernel_rfl : evF prog f80 (s80_A Ψ) Ψ [(.int .i64 id_), c0, c1, c2] h = s80 Ψ id_ c0 c1 c2 h) H)

/- 83 dictum/nishimura.far -/
def s83 (Ψ : AVal → Heap → Prop) (a_all : Bool) (a_low : Int) (a_gap : Bool) (b_all : Bool) (b_low : Int) (b_gap : Bool) (h : Heap) : Prop :=
  callG prog 104 [(.lsl 1 [(.int .i64 a_low), (.int .i64 b_low)])] h fun v h_ =>
  tInt .i64 v fun v1 =>
  rg (v1 + 3) (
    retG (.int .i64 (v1 + 3)) h_ Ψ)

def s83_A (Ψ : AVal → Heap → Prop) : Ann :=
  .seq (.reg [⟨none, [(0, true), (1, true), (2, false)]⟩])
  (.seq (.reg [⟨none, [(0, false), (1, false), (2, false), (3, false), (4, true), (5, false), (6, false), (7, false)]⟩])
  (.leaf))

theorem s83_ok {Ψ : AVal → Heap → Prop} {a_all : Bool} {a_low : Int} {a_gap : Bool} {b_all : Bool} {b_low : Int} {b_gap : Bool} {h : Heap} (H : s83 Ψ a_all a_low a_gap b_all b_low b_gap h) : ACalls prog 83 [(.agg [(.bool a_all), (.int .i64 a_low), (.bool a_gap)]), (.agg [(.bool b_all), (.int .i64 b_low), (.bool b_gap)])] h Ψ :=
  calls_of_evF func83 (by kernel_rfl) (by kernel_rfl) (by kernel_rfl)
    (Eq.mpr (by as_aux_lemma => kernel_rfl : oblF prog f83 (s83_A Ψ) Ψ = (True ∧ True ∧ True)) ⟨trivial, ⟨trivial, trivial⟩⟩)
    (Eq.mpr (by as_aux_lemma => kernel_rfl : evF prog f83 (s83_A Ψ) Ψ [(.agg [(.bool a_all), (.int .i64 a_low), (.bool a_gap)]), (.agg [(.bool b_all), (.int .i64 b_low), (.bool b_gap)])] h = s83 Ψ a_all a_low a_gap b_all b_low b_gap h) H)

/- 85 (dictum/nishimura.rung).has -/
def s85 (Ψ : AVal → Heap → Prop) (r_all : Bool) (r_low : Int) (r_gap : Bool) (w : Int) (h : Heap) : Prop :=
  ifT r_all (
    retG (.bool true) h Ψ) (
    ifT (decide (w < r_low)) (
      retG (.bool true) h Ψ) (
      ifT r_gap (
        rg (r_low + 1) (
          retG (.bool (w == (r_low + 1))) h Ψ)) (
        retG (.bool false) h Ψ)))

def s85_A (Ψ : AVal → Heap → Prop) : Ann :=
  .seq (.reg [⟨none, [(0, true), (1, false)]⟩])
  (.seq (.reg [⟨none, [(0, false), (1, false), (2, false)]⟩, ⟨some (7, false), [(3, false), (4, false), (5, false), (6, false)]⟩, ⟨none, [(7, false), (8, false)]⟩, ⟨some (13, false), [(9, false), (10, false), (11, false)]⟩, ⟨some (16, true), [(12, false), (13, false), (14, false), (15, false), (16, false)]⟩, ⟨some (13, false), [(17, false)]⟩, ⟨none, [(18, false), (19, false)]⟩])
  (.leaf))

theorem s85_ok {Ψ : AVal → Heap → Prop} {r_all : Bool} {r_low : Int} {r_gap : Bool} {w : Int} {h : Heap} (H : s85 Ψ r_all r_low r_gap w h) : ACalls prog 85 [(.agg [(.bool r_all), (.int .i64 r_low), (.bool r_gap)]), (.int .i64 w)] h Ψ :=
  calls_of_evF func85 (by kernel_rfl) (by kernel_rfl) (by kernel_rfl)
    (Eq.mpr (by as_aux_lemma => kernel_rfl : oblF prog f85 (s85_A Ψ) Ψ = (True ∧ True ∧ True)) ⟨trivial, ⟨trivial, trivial⟩⟩)
    (Eq.mpr (by as_aux_lemma => kernel_rfl : evF prog f85 (s85_A Ψ) Ψ [(.agg [(.bool r_all), (.int .i64 r_low), (.bool r_gap)]), (.int .i64 w)] h = s85 Ψ r_all r_low r_gap w h) H)

/- 87 dictum/nishimura.imp$1 -/
def s87 (Ψ : AVal → Heap → Prop) (w : Int) (c0 : AVal) (c1 : AVal) (h : Heap) : Prop :=
  ldN 3 h c0 fun l_ =>
  tCons l_ fun v l_1 =>
  tBool v fun v1 =>
  tCons l_1 fun v2 l_2 =>
  tInt .i64 v2 fun v3 =>
  tCons l_2 fun v4 l_3 =>
  tBool v4 fun v5 =>
  tNil l_3 (
    callG prog 85 [(.agg [(.bool v1), (.int .i64 v3), (.bool v5)]), (.int .i64 w)] h fun v6 h_ =>
    tBool v6 fun v7 =>
    ifT v7 (
      ldN 3 h_ c1 fun l_4 =>
      tCons l_4 fun v8 l_5 =>
      tBool v8 fun v9 =>
      tCons l_5 fun v10 l_6 =>
      tInt .i64 v10 fun v11 =>
      tCons l_6 fun v12 l_7 =>
      tBool v12 fun v13 =>
      tNil l_7 (
        callG prog 85 [(.agg [(.bool v9), (.int .i64 v11), (.bool v13)]), (.int .i64 w)] h_ fun v14 h_1 =>
        tBool v14 fun v15 =>
        retG (.bool (!v15)) h_1 Ψ)) (
      retG (.bool false) h_ Ψ))

def s87_A (Ψ : AVal → Heap → Prop) : Ann :=
  .seq (rA 1)
  (.seq (.reg [⟨none, [(0, false), (1, false), (2, false), (3, false)]⟩, ⟨some (8, true), [(4, false), (5, false), (6, false), (7, false)]⟩, ⟨none, [(8, false), (9, false)]⟩])
  (.leaf))

theorem s87_ok {Ψ : AVal → Heap → Prop} {w : Int} {c0 : AVal} {c1 : AVal} {h : Heap} (H : s87 Ψ w c0 c1 h) : ACalls prog 87 [(.int .i64 w), c0, c1] h Ψ :=
  calls_of_evF func87 (by kernel_rfl) (by kernel_rfl) (by kernel_rfl)
    (Eq.mpr (by as_aux_lemma => kernel_rfl : oblF prog f87 (s87_A Ψ) Ψ = (True ∧ True ∧ True)) ⟨trivial, ⟨trivial, trivial⟩⟩)
    (Eq.mpr (by as_aux_lemma => kernel_rfl : evF prog f87 (s87_A Ψ) Ψ [(.int .i64 w), c0, c1] h = s87 Ψ w c0 c1 h) H)

/- 89 dictum/dictumref06.put -/
abbrev s89l1_T := AVal → ByteArray → Int → Heap → Prop
def s89l1_R (F : s89l1_T) (l : List AVal) (h : Heap) : Prop := J.cons l fun x0 l => J.cons l fun v l => J.str v fun x1 => J.cons l fun v l => J.int .i64 v fun x2 => J.nil l (F x0 x1 x2 h)
def s89l1_G (F : s89l1_T) (x0 : AVal) (x1 : ByteArray) (x2 : Int) (h : Heap) : Prop := gJ [.any, .str, .int .i64] [x0, (.str x1), (.int .i64 x2)] h (s89l1_R F)
def s89l1_E (F : Nat → s89l1_T) (x0 : AVal) (x1 : ByteArray) (x2 : Int) (h : Heap) : Prop := gJ [.any, .str, .int .i64] [x0, (.str x1), (.int .i64 x2)] h (fun l h => ∃ n, s89l1_R (F n) l h)
theorem s89l1_go {F : s89l1_T} {x0 : AVal} {x1 : ByteArray} {x2 : Int} {h : Heap} (H : F x0 x1 x2 h) : s89l1_G F x0 x1 x2 h := gJ_plain rfl H
theorem s89l1_in {F : Nat → s89l1_T} {x0 : AVal} {x1 : ByteArray} {x2 : Int} {h : Heap} (n : Nat) (H : F n x0 x1 x2 h) : s89l1_E F x0 x1 x2 h := gJ_plain rfl ⟨n, H⟩

def s89c2 (Ψ : AVal → Heap → Prop) (L1 : s89l1_T) (l_2 : AVal) (s2 : ByteArray) (at_1 : Int) (t22 : Bool) (h : Heap) : Prop :=
  ifT t22 (
    rg (at_1 - 1) (
      ixS 1 l_2 (at_1 - 1) fun p =>
      ld1 h p fun v1 =>
      tStr v1 fun v2 =>
      ixS 1 l_2 at_1 fun p1 =>
      st true h p1 [(.str v2)] fun h_1 =>
      rg (at_1 - 1) (
        L1 l_2 s2 (at_1 - 1) h_1))) (
    ixS 1 l_2 at_1 fun p2 =>
    st true h p2 [(.str s2)] fun h_2 =>
    retG l_2 h_2 Ψ)

def s89l1 (Ψ : AVal → Heap → Prop) : Nat → s89l1_T
  | 0, _, _, _, _ => False
  | n1 + 1, l_1, s1, at_, h =>
    ifT (decide (0 < at_)) (
      rg (at_ - 1) (
        ixS 1 l_1 (at_ - 1) fun p3 =>
        ld1 h p3 fun v3 =>
        tStr v3 fun v4 =>
        s89c2 Ψ (s89l1_G (s89l1 Ψ n1)) l_1 s1 at_ (!(strLt v4 s1 || strEq v4 s1)) h)) (
      s89c2 Ψ (s89l1_G (s89l1 Ψ n1)) l_1 s1 at_ false h)

def s89 (Ψ : AVal → Heap → Prop) (l_ : AVal) (s : ByteArray) (h : Heap) : Prop :=
  lenN l_ fun n =>
  appC 1 16 h l_ (.lsl 1 [(.str s)]) fun v h_ =>
  s89l1_E (s89l1 Ψ) v s n h_

def s89_A (Ψ : AVal → Heap → Prop) : Ann :=
  .seq (rA 1)
  (.seq (rA 3)
  (.seq (.reg [⟨none, [(0, false), (1, false), (2, true), (3, false), (4, false)]⟩])
  (.seq (.block (.loop [(0, .any), (1, .str), (5, .int .i64)] (fun n l h => s89l1_R (s89l1 Ψ n) l h) (fun L1 =>
  .seq (.cut [(0, .any), (1, .str), (5, .int .i64), (22, .bool)] (fun l h => J.cons l fun x0 l => J.cons l fun v l => J.str v fun x1 => J.cons l fun v l => J.int .i64 v fun x2 => J.cons l fun v l => J.bool v fun x3 => J.nil l (s89c2 Ψ (fun y0 y1 y2 h => L1 [y0, (.str y1), (.int .i64 y2)] h) x0 x1 x2 x3 h)) (.reg [⟨none, [(0, false), (1, false), (2, false)]⟩, ⟨some (14, true), [(3, false), (4, false), (5, false), (6, false), (7, false), (8, false), (9, false)]⟩, ⟨none, [(10, false)]⟩])
  (.cond (.leaf)
  (.leaf)))
  (.block (.seq (rA 9)
  (rA 3))))))
  (.seq (rA 5)
  (.seq (rA 2)
  (.leaf))))))

theorem s89_ok {Ψ : AVal → Heap → Prop} {l_ : AVal} {s : ByteArray} {h : Heap} (H : s89 Ψ l_ s h) : ACalls prog 89 [l_, (.str s)] h Ψ :=
  calls_of_evF func89 (by kernel_rfl) (by kernel_rfl) (by kernel_rfl)
    (Eq.mpr (by as_aux_lemma => kernel_rfl : oblF prog f89 (s89_A Ψ) Ψ = (True ∧ True ∧ True ∧ ((∀ (h : Heap) (x0 : AVal) (x1 : ByteArray) (x2 : Int), ON (s89l1 Ψ 0 x0 x1 x2 h)) ∧ ∀ n1 : Nat, (∀ (h : Heap) (x0 : AVal) (x1 : ByteArray) (x2 : Int), OI (s89l1 Ψ (n1 + 1) x0 x1 x2 h)) ∧ (((True) ∧ (∀ (h : Heap) (x0 : AVal) (x1 : ByteArray) (x2 : Int) (x3 : Bool), OI (s89c2 Ψ (s89l1_G (s89l1 Ψ n1)) x0 x1 x2 x3 h)) ∧ (True ∧ True)) ∧ True ∧ True)) ∧ True ∧ True ∧ True)) ⟨trivial, ⟨trivial, ⟨trivial, ⟨⟨fun _ _ _ _ H => H, fun _ => ⟨fun _ _ _ _ H => H, ⟨⟨trivial, fun _ _ _ _ _ H => H, ⟨trivial, trivial⟩⟩, ⟨trivial, trivial⟩⟩⟩⟩, ⟨trivial, ⟨trivial, trivial⟩⟩⟩⟩⟩⟩)
    (Eq.mpr (by as_aux_lemma => kernel_rfl : evF prog f89 (s89_A Ψ) Ψ [l_, (.str s)] h = s89 Ψ l_ s h) H)

/- 91 dictum/dictumref26.named -/
abbrev s91l1_T := AVal → Int → Bool → Int → Heap → Prop
def s91l1_R (F : s91l1_T) (l : List AVal) (h : Heap) : Prop := J.cons l fun x0 l => J.cons l fun v l => J.int .i64 v fun x1 => J.cons l fun v l => J.bool v fun x2 => J.cons l fun v l => J.int .i64 v fun x3 => J.nil l (F x0 x1 x2 x3 h)
def s91l1_G (F : s91l1_T) (x0 : AVal) (x1 : Int) (x2 : Bool) (x3 : Int) (h : Heap) : Prop := gJ [.any, .int .i64, .bool, .int .i64] [x0, (.int .i64 x1), (.bool x2), (.int .i64 x3)] h (s91l1_R F)
def s91l1_E (F : Nat → s91l1_T) (x0 : AVal) (x1 : Int) (x2 : Bool) (x3 : Int) (h : Heap) : Prop := gJ [.any, .int .i64, .bool, .int .i64] [x0, (.int .i64 x1), (.bool x2), (.int .i64 x3)] h (fun l h => ∃ n, s91l1_R (F n) l h)
theorem s91l1_go {F : s91l1_T} {x0 : AVal} {x1 : Int} {x2 : Bool} {x3 : Int} {h : Heap} (H : F x0 x1 x2 x3 h) : s91l1_G F x0 x1 x2 x3 h := gJ_plain rfl H
theorem s91l1_in {F : Nat → s91l1_T} {x0 : AVal} {x1 : Int} {x2 : Bool} {x3 : Int} {h : Heap} (n : Nat) (H : F n x0 x1 x2 x3 h) : s91l1_E F x0 x1 x2 x3 h := gJ_plain rfl ⟨n, H⟩

def s91c2 (Ψ : AVal → Heap → Prop) (L1 : s91l1_T) (in_2 : AVal) (n3 : Int) (all1 : Bool) (w1 : Int) (h : Heap) : Prop :=
  rg (w1 + 1) (
    L1 in_2 n3 all1 (w1 + 1) h)

abbrev s91l3_T := AVal → Int → Int → Heap → Prop
def s91l3_R (F : s91l3_T) (l : List AVal) (h : Heap) : Prop := J.cons l fun x0 l => J.cons l fun v l => J.int .i64 v fun x1 => J.cons l fun v l => J.int .i64 v fun x2 => J.nil l (F x0 x1 x2 h)
def s91l3_G (F : s91l3_T) (x0 : AVal) (x1 x2 : Int) (h : Heap) : Prop := gJ [.any, .int .i64, .int .i64] [x0, (.int .i64 x1), (.int .i64 x2)] h (s91l3_R F)
def s91l3_E (F : Nat → s91l3_T) (x0 : AVal) (x1 x2 : Int) (h : Heap) : Prop := gJ [.any, .int .i64, .int .i64] [x0, (.int .i64 x1), (.int .i64 x2)] h (fun l h => ∃ n, s91l3_R (F n) l h)
theorem s91l3_go {F : s91l3_T} {x0 : AVal} {x1 x2 : Int} {h : Heap} (H : F x0 x1 x2 h) : s91l3_G F x0 x1 x2 h := gJ_plain rfl H
theorem s91l3_in {F : Nat → s91l3_T} {x0 : AVal} {x1 x2 : Int} {h : Heap} (n : Nat) (H : F n x0 x1 x2 h) : s91l3_E F x0 x1 x2 h := gJ_plain rfl ⟨n, H⟩

abbrev s91l4_T := AVal → Int → Int → Bool → Int → Heap → Prop
def s91l4_R (F : s91l4_T) (l : List AVal) (h : Heap) : Prop := J.cons l fun x0 l => J.cons l fun v l => J.int .i64 v fun x1 => J.cons l fun v l => J.int .i64 v fun x2 => J.cons l fun v l => J.bool v fun x3 => J.cons l fun v l => J.int .i64 v fun x4 => J.nil l (F x0 x1 x2 x3 x4 h)
def s91l4_G (F : s91l4_T) (x0 : AVal) (x1 x2 : Int) (x3 : Bool) (x4 : Int) (h : Heap) : Prop := gJ [.any, .int .i64, .int .i64, .bool, .int .i64] [x0, (.int .i64 x1), (.int .i64 x2), (.bool x3), (.int .i64 x4)] h (s91l4_R F)
def s91l4_E (F : Nat → s91l4_T) (x0 : AVal) (x1 x2 : Int) (x3 : Bool) (x4 : Int) (h : Heap) : Prop := gJ [.any, .int .i64, .int .i64, .bool, .int .i64] [x0, (.int .i64 x1), (.int .i64 x2), (.bool x3), (.int .i64 x4)] h (fun l h => ∃ n, s91l4_R (F n) l h)
theorem s91l4_go {F : s91l4_T} {x0 : AVal} {x1 x2 : Int} {x3 : Bool} {x4 : Int} {h : Heap} (H : F x0 x1 x2 x3 x4 h) : s91l4_G F x0 x1 x2 x3 x4 h := gJ_plain rfl H
theorem s91l4_in {F : Nat → s91l4_T} {x0 : AVal} {x1 x2 : Int} {x3 : Bool} {x4 : Int} {h : Heap} (n : Nat) (H : F n x0 x1 x2 x3 x4 h) : s91l4_E F x0 x1 x2 x3 x4 h := gJ_plain rfl ⟨n, H⟩

def s91c5 (Ψ : AVal → Heap → Prop) (L3 : s91l3_T) (L4 : s91l4_T) (in_5 : AVal) (n8 k2 : Int) (same1 : Bool) (w3 : Int) (t36 : Bool) (h : Heap) : Prop :=
  ifT t36 (
    ixS 1 in_5 w3 fun p1 =>
    ld1 h p1 fun v2 =>
    tBool v2 fun v3 =>
    callG prog 20 [(.int .i64 k2), (.int .i64 w3)] h fun v4 h_ =>
    tBool v4 fun v5 =>
    (ld1 h_ p1 fun v6 =>
    v6 = (.bool v3)) ∧
    eqQ prog 4 (.bool v5) (.bool v3) fun b =>
    rg (w3 + 1) (
      L4 in_5 n8 k2 b (w3 + 1) h_)) (
    ifT same1 (
      retG (.tuple [(.int .i64 k2), (.bool true)]) h Ψ) (
      rg (k2 + 1) (
        L3 in_5 n8 (k2 + 1) h)))

def s91l4 (Ψ : AVal → Heap → Prop) (L3 : s91l3_T) : Nat → s91l4_T
  | 0, _, _, _, _, _, _ => False
  | n7 + 1, in_4, n6, k1, same, w2, h =>
    ifT (decide (w2 < n6)) (
      s91c5 Ψ L3 (s91l4_G (s91l4 Ψ L3 n7)) in_4 n6 k1 same w2 same h) (
      s91c5 Ψ L3 (s91l4_G (s91l4 Ψ L3 n7)) in_4 n6 k1 same w2 false h)

def s91l3 (Ψ : AVal → Heap → Prop) : Nat → s91l3_T
  | 0, _, _, _, _ => False
  | n5 + 1, in_3, n4, k, h =>
    rg (2 * n4) (
      ifT (decide (k < (2 * n4))) (
        s91l4_E (s91l4 Ψ (s91l3_G (s91l3 Ψ n5))) in_3 n4 k true 0 h) (
        retG (.tuple [(.int .i64 0), (.bool false)]) h Ψ))

def s91l1 (Ψ : AVal → Heap → Prop) : Nat → s91l1_T
  | 0, _, _, _, _, _ => False
  | n2 + 1, in_1, n1, all, w, h =>
    ifT (decide (w < n1)) (
      ifT all (
        ixS 1 in_1 w fun p =>
        ld1 h p fun v =>
        tBool v fun v1 =>
        s91c2 Ψ (s91l1_G (s91l1 Ψ n2)) in_1 n1 v1 w h) (
        s91c2 Ψ (s91l1_G (s91l1 Ψ n2)) in_1 n1 false w h)) (
      ifT all (
        retG (.tuple [(.int .i64 (-1)), (.bool true)]) h Ψ) (
        s91l3_E (s91l3 Ψ) in_1 n1 0 h))

def s91 (Ψ : AVal → Heap → Prop) (in_ : AVal) (h : Heap) : Prop :=
  lenN in_ fun n =>
  s91l1_E (s91l1 Ψ) in_ n true 0 h

def s91_A (Ψ : AVal → Heap → Prop) : Ann :=
  .seq (rA 2)
  (.seq (rA 3)
  (.seq (rA 1)
  (.seq (.seq (rA 1)
  (.block (.loop [(0, .any), (4, .int .i64), (5, .bool), (6, .int .i64)] (fun n l h => s91l1_R (s91l1 Ψ n) l h) (fun L1 =>
  .seq (.seq (rA 3)
  (.cond (.leaf)
  (.leaf)))
  (.cut [(0, .any), (4, .int .i64), (5, .bool), (6, .int .i64)] (fun l h => J.cons l fun x0 l => J.cons l fun v l => J.int .i64 v fun x1 => J.cons l fun v l => J.bool v fun x2 => J.cons l fun v l => J.int .i64 v fun x3 => J.nil l (s91c2 Ψ (fun y0 y1 y2 y3 h => L1 [y0, (.int .i64 y1), (.bool y2), (.int .i64 y3)] h) x0 x1 x2 x3 h)) (.block (.reg [⟨none, [(0, false), (1, false)]⟩, ⟨some (18, true), [(2, false), (3, false), (4, false), (5, false)]⟩, ⟨none, [(6, false), (7, false)]⟩]))
  (rA 3))))))
  (.seq (.seq (rA 1)
  (.cond (.seq (rA 2)
  (.leaf))
  (.leaf)))
  (.seq (.seq (rA 1)
  (.block (.loop [(0, .any), (4, .int .i64), (7, .int .i64)] (fun n l h => s91l3_R (s91l3 Ψ n) l h) (fun L3 =>
  .seq (.seq (rA 4)
  (.cond (.leaf)
  (.leaf)))
  (.seq (.block (.seq (rA 1)
  (.seq (.seq (rA 1)
  (.block (.loop [(0, .any), (4, .int .i64), (7, .int .i64), (8, .bool), (9, .int .i64)] (fun n l h => s91l4_R (s91l4 Ψ (fun y0 y1 y2 h => L3 [y0, (.int .i64 y1), (.int .i64 y2)] h) n) l h) (fun L4 =>
  .seq (.cut [(0, .any), (4, .int .i64), (7, .int .i64), (8, .bool), (9, .int .i64), (36, .bool)] (fun l h => J.cons l fun x0 l => J.cons l fun v l => J.int .i64 v fun x1 => J.cons l fun v l => J.int .i64 v fun x2 => J.cons l fun v l => J.bool v fun x3 => J.cons l fun v l => J.int .i64 v fun x4 => J.cons l fun v l => J.bool v fun x5 => J.nil l (s91c5 Ψ (fun y0 y1 y2 h => L3 [y0, (.int .i64 y1), (.int .i64 y2)] h) (fun y0 y1 y2 y3 y4 h => L4 [y0, (.int .i64 y1), (.int .i64 y2), (.bool y3), (.int .i64 y4)] h) x0 x1 x2 x3 x4 x5 h)) (.reg [⟨none, [(0, false), (1, false), (2, false), (3, false)]⟩, ⟨some (34, true), [(4, false)]⟩, ⟨none, [(5, false)]⟩])
  (.cond (.leaf)
  (.leaf)))
  (.seq (.block (.draw [(0, false), (1, false), (3, false), (4, false), (5, false), (6, false), (2, false), (7, false), (8, false)] [0, 0, 3, 0, 0, 24, 56, 127, 255]))
  (rA 3))))))
  (.seq (rA 1)
  (.cond (.seq (rA 3)
  (.leaf))
  (.leaf))))))
  (rA 3))))))
  (.seq (rA 2)
  (.leaf)))))))

theorem s91_ok {Ψ : AVal → Heap → Prop} {in_ : AVal} {h : Heap} (H : s91 Ψ in_ h) : ACalls prog 91 [in_] h Ψ :=
  calls_of_evF func91 (by kernel_rfl) (by kernel_rfl) (by kernel_rfl)
    (Eq.mpr (by as_aux_lemma => kernel_rfl : oblF prog f91 (s91_A Ψ) Ψ = (True ∧ True ∧ True ∧ (True ∧ (∀ (h : Heap) (x0 : AVal) (x1 : Int) (x2 : Bool) (x3 : Int), ON (s91l1 Ψ 0 x0 x1 x2 x3 h)) ∧ ∀ n1 : Nat, (∀ (h : Heap) (x0 : AVal) (x1 : Int) (x2 : Bool) (x3 : Int), OI (s91l1 Ψ (n1 + 1) x0 x1 x2 x3 h)) ∧ ((True ∧ True ∧ True) ∧ (True) ∧ (∀ (h : Heap) (x0 : AVal) (x1 : Int) (x2 : Bool) (x3 : Int), OI (s91c2 Ψ (s91l1_G (s91l1 Ψ n1)) x0 x1 x2 x3 h)) ∧ (True))) ∧ (True ∧ (True ∧ True) ∧ True) ∧ (True ∧ (∀ (h : Heap) (x0 : AVal) (x1 x2 : Int), ON (s91l3 Ψ 0 x0 x1 x2 h)) ∧ ∀ n3 : Nat, (∀ (h : Heap) (x0 : AVal) (x1 x2 : Int), OI (s91l3 Ψ (n3 + 1) x0 x1 x2 h)) ∧ ((True ∧ True ∧ True) ∧ (True ∧ (True ∧ (∀ (h : Heap) (x0 : AVal) (x1 x2 : Int) (x3 : Bool) (x4 : Int), ON (s91l4 Ψ (s91l3_G (s91l3 Ψ n3)) 0 x0 x1 x2 x3 x4 h)) ∧ ∀ n4 : Nat, (∀ (h : Heap) (x0 : AVal) (x1 x2 : Int) (x3 : Bool) (x4 : Int), OI (s91l4 Ψ (s91l3_G (s91l3 Ψ n3)) (n4 + 1) x0 x1 x2 x3 x4 h)) ∧ (((True) ∧ (∀ (h : Heap) (x0 : AVal) (x1 x2 : Int) (x3 : Bool) (x4 : Int) (x5 : Bool), OI (s91c5 Ψ (s91l3_G (s91l3 Ψ n3)) (s91l4_G (s91l4 Ψ (s91l3_G (s91l3 Ψ n3)) n4)) x0 x1 x2 x3 x4 x5 h)) ∧ (True ∧ True)) ∧ True ∧ True)) ∧ True ∧ (True ∧ True) ∧ True) ∧ True)) ∧ True ∧ True)) ⟨trivial, ⟨trivial, ⟨trivial, ⟨⟨trivial, ⟨fun _ _ _ _ _ H => H, fun _ => ⟨fun _ _ _ _ _ H => H, ⟨⟨trivial, ⟨trivial, trivial⟩⟩, ⟨trivial, fun _ _ _ _ _ H => H, trivial⟩⟩⟩⟩⟩, ⟨⟨trivial, ⟨⟨trivial, trivial⟩, trivial⟩⟩, ⟨⟨trivial, ⟨fun _ _ _ _ H => H, fun _ => ⟨fun _ _ _ _ H => H, ⟨⟨trivial, ⟨trivial, trivial⟩⟩, ⟨⟨trivial, ⟨⟨trivial, ⟨fun _ _ _ _ _ _ H => H, fun _ => ⟨fun _ _ _ _ _ _ H => H, ⟨⟨trivial, fun _ _ _ _ _ _ _ H => H, ⟨trivial, trivial⟩⟩, ⟨trivial, trivial⟩⟩⟩⟩⟩, ⟨trivial, ⟨⟨trivial, trivial⟩, trivial⟩⟩⟩⟩, trivial⟩⟩⟩⟩⟩, ⟨trivial, trivial⟩⟩⟩⟩⟩⟩⟩)
    (Eq.mpr (by as_aux_lemma => kernel_rfl : evF prog f91 (s91_A Ψ) Ψ [in_] h = s91 Ψ in_ h) H)

/- 98 (*dictum/dictumref03.T).Put -/
def s98c1 (Ψ : AVal → Heap → Prop) (t1 n : AVal) (h : Heap) : Prop :=
  ldN 4 h n fun l_ =>
  tCons l_ fun v l_1 =>
  tInt .i64 v fun v1 =>
  tCons l_1 fun v2 l_2 =>
  tStr v2 fun v3 =>
  tCons l_2 fun v4 l_3 =>
  tInt .i64 v4 fun v5 =>
  tCons l_3 fun v6 l_4 =>
  tInt .i64 v6 fun v7 =>
  tNil l_4 (
    callG prog 110 [t1, (.agg [(.int .i64 v1), (.str v3), (.int .i64 v5), (.int .i64 v7)])] h fun v8 h_ =>
    tTup v8 fun l_5 =>
    tCons l_5 fun v9 l_6 =>
    tInt .i64 v9 fun v10 =>
    tCons l_6 fun v11 l_7 =>
    tBool v11 fun v12 =>
    tNil l_7 (
      ifT v12 (
        retG (.tuple [(.int .i64 v10), (.int .i64 0)]) h_ Ψ) (
        nilCheckA t1 fun p =>
        addOff p 0 fun p1 =>
        ld1 h_ p1 fun v13 =>
        lenN v13 fun n1 =>
        ifT (decide (1024 ≤ n1)) (
          retG (.tuple [(.int .i64 0), (.int .i64 30)]) h_ Ψ) (
          nilCheckA t1 fun p2 =>
          addOff p2 0 fun p3 =>
          ld1 h_ p3 fun v14 =>
          ldN 4 h_ n fun l_8 =>
          tCons l_8 fun v15 l_9 =>
          tInt .i64 v15 fun v16 =>
          tCons l_9 fun v17 l_10 =>
          tStr v17 fun v18 =>
          tCons l_10 fun v19 l_11 =>
          tInt .i64 v19 fun v20 =>
          tCons l_11 fun v21 l_12 =>
          tInt .i64 v21 fun v22 =>
          tNil l_12 (
            (ld1 h_ p3 fun v23 =>
            v23 = v14) ∧
            appC 4 40 h_ v14 (.lsl 4 [(.agg [(.int .i64 v16), (.str v18), (.int .i64 v20), (.int .i64 v22)])]) fun v24 h_1 =>
            nilCheckA t1 fun p4 =>
            addOff p4 0 fun p5 =>
            chk (sc v24) (
              st true h_1 p5 [v24] fun h_2 =>
              nilCheckA t1 fun p6 =>
              addOff p6 0 fun p7 =>
              ld1 h_2 p7 fun v25 =>
              lenN v25 fun n2 =>
              rg (n2 - 1) (
                retG (.tuple [(.int .i64 (n2 - 1)), (.int .i64 0)]) h_2 Ψ)))))))

def s98c2 (Ψ : AVal → Heap → Prop) (t2 n3 : AVal) (t19 : Bool) (h : Heap) : Prop :=
  ifT t19 (
    retG (.tuple [(.int .i64 0), (.int .i64 31)]) h Ψ) (
    addOff n3 1 fun p8 =>
    ld1 h p8 fun v26 =>
    tStr v26 fun v27 =>
    callG prog 28 [(.str v27)] h fun v28 h_3 =>
    tBool v28 fun v29 =>
    ifT (!v29) (
      retG (.tuple [(.int .i64 0), (.int .i64 32)]) h_3 Ψ) (
      s98c1 Ψ t2 n3 h_3))

def s98c3 (Ψ : AVal → Heap → Prop) (t3 n4 : AVal) (t38 : Bool) (h : Heap) : Prop :=
  ifT t38 (
    retG (.tuple [(.int .i64 0), (.int .i64 31)]) h Ψ) (
    s98c1 Ψ t3 n4 h)

def s98c5 (Ψ : AVal → Heap → Prop) (t5 n6 : AVal) (t59 : Bool) (h : Heap) : Prop :=
  ifT t59 (
    retG (.tuple [(.int .i64 0), (.int .i64 31)]) h Ψ) (
    s98c1 Ψ t5 n6 h)

def s98c4 (Ψ : AVal → Heap → Prop) (t4 n5 : AVal) (t39 : Bool) (h : Heap) : Prop :=
  ifT t39 (
    addOff n5 1 fun p9 =>
    ld1 h p9 fun v30 =>
    tStr v30 fun v31 =>
    ifT (!strEq v31 (ByteArray.mk #[])) (
      s98c5 Ψ t4 n5 true h) (
      addOff n5 2 fun p10 =>
      ld1 h p10 fun v32 =>
      tInt .i64 v32 fun v33 =>
      callG prog 50 [t4, (.int .i64 v33)] h fun v34 h_4 =>
      tBool v34 fun v35 =>
      ifT (!v35) (
        s98c5 Ψ t4 n5 true h_4) (
        addOff n5 3 fun p11 =>
        ld1 h_4 p11 fun v36 =>
        tInt .i64 v36 fun v37 =>
        callG prog 50 [t4, (.int .i64 v37)] h_4 fun v38 h_5 =>
        tBool v38 fun v39 =>
        s98c5 Ψ t4 n5 (!v39) h_5))) (
    retG (.tuple [(.int .i64 0), (.int .i64 31)]) h Ψ)

def s98 (Ψ : AVal → Heap → Prop) (t : AVal) (n_Kind : Int) (n_Name : ByteArray) (n_L : Int) (n_R : Int) (h : Heap) : Prop :=
  ifT (n_Kind == 1) (
    ifT (n_L != 0) (
      s98c2 Ψ t (.lptr [(.int .i64 n_Kind), (.str n_Name), (.int .i64 n_L), (.int .i64 n_R)]) true h) (
      s98c2 Ψ t (.lptr [(.int .i64 n_Kind), (.str n_Name), (.int .i64 n_L), (.int .i64 n_R)]) (n_R != 0) h)) (
    ifT (n_Kind == 2) (
      ifT (!strEq n_Name (ByteArray.mk #[])) (
        s98c3 Ψ t (.lptr [(.int .i64 n_Kind), (.str n_Name), (.int .i64 n_L), (.int .i64 n_R)]) true h) (
        ifT (n_L != 0) (
          s98c3 Ψ t (.lptr [(.int .i64 n_Kind), (.str n_Name), (.int .i64 n_L), (.int .i64 n_R)]) true h) (
          s98c3 Ψ t (.lptr [(.int .i64 n_Kind), (.str n_Name), (.int .i64 n_L), (.int .i64 n_R)]) (n_R != 0) h))) (
      ifT (n_Kind == 3) (
        s98c4 Ψ t (.lptr [(.int .i64 n_Kind), (.str n_Name), (.int .i64 n_L), (.int .i64 n_R)]) (n_Kind == 3) h) (
        ifT (n_Kind == 4) (
          s98c4 Ψ t (.lptr [(.int .i64 n_Kind), (.str n_Name), (.int .i64 n_L), (.int .i64 n_R)]) (n_Kind == 4) h) (
          s98c4 Ψ t (.lptr [(.int .i64 n_Kind), (.str n_Name), (.int .i64 n_L), (.int .i64 n_R)]) (n_Kind == 5) h))))

def s98_A (Ψ : AVal → Heap → Prop) : Ann :=
  .seq (.reg [⟨none, [(0, true), (1, false), (2, false)]⟩])
  (.cut [(0, .any), (3, .any)] (fun l h => J.cons l fun x0 l => J.cons l fun x1 l => J.nil l (s98c1 Ψ x0 x1 h)) (.seq (rA 2)
  (.block (.seq (rA 2)
  (.cond (.seq (.cut [(0, .any), (3, .any), (19, .bool)] (fun l h => J.cons l fun x0 l => J.cons l fun x1 l => J.cons l fun v l => J.bool v fun x2 => J.nil l (s98c2 Ψ x0 x1 x2 h)) (.reg [⟨none, [(0, false), (1, false), (2, false), (3, false)]⟩, ⟨some (15, false), [(4, false), (5, false), (6, false)]⟩, ⟨none, [(7, false)]⟩])
  (.cond (.seq (rA 2)
  (.leaf))
  (.leaf)))
  (.seq (rA 4)
  (.cond (.seq (rA 2)
  (.leaf))
  (.leaf))))
  (.seq (rA 2)
  (.cond (.cut [(0, .any), (3, .any), (38, .bool)] (fun l h => J.cons l fun x0 l => J.cons l fun x1 l => J.cons l fun v l => J.bool v fun x2 => J.nil l (s98c3 Ψ x0 x1 x2 h)) (.reg [⟨none, [(0, false), (1, false), (2, false), (3, false)]⟩, ⟨some (29, false), [(4, false), (5, false), (6, false)]⟩, ⟨none, [(7, false), (8, false)]⟩, ⟨some (34, false), [(9, false), (10, false), (11, false)]⟩, ⟨none, [(12, false)]⟩])
  (.cond (.seq (rA 2)
  (.leaf))
  (.leaf)))
  (.cut [(0, .any), (3, .any), (39, .bool)] (fun l h => J.cons l fun x0 l => J.cons l fun x1 l => J.cons l fun v l => J.bool v fun x2 => J.nil l (s98c4 Ψ x0 x1 x2 h)) (.seq (rA 2)
  (.cond (.leaf)
  (.seq (rA 2)
  (.cond (.leaf)
  (rA 2)))))
  (.cond (.cut [(0, .any), (3, .any), (59, .bool)] (fun l h => J.cons l fun x0 l => J.cons l fun x1 l => J.cons l fun v l => J.bool v fun x2 => J.nil l (s98c5 Ψ x0 x1 x2 h)) (.reg [⟨none, [(0, false), (1, false), (2, false), (3, false)]⟩, ⟨some (46, false), [(4, false), (5, false), (6, false), (7, false), (8, false)]⟩, ⟨none, [(9, false), (10, false)]⟩, ⟨some (53, false), [(11, false), (12, false), (13, false), (14, false), (15, false)]⟩, ⟨none, [(16, false)]⟩])
  (.cond (.seq (rA 2)
  (.leaf))
  (.leaf)))
  (.seq (rA 2)
  (.leaf))))))))))
  (.seq (rA 8)
  (.seq (.seq (rA 1)
  (.cond (.seq (rA 3)
  (.leaf))
  (.leaf)))
  (.seq (.seq (rA 6)
  (.cond (.seq (rA 2)
  (.leaf))
  (.leaf)))
  (.seq (.draw [(0, false), (1, false), (2, false), (3, false), (4, false), (5, false), (6, true), (7, false), (8, false), (9, false), (10, false)] [0, 0, 2, 6, 14, 0, 32, 126, 255, 511, 1023])
  (.seq (rA 8)
  (.leaf)))))))

theorem s98_ok {Ψ : AVal → Heap → Prop} {t : AVal} {n_Kind : Int} {n_Name : ByteArray} {n_L : Int} {n_R : Int} {h : Heap} (H : s98 Ψ t n_Kind n_Name n_L n_R h) : ACalls prog 98 [t, (.agg [(.int .i64 n_Kind), (.str n_Name), (.int .i64 n_L), (.int .i64 n_R)])] h Ψ :=
  calls_of_evF func98 (by kernel_rfl) (by kernel_rfl) (by kernel_rfl)
    (Eq.mpr (by as_aux_lemma => kernel_rfl : oblF prog f98 (s98_A Ψ) Ψ = (True ∧ (True ∧ True ∧ (((True) ∧ (∀ (h : Heap) (x0 x1 : AVal) (x2 : Bool), OI (s98c2 Ψ x0 x1 x2 h)) ∧ ((True ∧ True) ∧ True)) ∧ True ∧ (True ∧ True) ∧ True) ∧ True ∧ ((True) ∧ (∀ (h : Heap) (x0 x1 : AVal) (x2 : Bool), OI (s98c3 Ψ x0 x1 x2 h)) ∧ ((True ∧ True) ∧ True)) ∧ (True ∧ True ∧ True ∧ True ∧ True) ∧ (∀ (h : Heap) (x0 x1 : AVal) (x2 : Bool), OI (s98c4 Ψ x0 x1 x2 h)) ∧ (((True) ∧ (∀ (h : Heap) (x0 x1 : AVal) (x2 : Bool), OI (s98c5 Ψ x0 x1 x2 h)) ∧ ((True ∧ True) ∧ True)) ∧ True ∧ True)) ∧ (∀ (h : Heap) (x0 x1 : AVal), OI (s98c1 Ψ x0 x1 h)) ∧ (True ∧ (True ∧ (True ∧ True) ∧ True) ∧ (True ∧ (True ∧ True) ∧ True) ∧ True ∧ True ∧ True))) ⟨trivial, ⟨⟨trivial, ⟨trivial, ⟨⟨⟨trivial, fun _ _ _ _ H => H, ⟨⟨trivial, trivial⟩, trivial⟩⟩, ⟨trivial, ⟨⟨trivial, trivial⟩, trivial⟩⟩⟩, ⟨trivial, ⟨⟨trivial, fun _ _ _ _ H => H, ⟨⟨trivial, trivial⟩, trivial⟩⟩, ⟨⟨trivial, ⟨trivial, ⟨trivial, ⟨trivial, trivial⟩⟩⟩⟩, fun _ _ _ _ H => H, ⟨⟨trivial, fun _ _ _ _ H => H, ⟨⟨trivial, trivial⟩, trivial⟩⟩, ⟨trivial, trivial⟩⟩⟩⟩⟩⟩⟩⟩, fun _ _ _ H => H, ⟨trivial, ⟨⟨trivial, ⟨⟨trivial, trivial⟩, trivial⟩⟩, ⟨⟨trivial, ⟨⟨trivial, trivial⟩, trivial⟩⟩, ⟨trivial, ⟨trivial, trivial⟩⟩⟩⟩⟩⟩⟩)
    (Eq.mpr (by as_aux_lemma => kernel_rfl : evF prog f98 (s98_A Ψ) Ψ [t, (.agg [(.int .i64 n_Kind), (.str n_Name), (.int .i64 n_L), (.int .i64 n_R)])] h = s98 Ψ t n_Kind n_Name n_L n_R h) H)

/- 100 slices.Clone[[]dictum/api.Node,dictum/api.Node] -/
def s100 (Ψ : AVal → Heap → Prop) (s : AVal) (h : Heap) : Prop :=
  nilS s fun b =>
  ifT b (
    retG .nilsl h Ψ) (
    Sym.newRow 4 [] h fun r h_ =>
    appC 4 40 h_ (.sl r 4 0 0) s fun v h_1 =>
    retG v h_1 Ψ)

def s100_A (Ψ : AVal → Heap → Prop) : Ann :=
  .seq (rA 1)
  (.seq (.seq (rA 2)
  (.cond (.seq (rA 1)
  (.leaf))
  (.leaf)))
  (.seq (rA 4)
  (.leaf)))

theorem s100_ok {Ψ : AVal → Heap → Prop} {s : AVal} {h : Heap} (H : s100 Ψ s h) : ACalls prog 100 [s] h Ψ :=
  calls_of_evF func100 (by kernel_rfl) (by kernel_rfl) (by kernel_rfl)
    (Eq.mpr (by as_aux_lemma => kernel_rfl : oblF prog f100 (s100_A Ψ) Ψ = (True ∧ (True ∧ (True ∧ True) ∧ True) ∧ True ∧ True)) ⟨trivial, ⟨⟨trivial, ⟨⟨trivial, trivial⟩, trivial⟩⟩, ⟨trivial, trivial⟩⟩⟩)
    (Eq.mpr (by as_aux_lemma => kernel_rfl : evF prog f100 (s100_A Ψ) Ψ [s] h = s100 Ψ s h) H)

/- 102 math/bits.Len -/
def s102 (Ψ : AVal → Heap → Prop) (x : Int) (h : Heap) : Prop :=
  callG prog 122 [(.int .u64 x)] h fun v h_ =>
  tInt .i64 v fun v1 =>
  retG (.int .i64 v1) h_ Ψ

def s102_A (Ψ : AVal → Heap → Prop) : Ann :=
  .seq (rA 1)
  (.seq (.cond (.seq (rA 4)
  (.leaf))
  (.leaf))
  (.seq (rA 3)
  (.leaf)))

theorem s102_ok {Ψ : AVal → Heap → Prop} {x : Int} {h : Heap} (H : s102 Ψ x h) : ACalls prog 102 [(.int .u64 x)] h Ψ :=
  calls_of_evF func102 (by kernel_rfl) (by kernel_rfl) (by kernel_rfl)
    (Eq.mpr (by as_aux_lemma => kernel_rfl : oblF prog f102 (s102_A Ψ) Ψ = (True ∧ ((True ∧ True) ∧ True) ∧ True ∧ True)) ⟨trivial, ⟨⟨⟨trivial, trivial⟩, trivial⟩, ⟨trivial, trivial⟩⟩⟩)
    (Eq.mpr (by as_aux_lemma => kernel_rfl : evF prog f102 (s102_A Ψ) Ψ [(.int .u64 x)] h = s102 Ψ x h) H)

/- 105 dictum/dictumref06.two -/
def s105 (Ψ : AVal → Heap → Prop) (n_Kind : Int) (n_Name : ByteArray) (n_L : Int) (n_R : Int) (h : Heap) : Prop :=
  ifT (n_Kind != 1) (
    retG (.bool (n_Kind != 2)) h Ψ) (
    retG (.bool false) h Ψ)

def s105_A (Ψ : AVal → Heap → Prop) : Ann :=
  .seq (.reg [⟨none, [(0, true), (1, false)]⟩])
  (.seq (.reg [⟨none, [(0, false), (1, false), (2, false), (3, false)]⟩, ⟨some (6, true), [(4, false), (5, false), (6, false)]⟩, ⟨none, [(7, false), (8, false)]⟩])
  (.leaf))

theorem s105_ok {Ψ : AVal → Heap → Prop} {n_Kind : Int} {n_Name : ByteArray} {n_L : Int} {n_R : Int} {h : Heap} (H : s105 Ψ n_Kind n_Name n_L n_R h) : ACalls prog 105 [(.agg [(.int .i64 n_Kind), (.str n_Name), (.int .i64 n_L), (.int .i64 n_R)])] h Ψ :=
  calls_of_evF func105 (by kernel_rfl) (by kernel_rfl) (by kernel_rfl)
    (Eq.mpr (by as_aux_lemma => kernel_rfl : oblF prog f105 (s105_A Ψ) Ψ = (True ∧ True ∧ True)) ⟨trivial, ⟨trivial, trivial⟩⟩)
    (Eq.mpr (by as_aux_lemma => kernel_rfl : evF prog f105 (s105_A Ψ) Ψ [(.agg [(.int .i64 n_Kind), (.str n_Name), (.int .i64 n_L), (.int .i64 n_R)])] h = s105 Ψ n_Kind n_Name n_L n_R h) H)

/- 110 (*dictum/dictumref03.T).Find -/
abbrev s110l1_T := AVal → AVal → Int → Heap → Prop
def s110l1_R (F : s110l1_T) (l : List AVal) (h : Heap) : Prop := J.cons l fun x0 l => J.cons l fun x1 l => J.cons l fun v l => J.int .i64 v fun x2 => J.nil l (F x0 x1 x2 h)
def s110l1_G (F : s110l1_T) (x0 x1 : AVal) (x2 : Int) (h : Heap) : Prop := gJ [.any, .any, .int .i64] [x0, x1, (.int .i64 x2)] h (s110l1_R F)
def s110l1_E (F : Nat → s110l1_T) (x0 x1 : AVal) (x2 : Int) (h : Heap) : Prop := gJ [.any, .any, .int .i64] [x0, x1, (.int .i64 x2)] h (fun l h => ∃ n, s110l1_R (F n) l h)
theorem s110l1_go {F : s110l1_T} {x0 x1 : AVal} {x2 : Int} {h : Heap} (H : F x0 x1 x2 h) : s110l1_G F x0 x1 x2 h := gJ_plain rfl H
theorem s110l1_in {F : Nat → s110l1_T} {x0 x1 : AVal} {x2 : Int} {h : Heap} (n : Nat) (H : F n x0 x1 x2 h) : s110l1_E F x0 x1 x2 h := gJ_plain rfl ⟨n, H⟩

def s110l1 (Ψ : AVal → Heap → Prop) : Nat → s110l1_T
  | 0, _, _, _, _ => False
  | n1 + 1, t1, n, i, h =>
    nilCheckA t1 fun p =>
    addOff p 0 fun p1 =>
    ld1 h p1 fun v =>
    lenN v fun n2 =>
    ifT (decide (i < n2)) (
      nilCheckA t1 fun p2 =>
      addOff p2 0 fun p3 =>
      ld1 h p3 fun v1 =>
      ixS 4 v1 i fun p4 =>
      ldN 4 h p4 fun l_ =>
      tCons l_ fun v2 l_1 =>
      tInt .i64 v2 fun v3 =>
      tCons l_1 fun v4 l_2 =>
      tStr v4 fun v5 =>
      tCons l_2 fun v6 l_3 =>
      tInt .i64 v6 fun v7 =>
      tCons l_3 fun v8 l_4 =>
      tInt .i64 v8 fun v9 =>
      tNil l_4 (
        ldN 4 h n fun l_5 =>
        tCons l_5 fun v10 l_6 =>
        tInt .i64 v10 fun v11 =>
        tCons l_6 fun v12 l_7 =>
        tStr v12 fun v13 =>
        tCons l_7 fun v14 l_8 =>
        tInt .i64 v14 fun v15 =>
        tCons l_8 fun v16 l_9 =>
        tInt .i64 v16 fun v17 =>
        tNil l_9 (
          eqQ prog 54 (.agg [(.int .i64 v3), (.str v5), (.int .i64 v7), (.int .i64 v9)]) (.agg [(.int .i64 v11), (.str v13), (.int .i64 v15), (.int .i64 v17)]) fun b =>
          ifT b (
            retG (.tuple [(.int .i64 i), (.bool true)]) h Ψ) (
            rg (i + 1) (
              s110l1_G (s110l1 Ψ n1) t1 n (i + 1) h))))) (
      retG (.tuple [(.int .i64 0), (.bool false)]) h Ψ)

def s110 (Ψ : AVal → Heap → Prop) (t : AVal) (n_Kind : Int) (n_Name : ByteArray) (n_L : Int) (n_R : Int) (h : Heap) : Prop :=
  s110l1_E (s110l1 Ψ) t (.lptr [(.int .i64 n_Kind), (.str n_Name), (.int .i64 n_L), (.int .i64 n_R)]) 0 h

def s110_A (Ψ : AVal → Heap → Prop) : Ann :=
  .seq (.reg [⟨none, [(0, true), (1, false), (2, false)]⟩])
  (.seq (.seq (rA 1)
  (.block (.loop [(0, .any), (3, .any), (6, .int .i64)] (fun n l h => s110l1_R (s110l1 Ψ n) l h) (fun L1 =>
  .seq (.seq (rA 7)
  (.cond (.leaf)
  (.leaf)))
  (.seq (.block (.seq (.draw [(0, false), (1, false), (2, false), (3, false), (4, false), (5, false), (6, false), (7, false), (8, false)] [0, 1, 3, 7, 0, 31, 63, 0, 255])
  (.cond (.seq (rA 3)
  (.leaf))
  (.leaf))))
  (rA 3))))))
  (.seq (rA 2)
  (.leaf)))

theorem s110_ok {Ψ : AVal → Heap → Prop} {t : AVal} {n_Kind : Int} {n_Name : ByteArray} {n_L : Int} {n_R : Int} {h : Heap} (H : s110 Ψ t n_Kind n_Name n_L n_R h) : ACalls prog 110 [t, (.agg [(.int .i64 n_Kind), (.str n_Name), (.int .i64 n_L), (.int .i64 n_R)])] h Ψ :=
  calls_of_evF func110 (by kernel_rfl) (by kernel_rfl) (by kernel_rfl)
    (Eq.mpr (by as_aux_lemma => kernel_rfl : oblF prog f110 (s110_A Ψ) Ψ = (True ∧ (True ∧ (∀ (h : Heap) (x0 x1 : AVal) (x2 : Int), ON (s110l1 Ψ 0 x0 x1 x2 h)) ∧ ∀ n1 : Nat, (∀ (h : Heap) (x0 x1 : AVal) (x2 : Int), OI (s110l1 Ψ (n1 + 1) x0 x1 x2 h)) ∧ ((True ∧ True ∧ True) ∧ (True ∧ (True ∧ True) ∧ True) ∧ True)) ∧ True ∧ True)) ⟨trivial, ⟨⟨trivial, ⟨fun _ _ _ _ H => H, fun _ => ⟨fun _ _ _ _ H => H, ⟨⟨trivial, ⟨trivial, trivial⟩⟩, ⟨⟨trivial, ⟨⟨trivial, trivial⟩, trivial⟩⟩, trivial⟩⟩⟩⟩⟩, ⟨trivial, trivial⟩⟩⟩)
    (Eq.mpr (by as_aux_lemma => kernel_rfl : evF prog f110 (s110_A Ψ) Ψ [t, (.agg [(.int .i64 n_Kind), (.str n_Name), (.int .i64 n_L), (.int .i64 n_R)])] h = s110 Ψ t n_Kind n_Name n_L n_R h) H)

/- 112 slices.insertionSortOrdered[string] -/
abbrev s112l1_T := AVal → Int → Int → Int → Heap → Prop
def s112l1_R (F : s112l1_T) (l : List AVal) (h : Heap) : Prop := J.cons l fun x0 l => J.cons l fun v l => J.int .i64 v fun x1 => J.cons l fun v l => J.int .i64 v fun x2 => J.cons l fun v l => J.int .i64 v fun x3 => J.nil l (F x0 x1 x2 x3 h)
def s112l1_G (F : s112l1_T) (x0 : AVal) (x1 x2 x3 : Int) (h : Heap) : Prop := gJ [.any, .int .i64, .int .i64, .int .i64] [x0, (.int .i64 x1), (.int .i64 x2), (.int .i64 x3)] h (s112l1_R F)
def s112l1_E (F : Nat → s112l1_T) (x0 : AVal) (x1 x2 x3 : Int) (h : Heap) : Prop := gJ [.any, .int .i64, .int .i64, .int .i64] [x0, (.int .i64 x1), (.int .i64 x2), (.int .i64 x3)] h (fun l h => ∃ n, s112l1_R (F n) l h)
theorem s112l1_go {F : s112l1_T} {x0 : AVal} {x1 x2 x3 : Int} {h : Heap} (H : F x0 x1 x2 x3 h) : s112l1_G F x0 x1 x2 x3 h := gJ_plain rfl H
theorem s112l1_in {F : Nat → s112l1_T} {x0 : AVal} {x1 x2 x3 : Int} {h : Heap} (n : Nat) (H : F n x0 x1 x2 x3 h) : s112l1_E F x0 x1 x2 x3 h := gJ_plain rfl ⟨n, H⟩

abbrev s112l2_T := AVal → Int → Int → Int → Int → Heap → Prop
def s112l2_R (F : s112l2_T) (l : List AVal) (h : Heap) : Prop := J.cons l fun x0 l => J.cons l fun v l => J.int .i64 v fun x1 => J.cons l fun v l => J.int .i64 v fun x2 => J.cons l fun v l => J.int .i64 v fun x3 => J.cons l fun v l => J.int .i64 v fun x4 => J.nil l (F x0 x1 x2 x3 x4 h)
def s112l2_G (F : s112l2_T) (x0 : AVal) (x1 x2 x3 x4 : Int) (h : Heap) : Prop := gJ [.any, .int .i64, .int .i64, .int .i64, .int .i64] [x0, (.int .i64 x1), (.int .i64 x2), (.int .i64 x3), (.int .i64 x4)] h (s112l2_R F)
def s112l2_E (F : Nat → s112l2_T) (x0 : AVal) (x1 x2 x3 x4 : Int) (h : Heap) : Prop := gJ [.any, .int .i64, .int .i64, .int .i64, .int .i64] [x0, (.int .i64 x1), (.int .i64 x2), (.int .i64 x3), (.int .i64 x4)] h (fun l h => ∃ n, s112l2_R (F n) l h)
theorem s112l2_go {F : s112l2_T} {x0 : AVal} {x1 x2 x3 x4 : Int} {h : Heap} (H : F x0 x1 x2 x3 x4 h) : s112l2_G F x0 x1 x2 x3 x4 h := gJ_plain rfl H
theorem s112l2_in {F : Nat → s112l2_T} {x0 : AVal} {x1 x2 x3 x4 : Int} {h : Heap} (n : Nat) (H : F n x0 x1 x2 x3 x4 h) : s112l2_E F x0 x1 x2 x3 x4 h := gJ_plain rfl ⟨n, H⟩

def s112c3 (Ψ : AVal → Heap → Prop) (L1 : s112l1_T) (L2 : s112l2_T) (data3 : AVal) (a3 b3 i2 j1 : Int) (t30 : Bool) (h : Heap) : Prop :=
  ifT t30 (
    rg (j1 - 1) (
      rg (j1 - 1) (
        ixS 1 data3 (j1 - 1) fun p =>
        ld1 h p fun v =>
        tStr v fun v1 =>
        ixS 1 data3 j1 fun p1 =>
        ld1 h p1 fun v2 =>
        tStr v2 fun v3 =>
        ixS 1 data3 j1 fun p2 =>
        st true h p2 [(.str v1)] fun h_ =>
        ixS 1 data3 (j1 - 1) fun p3 =>
        st true h_ p3 [(.str v3)] fun h_1 =>
        rg (j1 - 1) (
          L2 data3 a3 b3 i2 (j1 - 1) h_1)))) (
    rg (i2 + 1) (
      L1 data3 a3 b3 (i2 + 1) h))

def s112l2 (Ψ : AVal → Heap → Prop) (L1 : s112l1_T) : Nat → s112l2_T
  | 0, _, _, _, _, _, _ => False
  | n1 + 1, data2, a2, b2, i1, j, h =>
    ifT (decide (a2 < j)) (
      ixS 1 data2 j fun p4 =>
      ld1 h p4 fun v4 =>
      tStr v4 fun v5 =>
      rg (j - 1) (
        ixS 1 data2 (j - 1) fun p5 =>
        ld1 h p5 fun v6 =>
        tStr v6 fun v7 =>
        callG prog 118 [(.str v5), (.str v7)] h fun v8 h_2 =>
        tBool v8 fun v9 =>
        s112c3 Ψ L1 (s112l2_G (s112l2 Ψ L1 n1)) data2 a2 b2 i1 j v9 h_2)) (
      s112c3 Ψ L1 (s112l2_G (s112l2 Ψ L1 n1)) data2 a2 b2 i1 j false h)

def s112l1 (Ψ : AVal → Heap → Prop) : Nat → s112l1_T
  | 0, _, _, _, _, _ => False
  | n + 1, data1, a1, b1, i, h =>
    ifT (decide (i < b1)) (
      s112l2_E (s112l2 Ψ (s112l1_G (s112l1 Ψ n))) data1 a1 b1 i i h) (
      retG (.tuple []) h Ψ)

def s112 (Ψ : AVal → Heap → Prop) (data : AVal) (a : Int) (b : Int) (h : Heap) : Prop :=
  rg (a + 1) (
    s112l1_E (s112l1 Ψ) data a b (a + 1) h)

def s112_A (Ψ : AVal → Heap → Prop) : Ann :=
  .seq (rA 3)
  (.block (.loop [(0, .any), (1, .int .i64), (2, .int .i64), (6, .int .i64)] (fun n l h => s112l1_R (s112l1 Ψ n) l h) (fun L1 =>
  .seq (.seq (rA 3)
  (.cond (.leaf)
  (.leaf)))
  (.seq (.block (.seq (rA 2)
  (.block (.loop [(0, .any), (1, .int .i64), (2, .int .i64), (6, .int .i64), (7, .int .i64)] (fun n l h => s112l2_R (s112l2 Ψ (fun y0 y1 y2 y3 h => L1 [y0, (.int .i64 y1), (.int .i64 y2), (.int .i64 y3)] h) n) l h) (fun L2 =>
  .seq (.cut [(0, .any), (1, .int .i64), (2, .int .i64), (6, .int .i64), (7, .int .i64), (30, .bool)] (fun l h => J.cons l fun x0 l => J.cons l fun v l => J.int .i64 v fun x1 => J.cons l fun v l => J.int .i64 v fun x2 => J.cons l fun v l => J.int .i64 v fun x3 => J.cons l fun v l => J.int .i64 v fun x4 => J.cons l fun v l => J.bool v fun x5 => J.nil l (s112c3 Ψ (fun y0 y1 y2 y3 h => L1 [y0, (.int .i64 y1), (.int .i64 y2), (.int .i64 y3)] h) (fun y0 y1 y2 y3 y4 h => L2 [y0, (.int .i64 y1), (.int .i64 y2), (.int .i64 y3), (.int .i64 y4)] h) x0 x1 x2 x3 x4 x5 h)) (.draw [(0, false), (1, false), (2, false), (3, false), (4, false), (5, false), (6, false), (7, false), (8, false), (9, false), (10, false), (11, false), (12, false), (13, false), (14, false)] [0, 0, 3, 7, 15, 15, 63, 127, 15, 15, 527, 1807, 3855, 8191, 16383])
  (.cond (.leaf)
  (.leaf)))
  (.seq (.block (.draw [(0, false), (1, false), (2, false), (3, false), (4, false), (5, false), (6, false), (7, false), (8, false), (9, false), (10, false), (11, false), (12, false), (13, false), (14, false), (15, false), (16, false), (17, false)] [0, 0, 0, 0, 8, 0, 0, 64, 224, 480, 0, 0, 3072, 7168, 16355, 32739, 65535, 131071]))
  (rA 3)))))))
  (rA 3)))))

theorem s112_ok {Ψ : AVal → Heap → Prop} {data : AVal} {a : Int} {b : Int} {h : Heap} (H : s112 Ψ data a b h) : ACalls prog 112 [data, (.int .i64 a), (.int .i64 b)] h Ψ :=
  calls_of_evF func112 (by kernel_rfl) (by kernel_rfl) (by kernel_rfl)
    (Eq.mpr (by as_aux_lemma => kernel_rfl : oblF prog f112 (s112_A Ψ) Ψ = (True ∧ (∀ (h : Heap) (x0 : AVal) (x1 x2 x3 : Int), ON (s112l1 Ψ 0 x0 x1 x2 x3 h)) ∧ ∀ n1 : Nat, (∀ (h : Heap) (x0 : AVal) (x1 x2 x3 : Int), OI (s112l1 Ψ (n1 + 1) x0 x1 x2 x3 h)) ∧ ((True ∧ True ∧ True) ∧ (True ∧ (∀ (h : Heap) (x0 : AVal) (x1 x2 x3 x4 : Int), ON (s112l2 Ψ (s112l1_G (s112l1 Ψ n1)) 0 x0 x1 x2 x3 x4 h)) ∧ ∀ n2 : Nat, (∀ (h : Heap) (x0 : AVal) (x1 x2 x3 x4 : Int), OI (s112l2 Ψ (s112l1_G (s112l1 Ψ n1)) (n2 + 1) x0 x1 x2 x3 x4 h)) ∧ (((True) ∧ (∀ (h : Heap) (x0 : AVal) (x1 x2 x3 x4 : Int) (x5 : Bool), OI (s112c3 Ψ (s112l1_G (s112l1 Ψ n1)) (s112l2_G (s112l2 Ψ (s112l1_G (s112l1 Ψ n1)) n2)) x0 x1 x2 x3 x4 x5 h)) ∧ (True ∧ True)) ∧ True ∧ True)) ∧ True))) ⟨trivial, ⟨fun _ _ _ _ _ H => H, fun _ => ⟨fun _ _ _ _ _ H => H, ⟨⟨trivial, ⟨trivial, trivial⟩⟩, ⟨⟨trivial, ⟨fun _ _ _ _ _ _ H => H, fun _ => ⟨fun _ _ _ _ _ _ H => H, ⟨⟨trivial, fun _ _ _ _ _ _ _ H => H, ⟨trivial, trivial⟩⟩, ⟨trivial, trivial⟩⟩⟩⟩⟩, trivial⟩⟩⟩⟩⟩)
    (Eq.mpr (by as_aux_lemma => kernel_rfl : evF prog f112 (s112_A Ψ) Ψ [data, (.int .i64 a), (.int .i64 b)] h = s112 Ψ data a b h) H)

/- 132 slices.Max[[]int,int] -/
abbrev s132l2_T := AVal → Int → Int → Heap → Prop
def s132l2_R (F : s132l2_T) (l : List AVal) (h : Heap) : Prop := J.cons l fun x0 l => J.cons l fun v l => J.int .i64 v fun x1 => J.cons l fun v l => J.int .i64 v fun x2 => J.nil l (F x0 x1 x2 h)
def s132l2_G (F : s132l2_T) (x0 : AVal) (x1 x2 : Int) (h : Heap) : Prop := gJ [.any, .int .i64, .int .i64] [x0, (.int .i64 x1), (.int .i64 x2)] h (s132l2_R F)
def s132l2_E (F : Nat → s132l2_T) (x0 : AVal) (x1 x2 : Int) (h : Heap) : Prop := gJ [.any, .int .i64, .int .i64] [x0, (.int .i64 x1), (.int .i64 x2)] h (fun l h => ∃ n, s132l2_R (F n) l h)
theorem s132l2_go {F : s132l2_T} {x0 : AVal} {x1 x2 : Int} {h : Heap} (H : F x0 x1 x2 h) : s132l2_G F x0 x1 x2 h := gJ_plain rfl H
theorem s132l2_in {F : Nat → s132l2_T} {x0 : AVal} {x1 x2 : Int} {h : Heap} (n : Nat) (H : F n x0 x1 x2 h) : s132l2_E F x0 x1 x2 h := gJ_plain rfl ⟨n, H⟩

def s132l2 (Ψ : AVal → Heap → Prop) : Nat → s132l2_T
  | 0, _, _, _, _ => False
  | n + 1, x2, m, i, h =>
    lenN x2 fun n1 =>
    ifT (decide (i < n1)) (
      ixS 1 x2 i fun p1 =>
      ld1 h p1 fun v2 =>
      tInt .i64 v2 fun v3 =>
      rg (i + 1) (
        s132l2_G (s132l2 Ψ n) x2 (max m v3) (i + 1) h)) (
      retG (.int .i64 m) h Ψ)

def s132c1 (Ψ : AVal → Heap → Prop) (x1 : AVal) (h : Heap) : Prop :=
  ixS 1 x1 0 fun p =>
  ld1 h p fun v =>
  tInt .i64 v fun v1 =>
  s132l2_E (s132l2 Ψ) x1 v1 1 h

def s132 (Ψ : AVal → Heap → Prop) (x : AVal) (h : Heap) : Prop :=
  lenN x fun n3 =>
  ifT (decide (n3 < 1)) (
    False) (
    s132c1 Ψ x h)

def s132_A (Ψ : AVal → Heap → Prop) : Ann :=
  .seq (rA 1)
  (.cut [(0, .any)] (fun l h => J.cons l fun x0 l => J.nil l (s132c1 Ψ x0 h)) (.seq (rA 3)
  (.cond (rA 2)
  (.leaf)))
  (.seq (rA 4)
  (.seq (.seq (rA 1)
  (.block (.loop [(0, .any), (3, .int .i64), (4, .int .i64)] (fun n l h => s132l2_R (s132l2 Ψ n) l h) (fun L2 =>
  .seq (.seq (rA 4)
  (.cond (.leaf)
  (.leaf)))
  (.seq (.block (rA 7))
  (rA 3))))))
  (.seq (rA 2)
  (.leaf)))))

theorem s132_ok {Ψ : AVal → Heap → Prop} {x : AVal} {h : Heap} (H : s132 Ψ x h) : ACalls prog 132 [x] h Ψ :=
  calls_of_evF func132 (by kernel_rfl) (by kernel_rfl) (by kernel_rfl)
    (Eq.mpr (by as_aux_lemma => kernel_rfl : oblF prog f132 (s132_A Ψ) Ψ = (True ∧ (True ∧ True ∧ True) ∧ (∀ (h : Heap) (x0 : AVal), OI (s132c1 Ψ x0 h)) ∧ (True ∧ (True ∧ (∀ (h : Heap) (x0 : AVal) (x1 x2 : Int), ON (s132l2 Ψ 0 x0 x1 x2 h)) ∧ ∀ n2 : Nat, (∀ (h : Heap) (x0 : AVal) (x1 x2 : Int), OI (s132l2 Ψ (n2 + 1) x0 x1 x2 h)) ∧ ((True ∧ True ∧ True) ∧ True ∧ True)) ∧ True ∧ True))) ⟨trivial, ⟨⟨trivial, ⟨trivial, trivial⟩⟩, fun _ _ H => H, ⟨trivial, ⟨⟨trivial, ⟨fun _ _ _ _ H => H, fun _ => ⟨fun _ _ _ _ H => H, ⟨⟨trivial, ⟨trivial, trivial⟩⟩, ⟨trivial, trivial⟩⟩⟩⟩⟩, ⟨trivial, trivial⟩⟩⟩⟩⟩)
    (Eq.mpr (by as_aux_lemma => kernel_rfl : evF prog f132 (s132_A Ψ) Ψ [x] h = s132 Ψ x h) H)

end Go.Proofs.YtobpfhmjdoekfaaGreat

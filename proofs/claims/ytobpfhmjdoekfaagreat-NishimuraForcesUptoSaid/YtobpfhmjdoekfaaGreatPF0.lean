/- The functions that the proof meets, each as a text that Lean has checked against the program. No condition. -/
import Derived.Test.YtobpfhmjdoekfaaGreatM3
import Derived.Test.YtobpfhmjdoekfaaGreatChecked
namespace Go.Proofs.YtobpfhmjdoekfaaGreat
open Go Go.Sym Go.Proofs.Tryz
set_option maxRecDepth 100000
set_option linter.unusedVariables false

/- 3 dictum/dictumlaw26.NishimuraLadder -/
def s3 (Ψ : AVal → Heap → Prop) (rows : AVal) (atom : ByteArray) (k : Int) (h : Heap) : Prop :=
  callG prog 6 [rows] h fun v h_ =>
  tTup v fun l_ =>
  tCons l_ fun v1 l_1 =>
  tCons l_1 fun v2 l_2 =>
  tNil l_2 (
    callG prog 7 [v1, (.str atom), (.int .i64 k)] h_ fun v3 h_1 =>
    tTup v3 fun l_3 =>
    tCons l_3 fun v4 l_4 =>
    tInt .i64 v4 fun v5 =>
    tCons l_4 fun v6 l_5 =>
    tInt .i64 v6 fun v7 =>
    tNil l_5 (
      callG prog 8 [v2, (.str atom), (.int .i64 k)] h_1 fun v8 h_2 =>
      tTup v8 fun l_6 =>
      tCons l_6 fun v9 l_7 =>
      tInt .i64 v9 fun v10 =>
      tCons l_7 fun v11 l_8 =>
      tInt .i64 v11 fun v12 =>
      tNil l_8 (
        ifT (v5 == v10) (
          callG prog 9 [(.int .i64 v7)] h_2 fun v13 h_3 =>
          tInt .i64 v13 fun v14 =>
          ifT (v14 == v12) (
            callG prog 10 [v1, v2] h_3 fun v15 h_4 =>
            tBool v15 fun v16 =>
            ifT v16 (
              callG prog 11 [] h_4 fun v17 h_5 =>
              tBool v17 fun v18 =>
              retG (.bool v18) h_5 Ψ) (
              retG (.bool false) h_4 Ψ)) (
            retG (.bool false) h_3 Ψ)) (
          retG (.bool false) h_2 Ψ))))

def s3_A (Ψ : AVal → Heap → Prop) : Ann :=
  .seq (rA 1)
  (.seq (rA 7)
  (.seq (rA 9)
  (.seq (rA 9)
  (.seq (.reg [⟨none, [(0, false), (1, false), (2, false), (3, false)]⟩, ⟨some (35, true), [(4, false), (5, false), (6, false), (7, false)]⟩, ⟨none, [(8, false), (9, false)]⟩, ⟨some (41, true), [(10, false), (11, false), (12, false)]⟩, ⟨none, [(13, false), (14, false)]⟩, ⟨some (46, true), [(15, false)]⟩, ⟨none, [(16, false), (17, false)]⟩])
  (.leaf)))))

theorem s3_ok {Ψ : AVal → Heap → Prop} {rows : AVal} {atom : ByteArray} {k : Int} {h : Heap} (H : s3 Ψ rows atom k h) : ACalls prog 3 [rows, (.str atom), (.int .i64 k)] h Ψ :=
  calls_of_evF func3 (by kernel_rfl) (by kernel_rfl) (by kernel_rfl)
    (Eq.mpr (by as_aux_lemma => kernel_rfl : oblF prog f3 (s3_A Ψ) Ψ = (True ∧ True ∧ True ∧ True ∧ True ∧ True)) ⟨trivial, ⟨trivial, ⟨trivial, ⟨trivial, ⟨trivial, trivial⟩⟩⟩⟩⟩)
    (Eq.mpr (by as_aux_lemma => kernel_rfl : evF prog f3 (s3_A Ψ) Ψ [rows, (.str atom), (.int .i64 k)] h = s3 Ψ rows atom k h) H)

/- 6 dictum/dictumlaw04.Tables -/
def s6 (Ψ : AVal → Heap → Prop) (rows : AVal) (h : Heap) : Prop :=
  callG prog 21 [rows] h fun v h_ =>
  tTup v fun l_ =>
  tCons l_ fun v1 l_1 =>
  tCons l_1 fun v2 l_2 =>
  tCons l_2 fun v3 l_3 =>
  tBool v3 fun v4 =>
  tNil l_3 (
    ifT (!v4) (
      callG prog 22 [] h_ fun v5 h_1 =>
      Sym.newRow 1 [(.agg [.nilsl])] h_1 fun r h_2 =>
      retG (.tuple [v5, (.ptr r 0 0)]) h_2 Ψ) (
      retG (.tuple [v1, v2]) h_ Ψ))

def s6_A (Ψ : AVal → Heap → Prop) : Ann :=
  .seq (rA 2)
  (.seq (rA 9)
  (.seq (.seq (rA 2)
  (.cond (.seq (rA 5)
  (.leaf))
  (.leaf)))
  (.seq (rA 4)
  (.leaf))))

theorem s6_ok {Ψ : AVal → Heap → Prop} {rows : AVal} {h : Heap} (H : s6 Ψ rows h) : ACalls prog 6 [rows] h Ψ :=
  calls_of_evF func6 (by kernel_rfl) (by kernel_rfl) (by kernel_rfl)
    (Eq.mpr (by as_aux_lemma => kernel_rfl : oblF prog f6 (s6_A Ψ) Ψ = (True ∧ True ∧ (True ∧ (True ∧ True) ∧ True) ∧ True ∧ True)) ⟨trivial, ⟨trivial, ⟨⟨trivial, ⟨⟨trivial, trivial⟩, trivial⟩⟩, ⟨trivial, trivial⟩⟩⟩⟩)
    (Eq.mpr (by as_aux_lemma => kernel_rfl : evF prog f6 (s6_A Ψ) Ψ [rows] h = s6 Ψ rows h) H)

/- 8 dictum/dictumref26.Ladder -/
def s8 (Ψ : AVal → Heap → Prop) (t : AVal) (atom : ByteArray) (k : Int) (h : Heap) : Prop :=
  callG prog 28 [(.str atom)] h fun v h_ =>
  tBool v fun v1 =>
  ifT (!v1) (
    retG (.tuple [(.int .i64 0), (.int .i64 32)]) h_ Ψ) (
    callG prog 29 [(.int .i64 k)] h_ fun v2 h_1 =>
    tBool v2 fun v3 =>
    ifT (!v3) (
      retG (.tuple [(.int .i64 0), (.int .i64 2)]) h_1 Ψ) (
      nilCheckA t fun p =>
      addOff p 0 fun p1 =>
      ld1 h_1 p1 fun v4 =>
      lenN v4 fun n =>
      callG prog 30 [t, (.str atom), (.int .i64 k)] h_1 fun v5 h_2 =>
      tTup v5 fun l_ =>
      tCons l_ fun v6 l_1 =>
      tInt .i64 v6 fun v7 =>
      tCons l_1 fun v8 l_2 =>
      tInt .i64 v8 fun v9 =>
      tNil l_2 (
        ifT (v9 != 0) (
          callG prog 31 [t, (.int .i64 n)] h_2 fun v10 h_3 =>
          tInt .i64 v10 fun v11 =>
          retG (.tuple [(.int .i64 0), (.int .i64 30)]) h_3 Ψ) (
          retG (.tuple [(.int .i64 v7), (.int .i64 0)]) h_2 Ψ))))

def s8_A (Ψ : AVal → Heap → Prop) : Ann :=
  .seq (rA 2)
  (.seq (.seq (rA 3)
  (.cond (.seq (rA 2)
  (.leaf))
  (.leaf)))
  (.seq (.seq (rA 3)
  (.cond (.seq (rA 2)
  (.leaf))
  (.leaf)))
  (.seq (rA 6)
  (.seq (rA 9)
  (.seq (.seq (rA 2)
  (.cond (.seq (rA 3)
  (.seq (rA 2)
  (.leaf)))
  (.leaf)))
  (.seq (rA 3)
  (.leaf)))))))

theorem s8_ok {Ψ : AVal → Heap → Prop} {t : AVal} {atom : ByteArray} {k : Int} {h : Heap} (H : s8 Ψ t atom k h) : ACalls prog 8 [t, (.str atom), (.int .i64 k)] h Ψ :=
  calls_of_evF func8 (by kernel_rfl) (by kernel_rfl) (by kernel_rfl)
    (Eq.mpr (by as_aux_lemma => kernel_rfl : oblF prog f8 (s8_A Ψ) Ψ = (True ∧ (True ∧ (True ∧ True) ∧ True) ∧ (True ∧ (True ∧ True) ∧ True) ∧ True ∧ True ∧ (True ∧ (True ∧ True ∧ True) ∧ True) ∧ True ∧ True)) ⟨trivial, ⟨⟨trivial, ⟨⟨trivial, trivial⟩, trivial⟩⟩, ⟨⟨trivial, ⟨⟨trivial, trivial⟩, trivial⟩⟩, ⟨trivial, ⟨trivial, ⟨⟨trivial, ⟨⟨trivial, ⟨trivial, trivial⟩⟩, trivial⟩⟩, ⟨trivial, trivial⟩⟩⟩⟩⟩⟩⟩)
    (Eq.mpr (by as_aux_lemma => kernel_rfl : evF prog f8 (s8_A Ψ) Ψ [t, (.str atom), (.int .i64 k)] h = s8 Ψ t atom k h) H)

/- 10 dictum/dictumlaw04.Same -/
def s10 (Ψ : AVal → Heap → Prop) (t : AVal) (r : AVal) (h : Heap) : Prop :=
  callG prog 32 [t, r] h fun v h_ =>
  tBool v fun v1 =>
  retG (.bool v1) h_ Ψ

def s10_A (Ψ : AVal → Heap → Prop) : Ann :=
  .seq (rA 1)
  (.seq (rA 4)
  (.leaf))

theorem s10_ok {Ψ : AVal → Heap → Prop} {t : AVal} {r : AVal} {h : Heap} (H : s10 Ψ t r h) : ACalls prog 10 [t, r] h Ψ :=
  calls_of_evF func10 (by kernel_rfl) (by kernel_rfl) (by kernel_rfl)
    (Eq.mpr (by as_aux_lemma => kernel_rfl : oblF prog f10 (s10_A Ψ) Ψ = (True ∧ True ∧ True)) ⟨trivial, ⟨trivial, trivial⟩⟩)
    (Eq.mpr (by as_aux_lemma => kernel_rfl : evF prog f10 (s10_A Ψ) Ψ [t, r] h = s10 Ψ t r h) H)

/- 14 dictum/nishimura.Equal -/
def s14c1 (Ψ : AVal → Heap → Prop) (t1 : AVal) (a1 b1 x y : Int) (t43 : Bool) (h : Heap) : Prop :=
  ifT t43 (
    retG (.tuple [(.bool (x == y)), (.int .i64 0)]) h Ψ) (
    callG prog 39 [t1, (.int .i64 a1)] h fun v10 h_2 =>
    tTup v10 fun l_6 =>
    tCons l_6 fun v11 l_7 =>
    tCons l_7 fun v12 l_8 =>
    tInt .i64 v12 fun v13 =>
    tNil l_8 (
      callG prog 39 [t1, (.int .i64 b1)] h_2 fun v14 h_3 =>
      tTup v14 fun l_9 =>
      tCons l_9 fun v15 l_10 =>
      tCons l_10 fun v16 l_11 =>
      tInt .i64 v16 fun v17 =>
      tNil l_11 (
        callG prog 49 [v11, v15] h_3 fun v18 h_4 =>
        tBool v18 fun v19 =>
        retG (.tuple [(.bool v19), (.int .i64 0)]) h_4 Ψ)))

def s14 (Ψ : AVal → Heap → Prop) (t : AVal) (a : Int) (b : Int) (h : Heap) : Prop :=
  callG prog 12 [t, (.int .i64 a)] h fun v h_ =>
  tTup v fun l_ =>
  tCons l_ fun v1 l_1 =>
  tInt .i64 v1 fun v2 =>
  tCons l_1 fun v3 l_2 =>
  tInt .i64 v3 fun v4 =>
  tNil l_2 (
    ifT (v4 != 0) (
      retG (.tuple [(.bool false), (.int .i64 v4)]) h_ Ψ) (
      callG prog 12 [t, (.int .i64 b)] h_ fun v5 h_1 =>
      tTup v5 fun l_3 =>
      tCons l_3 fun v6 l_4 =>
      tInt .i64 v6 fun v7 =>
      tCons l_4 fun v8 l_5 =>
      tInt .i64 v8 fun v9 =>
      tNil l_5 (
        ifT (v9 != 0) (
          retG (.tuple [(.bool false), (.int .i64 v9)]) h_1 Ψ) (
          ifT (v2 != v7) (
            s14c1 Ψ t a b v2 v7 true h_1) (
            ifT (v2 == 0) (
              s14c1 Ψ t a b v2 v7 true h_1) (
              s14c1 Ψ t a b v2 v7 (v2 == (-1)) h_1))))))

def s14_A (Ψ : AVal → Heap → Prop) : Ann :=
  .seq (rA 2)
  (.seq (rA 8)
  (.seq (.seq (rA 2)
  (.cond (.seq (rA 3)
  (.leaf))
  (.leaf)))
  (.seq (rA 8)
  (.seq (.seq (rA 2)
  (.cond (.seq (rA 3)
  (.leaf))
  (.leaf)))
  (.seq (.cut [(0, .any), (1, .int .i64), (2, .int .i64), (8, .int .i64), (10, .int .i64), (43, .bool)] (fun l h => J.cons l fun x0 l => J.cons l fun v l => J.int .i64 v fun x1 => J.cons l fun v l => J.int .i64 v fun x2 => J.cons l fun v l => J.int .i64 v fun x3 => J.cons l fun v l => J.int .i64 v fun x4 => J.cons l fun v l => J.bool v fun x5 => J.nil l (s14c1 Ψ x0 x1 x2 x3 x4 x5 h)) (.reg [⟨none, [(0, false), (1, false), (2, false), (3, false)]⟩, ⟨some (36, false), [(4, false), (5, false)]⟩, ⟨none, [(6, false), (7, false)]⟩, ⟨some (40, false), [(8, false), (9, false)]⟩, ⟨none, [(10, false)]⟩])
  (.cond (.seq (rA 5)
  (.leaf))
  (.leaf)))
  (.seq (rA 8)
  (.seq (rA 8)
  (.seq (rA 5)
  (.leaf)))))))))

theorem s14_ok {Ψ : AVal → Heap → Prop} {t : AVal} {a : Int} {b : Int} {h : Heap} (H : s14 Ψ t a b h) : ACalls prog 14 [t, (.int .i64 a), (.int .i64 b)] h Ψ :=
  calls_of_evF func14 (by kernel_rfl) (by kernel_rfl) (by kernel_rfl)
    (Eq.mpr (by as_aux_lemma => kernel_rfl : oblF prog f14 (s14_A Ψ) Ψ = (True ∧ True ∧ (True ∧ (True ∧ True) ∧ True) ∧ True ∧ (True ∧ (True ∧ True) ∧ True) ∧ ((True) ∧ (∀ (h : Heap) (x0 : AVal) (x1 x2 x3 x4 : Int) (x5 : Bool), OI (s14c1 Ψ x0 x1 x2 x3 x4 x5 h)) ∧ ((True ∧ True) ∧ True)) ∧ True ∧ True ∧ True ∧ True)) ⟨trivial, ⟨trivial, ⟨⟨trivial, ⟨⟨trivial, trivial⟩, trivial⟩⟩, ⟨trivial, ⟨⟨trivial, ⟨⟨trivial, trivial⟩, trivial⟩⟩, ⟨⟨trivial, fun _ _ _ _ _ _ _ H => H, ⟨⟨trivial, trivial⟩, trivial⟩⟩, ⟨trivial, ⟨trivial, ⟨trivial, trivial⟩⟩⟩⟩⟩⟩⟩⟩⟩)
    (Eq.mpr (by as_aux_lemma => kernel_rfl : evF prog f14 (s14_A Ψ) Ψ [t, (.int .i64 a), (.int .i64 b)] h = s14 Ψ t a b h) H)

/- 17 (*dictum/dictumref03.T).Below -/
abbrev s17l1_T := AVal → Int → AVal → AVal → Int → Heap → Prop
def s17l1_R (F : s17l1_T) (l : List AVal) (h : Heap) : Prop := J.cons l fun x0 l => J.cons l fun v l => J.int .i64 v fun x1 => J.cons l fun x2 l => J.cons l fun x3 l => J.cons l fun v l => J.int .i64 v fun x4 => J.nil l (F x0 x1 x2 x3 x4 h)
def s17l1_G (F : s17l1_T) (x0 : AVal) (x1 : Int) (x2 x3 : AVal) (x4 : Int) (h : Heap) : Prop := gJ [.any, .int .i64, .any, .any, .int .i64] [x0, (.int .i64 x1), x2, x3, (.int .i64 x4)] h (s17l1_R F)
def s17l1_E (F : Nat → s17l1_T) (x0 : AVal) (x1 : Int) (x2 x3 : AVal) (x4 : Int) (h : Heap) : Prop := gJ [.any, .int .i64, .any, .any, .int .i64] [x0, (.int .i64 x1), x2, x3, (.int .i64 x4)] h (fun l h => ∃ n, s17l1_R (F n) l h)
theorem s17l1_go {F : s17l1_T} {x0 : AVal} {x1 : Int} {x2 x3 : AVal} {x4 : Int} {h : Heap} (H : F x0 x1 x2 x3 x4 h) : s17l1_G F x0 x1 x2 x3 x4 h := gJ_plain rfl H
theorem s17l1_in {F : Nat → s17l1_T} {x0 : AVal} {x1 : Int} {x2 x3 : AVal} {x4 : Int} {h : Heap} (n : Nat) (H : F n x0 x1 x2 x3 x4 h) : s17l1_E F x0 x1 x2 x3 x4 h := gJ_plain rfl ⟨n, H⟩

def s17c2 (Ψ : AVal → Heap → Prop) (L1 : s17l1_T) (t2 : AVal) (id_2 : Int) (in_1 out1 : AVal) (i1 : Int) (h : Heap) : Prop :=
  rg (i1 - 1) (
    L1 t2 id_2 in_1 out1 (i1 - 1) h)

def s17c3 (Ψ : AVal → Heap → Prop) (L1 : s17l1_T) (t3 : AVal) (id_3 : Int) (in_2 out2 : AVal) (i2 : Int) (t52 : Bool) (h : Heap) : Prop :=
  ifT t52 (
    nilCheckA t3 fun p4 =>
    addOff p4 0 fun p5 =>
    ld1 h p5 fun v6 =>
    ixS 4 v6 i2 fun p6 =>
    addOff p6 2 fun p7 =>
    ld1 h p7 fun v7 =>
    tInt .i64 v7 fun v8 =>
    ixS 1 in_2 v8 fun p8 =>
    st true h p8 [(.bool true)] fun h_3 =>
    nilCheckA t3 fun p9 =>
    addOff p9 0 fun p10 =>
    ld1 h_3 p10 fun v9 =>
    ixS 4 v9 i2 fun p11 =>
    addOff p11 3 fun p12 =>
    ld1 h_3 p12 fun v10 =>
    tInt .i64 v10 fun v11 =>
    ixS 1 in_2 v11 fun p13 =>
    st true h_3 p13 [(.bool true)] fun h_4 =>
    s17c2 Ψ L1 t3 id_3 in_2 out2 i2 h_4) (
    s17c2 Ψ L1 t3 id_3 in_2 out2 i2 h)

abbrev s17l4_T := Int → AVal → AVal → Int → Heap → Prop
def s17l4_R (F : s17l4_T) (l : List AVal) (h : Heap) : Prop := J.cons l fun v l => J.int .i64 v fun x0 => J.cons l fun x1 l => J.cons l fun x2 l => J.cons l fun v l => J.int .i64 v fun x3 => J.nil l (F x0 x1 x2 x3 h)
def s17l4_G (F : s17l4_T) (x0 : Int) (x1 x2 : AVal) (x3 : Int) (h : Heap) : Prop := gJ [.int .i64, .any, .any, .int .i64] [(.int .i64 x0), x1, x2, (.int .i64 x3)] h (s17l4_R F)
def s17l4_E (F : Nat → s17l4_T) (x0 : Int) (x1 x2 : AVal) (x3 : Int) (h : Heap) : Prop := gJ [.int .i64, .any, .any, .int .i64] [(.int .i64 x0), x1, x2, (.int .i64 x3)] h (fun l h => ∃ n, s17l4_R (F n) l h)
theorem s17l4_go {F : s17l4_T} {x0 : Int} {x1 x2 : AVal} {x3 : Int} {h : Heap} (H : F x0 x1 x2 x3 h) : s17l4_G F x0 x1 x2 x3 h := gJ_plain rfl H
theorem s17l4_in {F : Nat → s17l4_T} {x0 : Int} {x1 x2 : AVal} {x3 : Int} {h : Heap} (n : Nat) (H : F n x0 x1 x2 x3 h) : s17l4_E F x0 x1 x2 x3 h := gJ_plain rfl ⟨n, H⟩

def s17c5 (Ψ : AVal → Heap → Prop) (L4 : s17l4_T) (id_5 : Int) (in_4 out4 : AVal) (i4 : Int) (h : Heap) : Prop :=
  rg (i4 + 1) (
    L4 id_5 in_4 out4 (i4 + 1) h)

def s17l4 (Ψ : AVal → Heap → Prop) : Nat → s17l4_T
  | 0, _, _, _, _, _ => False
  | n2 + 1, id_4, in_3, out3, i3, h =>
    ifT (decide (i3 ≤ id_4)) (
      ixS 1 in_3 i3 fun p22 =>
      ld1 h p22 fun v18 =>
      tBool v18 fun v19 =>
      ifT v19 (
        appC 1 8 h out3 (.lsl 1 [(.int .i64 i3)]) fun v20 h_5 =>
        s17c5 Ψ (s17l4_G (s17l4 Ψ n2)) id_4 in_3 v20 i3 h_5) (
        s17c5 Ψ (s17l4_G (s17l4 Ψ n2)) id_4 in_3 out3 i3 h)) (
      retG (.tuple [out3, (.int .i64 0)]) h Ψ)

def s17l1 (Ψ : AVal → Heap → Prop) : Nat → s17l1_T
  | 0, _, _, _, _, _, _ => False
  | n1 + 1, t1, id_1, in_, out, i, h =>
    ifT (decide (0 ≤ i)) (
      ixS 1 in_ i fun p3 =>
      ld1 h p3 fun v4 =>
      tBool v4 fun v5 =>
      ifT (!v5) (
        s17c2 Ψ (s17l1_G (s17l1 Ψ n1)) t1 id_1 in_ out i h) (
        nilCheckA t1 fun p14 =>
        addOff p14 0 fun p15 =>
        ld1 h p15 fun v12 =>
        ixS 4 v12 i fun p16 =>
        addOff p16 0 fun p17 =>
        ld1 h p17 fun v13 =>
        tInt .i64 v13 fun v14 =>
        ifT (v14 != 1) (
          nilCheckA t1 fun p18 =>
          addOff p18 0 fun p19 =>
          ld1 h p19 fun v15 =>
          ixS 4 v15 i fun p20 =>
          addOff p20 0 fun p21 =>
          ld1 h p21 fun v16 =>
          tInt .i64 v16 fun v17 =>
          s17c3 Ψ (s17l1_G (s17l1 Ψ n1)) t1 id_1 in_ out i (v17 != 2) h) (
          s17c3 Ψ (s17l1_G (s17l1 Ψ n1)) t1 id_1 in_ out i false h))) (
      s17l4_E (s17l4 Ψ) id_1 in_ out 0 h)

def s17 (Ψ : AVal → Heap → Prop) (t : AVal) (id_ : Int) (h : Heap) : Prop :=
  callG prog 50 [t, (.int .i64 id_)] h fun v h_ =>
  tBool v fun v1 =>
  ifT (!v1) (
    retG (.tuple [.nilsl, (.int .i64 31)]) h_ Ψ) (
    nilCheckA t fun p =>
    addOff p 0 fun p1 =>
    ld1 h_ p1 fun v2 =>
    lenN v2 fun n =>
    mkS false 1 1 (.bool false) h_ n n fun v3 h_1 =>
    ixS 1 v3 id_ fun p2 =>
    st true h_1 p2 [(.bool true)] fun h_2 =>
    s17l1_E (s17l1 Ψ) t id_ v3 .nilsl id_ h_2)

def s17_A (Ψ : AVal → Heap → Prop) : Ann :=
  .seq (rA 2)
  (.seq (.seq (rA 4)
  (.cond (.seq (rA 2)
  (.leaf))
  (.leaf)))
  (.seq (rA 7)
  (.seq (rA 4)
  (.seq (rA 1)
  (.seq (.seq (rA 2)
  (.block (.loop [(0, .any), (1, .int .i64), (6, .any), (7, .any), (8, .int .i64)] (fun n l h => s17l1_R (s17l1 Ψ n) l h) (fun L1 =>
  .seq (.seq (rA 2)
  (.cond (.leaf)
  (.leaf)))
  (.cut [(0, .any), (1, .int .i64), (6, .any), (7, .any), (8, .int .i64)] (fun l h => J.cons l fun x0 l => J.cons l fun v l => J.int .i64 v fun x1 => J.cons l fun x2 l => J.cons l fun x3 l => J.cons l fun v l => J.int .i64 v fun x4 => J.nil l (s17c2 Ψ (fun y0 y1 y2 y3 y4 h => L1 [y0, (.int .i64 y1), y2, y3, (.int .i64 y4)] h) x0 x1 x2 x3 x4 h)) (.block (.seq (.seq (rA 5)
  (.cond (.leaf)
  (.leaf)))
  (.cut [(0, .any), (1, .int .i64), (6, .any), (7, .any), (8, .int .i64), (52, .bool)] (fun l h => J.cons l fun x0 l => J.cons l fun v l => J.int .i64 v fun x1 => J.cons l fun x2 l => J.cons l fun x3 l => J.cons l fun v l => J.int .i64 v fun x4 => J.cons l fun v l => J.bool v fun x5 => J.nil l (s17c3 Ψ (fun y0 y1 y2 y3 y4 h => L1 [y0, (.int .i64 y1), y2, y3, (.int .i64 y4)] h) x0 x1 x2 x3 x4 x5 h)) (.reg [⟨none, [(0, false), (1, false), (2, false), (3, false), (4, false), (5, false), (6, false), (7, false), (8, false), (9, false)]⟩, ⟨some (42, true), [(10, false), (11, false), (12, false), (13, false), (14, false), (15, false), (16, false), (17, false), (18, false)]⟩, ⟨none, [(19, false)]⟩])
  (.cond (.seq (rA 11)
  (rA 11))
  (.leaf)))))
  (rA 3))))))
  (.seq (.seq (rA 1)
  (.block (.loop [(1, .int .i64), (6, .any), (7, .any), (9, .int .i64)] (fun n l h => s17l4_R (s17l4 Ψ n) l h) (fun L4 =>
  .seq (.seq (rA 3)
  (.cond (.leaf)
  (.leaf)))
  (.cut [(1, .int .i64), (6, .any), (7, .any), (9, .int .i64)] (fun l h => J.cons l fun v l => J.int .i64 v fun x0 => J.cons l fun x1 l => J.cons l fun x2 l => J.cons l fun v l => J.int .i64 v fun x3 => J.nil l (s17c5 Ψ (fun y0 y1 y2 y3 h => L4 [(.int .i64 y0), y1, y2, (.int .i64 y3)] h) x0 x1 x2 x3 h)) (.block (.seq (rA 4)
  (.cond (.reg [⟨none, [(0, false), (1, false), (2, true), (3, false), (4, false)]⟩])
  (.leaf))))
  (rA 3))))))
  (.seq (rA 3)
  (.leaf))))))))

theorem s17_ok {Ψ : AVal → Heap → Prop} {t : AVal} {id_ : Int} {h : Heap} (H : s17 Ψ t id_ h) : ACalls prog 17 [t, (.int .i64 id_)] h Ψ :=
  calls_of_evF func17 (by kernel_rfl) (by kernel_rfl) (by kernel_rfl)
    (Eq.mpr (by as_aux_lemma => kernel_rfl : oblF prog f17 (s17_A Ψ) Ψ = (True ∧ (True ∧ (True ∧ True) ∧ True) ∧ True ∧ True ∧ True ∧ (True ∧ (∀ (h : Heap) (x0 : AVal) (x1 : Int) (x2 x3 : AVal) (x4 : Int), ON (s17l1 Ψ 0 x0 x1 x2 x3 x4 h)) ∧ ∀ n1 : Nat, (∀ (h : Heap) (x0 : AVal) (x1 : Int) (x2 x3 : AVal) (x4 : Int), OI (s17l1 Ψ (n1 + 1) x0 x1 x2 x3 x4 h)) ∧ ((True ∧ True ∧ True) ∧ ((True ∧ True ∧ True) ∧ (True) ∧ (∀ (h : Heap) (x0 : AVal) (x1 : Int) (x2 x3 : AVal) (x4 : Int) (x5 : Bool), OI (s17c3 Ψ (s17l1_G (s17l1 Ψ n1)) x0 x1 x2 x3 x4 x5 h)) ∧ ((True ∧ True) ∧ True)) ∧ (∀ (h : Heap) (x0 : AVal) (x1 : Int) (x2 x3 : AVal) (x4 : Int), OI (s17c2 Ψ (s17l1_G (s17l1 Ψ n1)) x0 x1 x2 x3 x4 h)) ∧ (True))) ∧ (True ∧ (∀ (h : Heap) (x0 : Int) (x1 x2 : AVal) (x3 : Int), ON (s17l4 Ψ 0 x0 x1 x2 x3 h)) ∧ ∀ n4 : Nat, (∀ (h : Heap) (x0 : Int) (x1 x2 : AVal) (x3 : Int), OI (s17l4 Ψ (n4 + 1) x0 x1 x2 x3 h)) ∧ ((True ∧ True ∧ True) ∧ (True ∧ True ∧ True) ∧ (∀ (h : Heap) (x0 : Int) (x1 x2 : AVal) (x3 : Int), OI (s17c5 Ψ (s17l4_G (s17l4 Ψ n4)) x0 x1 x2 x3 h)) ∧ (True))) ∧ True ∧ True)) ⟨trivial, ⟨⟨trivial, ⟨⟨trivial, trivial⟩, trivial⟩⟩, ⟨trivial, ⟨trivial, ⟨trivial, ⟨⟨trivial, ⟨fun _ _ _ _ _ _ H => H, fun _ => ⟨fun _ _ _ _ _ _ H => H, ⟨⟨trivial, ⟨trivial, trivial⟩⟩, ⟨⟨⟨trivial, ⟨trivial, trivial⟩⟩, ⟨trivial, fun _ _ _ _ _ _ _ H => H, ⟨⟨trivial, trivial⟩, trivial⟩⟩⟩, fun _ _ _ _ _ _ H => H, trivial⟩⟩⟩⟩⟩, ⟨⟨trivial, ⟨fun _ _ _ _ _ H => H, fun _ => ⟨fun _ _ _ _ _ H => H, ⟨⟨trivial, ⟨trivial, trivial⟩⟩, ⟨⟨trivial, ⟨trivial, trivial⟩⟩, fun _ _ _ _ _ H => H, trivial⟩⟩⟩⟩⟩, ⟨trivial, trivial⟩⟩⟩⟩⟩⟩⟩⟩)
    (Eq.mpr (by as_aux_lemma => kernel_rfl : evF prog f17 (s17_A Ψ) Ψ [t, (.int .i64 id_)] h = s17 Ψ t id_ h) H)

/- 19 dictum/dictumref17.Copy -/
abbrev s19l1_T := AVal → AVal → AVal → Int → Heap → Prop
def s19l1_R (F : s19l1_T) (l : List AVal) (h : Heap) : Prop := J.cons l fun x0 l => J.cons l fun x1 l => J.cons l fun x2 l => J.cons l fun v l => J.int .i64 v fun x3 => J.nil l (F x0 x1 x2 x3 h)
def s19l1_G (F : s19l1_T) (x0 x1 x2 : AVal) (x3 : Int) (h : Heap) : Prop := gJ [.any, .any, .any, .int .i64] [x0, x1, x2, (.int .i64 x3)] h (s19l1_R F)
def s19l1_E (F : Nat → s19l1_T) (x0 x1 x2 : AVal) (x3 : Int) (h : Heap) : Prop := gJ [.any, .any, .any, .int .i64] [x0, x1, x2, (.int .i64 x3)] h (fun l h => ∃ n, s19l1_R (F n) l h)
theorem s19l1_go {F : s19l1_T} {x0 x1 x2 : AVal} {x3 : Int} {h : Heap} (H : F x0 x1 x2 x3 h) : s19l1_G F x0 x1 x2 x3 h := gJ_plain rfl H
theorem s19l1_in {F : Nat → s19l1_T} {x0 x1 x2 : AVal} {x3 : Int} {h : Heap} (n : Nat) (H : F n x0 x1 x2 x3 h) : s19l1_E F x0 x1 x2 x3 h := gJ_plain rfl ⟨n, H⟩

abbrev s19l2_T := AVal → AVal → AVal → Int → Heap → Prop
def s19l2_R (F : s19l2_T) (l : List AVal) (h : Heap) : Prop := J.cons l fun x0 l => J.cons l fun x1 l => J.cons l fun x2 l => J.cons l fun v l => J.int .i64 v fun x3 => J.nil l (F x0 x1 x2 x3 h)
def s19l2_G (F : s19l2_T) (x0 x1 x2 : AVal) (x3 : Int) (h : Heap) : Prop := gJ [.any, .any, .any, .int .i64] [x0, x1, x2, (.int .i64 x3)] h (s19l2_R F)
def s19l2_E (F : Nat → s19l2_T) (x0 x1 x2 : AVal) (x3 : Int) (h : Heap) : Prop := gJ [.any, .any, .any, .int .i64] [x0, x1, x2, (.int .i64 x3)] h (fun l h => ∃ n, s19l2_R (F n) l h)
theorem s19l2_go {F : s19l2_T} {x0 x1 x2 : AVal} {x3 : Int} {h : Heap} (H : F x0 x1 x2 x3 h) : s19l2_G F x0 x1 x2 x3 h := gJ_plain rfl H
theorem s19l2_in {F : Nat → s19l2_T} {x0 x1 x2 : AVal} {x3 : Int} {h : Heap} (n : Nat) (H : F n x0 x1 x2 x3 h) : s19l2_E F x0 x1 x2 x3 h := gJ_plain rfl ⟨n, H⟩

def s19l2 (Ψ : AVal → Heap → Prop) : Nat → s19l2_T
  | 0, _, _, _, _, _ => False
  | n2 + 1, m1, t2_1, out1, i1, h =>
    addOff m1 1 fun p5 =>
    ld1 h p5 fun v11 =>
    lenN v11 fun n3 =>
    ifT (decide (i1 < n3)) (
      addOff out1 1 fun p6 =>
      ld1 h p6 fun v12 =>
      addOff m1 1 fun p7 =>
      ld1 h p7 fun v13 =>
      ixS 1 v13 i1 fun p8 =>
      ld1 h p8 fun v14 =>
      Sym.newRow 1 [] h fun r3 h_7 =>
      (ld1 h_7 p8 fun v15 =>
      v15 = v14) ∧
      (ld1 h_7 p7 fun v16 =>
      v16 = v13) ∧
      (ld1 h_7 p6 fun v17 =>
      v17 = v12) ∧
      appC 1 16 h_7 (.sl r3 1 0 0) v14 fun v18 h_8 =>
      (ld1 h_8 p6 fun v19 =>
      v19 = v12) ∧
      chk (sc v18) (
        (ld1 h_8 p6 fun v20 =>
        v20 = v12) ∧
        appC 1 24 h_8 v12 (.lsl 1 [v18]) fun v21 h_9 =>
        addOff out1 1 fun p9 =>
        chk (sc v21) (
          st true h_9 p9 [v21] fun h_10 =>
          rg (i1 + 1) (
            s19l2_G (s19l2 Ψ n2) m1 t2_1 out1 (i1 + 1) h_10)))) (
      ldN 2 h out1 fun l_ =>
      tCons l_ fun v22 l_1 =>
      tCons l_1 fun v23 l_2 =>
      tNil l_2 (
        st false h t2_1 [v22, v23] fun h_11 =>
        ldN 2 h_11 t2_1 fun l_3 =>
        tCons l_3 fun v24 l_4 =>
        tCons l_4 fun v25 l_5 =>
        tNil l_5 (
          retG (.agg [v24, v25]) h_11 Ψ)))

def s19l1 (Ψ : AVal → Heap → Prop) : Nat → s19l1_T
  | 0, _, _, _, _, _ => False
  | n + 1, m, t2, out, i, h =>
    addOff m 0 fun p =>
    ld1 h p fun v =>
    lenN v fun n1 =>
    ifT (decide (i < n1)) (
      addOff out 0 fun p1 =>
      ld1 h p1 fun v1 =>
      addOff m 0 fun p2 =>
      ld1 h p2 fun v2 =>
      ixS 1 v2 i fun p3 =>
      ld1 h p3 fun v3 =>
      Sym.newRow 1 [] h fun r2 h_3 =>
      (ld1 h_3 p3 fun v4 =>
      v4 = v3) ∧
      (ld1 h_3 p2 fun v5 =>
      v5 = v2) ∧
      (ld1 h_3 p1 fun v6 =>
      v6 = v1) ∧
      appC 1 8 h_3 (.sl r2 1 0 0) v3 fun v7 h_4 =>
      (ld1 h_4 p1 fun v8 =>
      v8 = v1) ∧
      chk (sc v7) (
        (ld1 h_4 p1 fun v9 =>
        v9 = v1) ∧
        appC 1 24 h_4 v1 (.lsl 1 [v7]) fun v10 h_5 =>
        addOff out 0 fun p4 =>
        chk (sc v10) (
          st true h_5 p4 [v10] fun h_6 =>
          rg (i + 1) (
            s19l1_G (s19l1 Ψ n) m t2 out (i + 1) h_6)))) (
      s19l2_E (s19l2 Ψ) m t2 out 0 h)

def s19 (Ψ : AVal → Heap → Prop) (m_Up : AVal) (m_Val : AVal) (h : Heap) : Prop :=
  Sym.newRow 2 [(.agg [.nilsl, .nilsl])] h fun r h_ =>
  Sym.newRow 2 [(.agg [.nilsl, .nilsl])] h_ fun r1 h_1 =>
  st false h_1 (.ptr r1 0 0) [.nilsl, .nilsl] fun h_2 =>
  s19l1_E (s19l1 Ψ) (.lptr [m_Up, m_Val]) (.ptr r 0 0) (.ptr r1 0 0) 0 h_2

def s19_A (Ψ : AVal → Heap → Prop) : Ann :=
  .seq (.reg [⟨none, [(0, true), (1, false)]⟩])
  (.seq (rA 3)
  (.seq (.seq (rA 1)
  (.block (.loop [(1, .any), (2, .any), (3, .any), (4, .int .i64)] (fun n l h => s19l1_R (s19l1 Ψ n) l h) (fun L1 =>
  .seq (.seq (rA 5)
  (.cond (.leaf)
  (.leaf)))
  (.seq (.block (.draw [(0, false), (1, false), (3, false), (4, false), (5, false), (6, false), (7, false), (2, false), (8, false), (9, true), (10, false), (11, false), (12, false)] [0, 1, 0, 0, 8, 0, 56, 120, 252, 508, 1023, 2047, 4095]))
  (rA 3))))))
  (.seq (.seq (rA 1)
  (.block (.loop [(1, .any), (2, .any), (3, .any), (5, .int .i64)] (fun n l h => s19l2_R (s19l2 Ψ n) l h) (fun L2 =>
  .seq (.seq (rA 5)
  (.cond (.leaf)
  (.leaf)))
  (.seq (.block (.draw [(0, false), (1, false), (3, false), (4, false), (5, false), (6, false), (7, false), (2, false), (8, false), (9, true), (10, false), (11, false), (12, false)] [0, 1, 0, 0, 8, 0, 56, 120, 252, 508, 1023, 2047, 4095]))
  (rA 3))))))
  (.seq (rA 2)
  (.leaf)))))

theorem s19_ok {Ψ : AVal → Heap → Prop} {m_Up : AVal} {m_Val : AVal} {h : Heap} (H : s19 Ψ m_Up m_Val h) : ACalls prog 19 [(.agg [m_Up, m_Val])] h Ψ :=
  calls_of_evF func19 (by kernel_rfl) (by kernel_rfl) (by kernel_rfl)
    (Eq.mpr (by as_aux_lemma => kernel_rfl : oblF prog f19 (s19_A Ψ) Ψ = (True ∧ True ∧ (True ∧ (∀ (h : Heap) (x0 x1 x2 : AVal) (x3 : Int), ON (s19l1 Ψ 0 x0 x1 x2 x3 h)) ∧ ∀ n1 : Nat, (∀ (h : Heap) (x0 x1 x2 : AVal) (x3 : Int), OI (s19l1 Ψ (n1 + 1) x0 x1 x2 x3 h)) ∧ ((True ∧ True ∧ True) ∧ True ∧ True)) ∧ (True ∧ (∀ (h : Heap) (x0 x1 x2 : AVal) (x3 : Int), ON (s19l2 Ψ 0 x0 x1 x2 x3 h)) ∧ ∀ n2 : Nat, (∀ (h : Heap) (x0 x1 x2 : AVal) (x3 : Int), OI (s19l2 Ψ (n2 + 1) x0 x1 x2 x3 h)) ∧ ((True ∧ True ∧ True) ∧ True ∧ True)) ∧ True ∧ True)) ⟨trivial, ⟨trivial, ⟨⟨trivial, ⟨fun _ _ _ _ _ H => H, fun _ => ⟨fun _ _ _ _ _ H => H, ⟨⟨trivial, ⟨trivial, trivial⟩⟩, ⟨trivial, trivial⟩⟩⟩⟩⟩, ⟨⟨trivial, ⟨fun _ _ _ _ _ H => H, fun _ => ⟨fun _ _ _ _ _ H => H, ⟨⟨trivial, ⟨trivial, trivial⟩⟩, ⟨trivial, trivial⟩⟩⟩⟩⟩, ⟨trivial, trivial⟩⟩⟩⟩⟩)
    (Eq.mpr (by as_aux_lemma => kernel_rfl : evF prog f19 (s19_A Ψ) Ψ [(.agg [m_Up, m_Val])] h = s19 Ψ m_Up m_Val h) H)

/- 21 dictum/dictumlaw03.Both -/
def s21 (Ψ : AVal → Heap → Prop) (rows : AVal) (h : Heap) : Prop :=
  Sym.newRow 4 [] h fun r h_ =>
  appC 4 40 h_ (.sl r 4 0 0) rows (litG true fun v h_1 =>
  callG prog 54 [rows] h_1 fun v1 h_2 =>
  tTup v1 fun l_ =>
  tCons l_ fun v2 l_1 =>
  tCons l_1 fun v3 l_2 =>
  tInt .i64 v3 fun v4 =>
  tNil l_2 (
    ifT (v4 != 0) (
      retG (.tuple [.nilptr, .nilptr, (.bool false)]) h_2 Ψ) (
      callG prog 55 [v] h_2 fun v5 h_3 =>
      tTup v5 fun l_3 =>
      tCons l_3 fun v6 l_4 =>
      tCons l_4 fun v7 l_5 =>
      tInt .i64 v7 fun v8 =>
      tNil l_5 (
        retG (.tuple [v6, v2, (.bool true)]) h_3 Ψ))))

def s21_A (Ψ : AVal → Heap → Prop) : Ann :=
  .seq (rA 3)
  (.seq (.reg [⟨none, [(0, false), (1, false), (2, true), (3, false)]⟩])
  (.seq (rA 7)
  (.seq (.seq (rA 2)
  (.cond (.seq (rA 3)
  (.leaf))
  (.leaf)))
  (.seq (rA 7)
  (.seq (rA 5)
  (.leaf))))))

theorem s21_ok {Ψ : AVal → Heap → Prop} {rows : AVal} {h : Heap} (H : s21 Ψ rows h) : ACalls prog 21 [rows] h Ψ :=
  calls_of_evF func21 (by kernel_rfl) (by kernel_rfl) (by kernel_rfl)
    (Eq.mpr (by as_aux_lemma => kernel_rfl : oblF prog f21 (s21_A Ψ) Ψ = (True ∧ True ∧ True ∧ (True ∧ (True ∧ True) ∧ True) ∧ True ∧ True ∧ True)) ⟨trivial, ⟨trivial, ⟨trivial, ⟨⟨trivial, ⟨⟨trivial, trivial⟩, trivial⟩⟩, ⟨trivial, ⟨trivial, trivial⟩⟩⟩⟩⟩⟩)
    (Eq.mpr (by as_aux_lemma => kernel_rfl : evF prog f21 (s21_A Ψ) Ψ [rows] h = s21 Ψ rows h) H)

/- 23 (*dictum/formula.Table).Copy -/
abbrev s23l1_T := AVal → AVal → Int → Int → Heap → Prop
def s23l1_R (F : s23l1_T) (l : List AVal) (h : Heap) : Prop := J.cons l fun x0 l => J.cons l fun x1 l => J.cons l fun v l => J.int .i64 v fun x2 => J.cons l fun v l => J.int .i64 v fun x3 => J.nil l (F x0 x1 x2 x3 h)
def s23l1_G (F : s23l1_T) (x0 x1 : AVal) (x2 x3 : Int) (h : Heap) : Prop := gJ [.any, .any, .int .i64, .int .i64] [x0, x1, (.int .i64 x2), (.int .i64 x3)] h (s23l1_R F)
def s23l1_E (F : Nat → s23l1_T) (x0 x1 : AVal) (x2 x3 : Int) (h : Heap) : Prop := gJ [.any, .any, .int .i64, .int .i64] [x0, x1, (.int .i64 x2), (.int .i64 x3)] h (fun l h => ∃ n, s23l1_R (F n) l h)
theorem s23l1_go {F : s23l1_T} {x0 x1 : AVal} {x2 x3 : Int} {h : Heap} (H : F x0 x1 x2 x3 h) : s23l1_G F x0 x1 x2 x3 h := gJ_plain rfl H
theorem s23l1_in {F : Nat → s23l1_T} {x0 x1 : AVal} {x2 x3 : Int} {h : Heap} (n : Nat) (H : F n x0 x1 x2 x3 h) : s23l1_E F x0 x1 x2 x3 h := gJ_plain rfl ⟨n, H⟩

def s23l1 (Ψ : AVal → Heap → Prop) : Nat → s23l1_T
  | 0, _, _, _, _, _ => False
  | n1 + 1, c, t13, t14, t15, h =>
    ifT (decide (t15 < t14)) (
      ixS 4 t13 t15 fun p2 =>
      ldN 4 h p2 fun l_ =>
      tCons l_ fun v4 l_1 =>
      tInt .i64 v4 fun v5 =>
      tCons l_1 fun v6 l_2 =>
      tStr v6 fun v7 =>
      tCons l_2 fun v8 l_3 =>
      tInt .i64 v8 fun v9 =>
      tCons l_3 fun v10 l_4 =>
      tInt .i64 v10 fun v11 =>
      tNil l_4 (
        Sym.newRow 4 [(.agg [(.int .i64 0), (.str (ByteArray.mk #[])), (.int .i64 0), (.int .i64 0)])] h fun r h_2 =>
        st false h_2 (.ptr r 0 0) [(.int .i64 v5), (.str v7), (.int .i64 v9), (.int .i64 v11)] fun h_3 =>
        nilCheckA c fun p3 =>
        addOff p3 0 fun p4 =>
        ld1 h_3 p4 fun v12 =>
        ldN 4 h_3 (.ptr r 0 0) fun l_5 =>
        tCons l_5 fun v13 l_6 =>
        tInt .i64 v13 fun v14 =>
        tCons l_6 fun v15 l_7 =>
        tStr v15 fun v16 =>
        tCons l_7 fun v17 l_8 =>
        tInt .i64 v17 fun v18 =>
        tCons l_8 fun v19 l_9 =>
        tInt .i64 v19 fun v20 =>
        tNil l_9 (
          (ld1 h_3 p4 fun v21 =>
          v21 = v12) ∧
          appC 4 40 h_3 v12 (.lsl 4 [(.agg [(.int .i64 v14), (.str v16), (.int .i64 v18), (.int .i64 v20)])]) fun v22 h_4 =>
          nilCheckA c fun p5 =>
          addOff p5 0 fun p6 =>
          chk (sc v22) (
            st true h_4 p6 [v22] fun h_5 =>
            nilCheckA c fun p7 =>
            addOff p7 1 fun p8 =>
            ld1 h_5 p8 fun v23 =>
            ldN 4 h_5 (.ptr r 0 0) fun l_10 =>
            tCons l_10 fun v24 l_11 =>
            tInt .i64 v24 fun v25 =>
            tCons l_11 fun v26 l_12 =>
            tStr v26 fun v27 =>
            tCons l_12 fun v28 l_13 =>
            tInt .i64 v28 fun v29 =>
            tCons l_13 fun v30 l_14 =>
            tInt .i64 v30 fun v31 =>
            tNil l_14 (
              mapPut h_5 v23 (.agg [(.int .i64 v25), (.str v27), (.int .i64 v29), (.int .i64 v31)]) (.int .i64 t15) fun h_6 =>
              rg (t15 + 1) (
                s23l1_G (s23l1 Ψ n1) c t13 t14 (t15 + 1) h_6)))))) (
      retG c h Ψ)

def s23 (Ψ : AVal → Heap → Prop) (t : AVal) (h : Heap) : Prop :=
  callG prog 56 [t] h fun v h_ =>
  tBool v fun v1 =>
  ifT (!v1) (
    retG .nilptr h_ Ψ) (
    callG prog 22 [] h_ fun v2 h_1 =>
    nilCheckA t fun p =>
    addOff p 0 fun p1 =>
    ld1 h_1 p1 fun v3 =>
    lenN v3 fun n =>
    s23l1_E (s23l1 Ψ) v2 v3 n 0 h_1)

def s23_A (Ψ : AVal → Heap → Prop) : Ann :=
  .seq (rA 1)
  (.seq (.seq (rA 3)
  (.cond (.seq (rA 1)
  (.leaf))
  (.leaf)))
  (.seq (rA 2)
  (.seq (.seq (rA 6)
  (.block (.loop [(3, .any), (13, .any), (14, .int .i64), (15, .int .i64)] (fun n l h => s23l1_R (s23l1 Ψ n) l h) (fun L1 =>
  .seq (rA 1)
  (.seq (.cond (.leaf)
  (.leaf))
  (.seq (.block (.seq (rA 6)
  (.seq (.draw [(0, false), (1, false), (2, false), (3, false), (4, false), (5, false), (6, true), (7, false), (8, false), (9, false), (10, false)] [0, 0, 2, 6, 14, 0, 32, 126, 255, 511, 1023])
  (.draw [(0, false), (1, false), (2, false), (3, false), (4, false), (5, false), (6, false)] [0, 1, 3, 7, 0, 0, 63]))))
  (rA 2)))))))
  (.seq (rA 2)
  (.leaf)))))

theorem s23_ok {Ψ : AVal → Heap → Prop} {t : AVal} {h : Heap} (H : s23 Ψ t h) : ACalls prog 23 [t] h Ψ :=
  calls_of_evF func23 (by kernel_rfl) (by kernel_rfl) (by kernel_rfl)
    (Eq.mpr (by as_aux_lemma => kernel_rfl : oblF prog f23 (s23_A Ψ) Ψ = (True ∧ (True ∧ (True ∧ True) ∧ True) ∧ True ∧ (True ∧ (∀ (h : Heap) (x0 x1 : AVal) (x2 x3 : Int), ON (s23l1 Ψ 0 x0 x1 x2 x3 h)) ∧ ∀ n1 : Nat, (∀ (h : Heap) (x0 x1 : AVal) (x2 x3 : Int), OI (s23l1 Ψ (n1 + 1) x0 x1 x2 x3 h)) ∧ (True ∧ (True ∧ True) ∧ (True ∧ True ∧ True) ∧ True)) ∧ True ∧ True)) ⟨trivial, ⟨⟨trivial, ⟨⟨trivial, trivial⟩, trivial⟩⟩, ⟨trivial, ⟨⟨trivial, ⟨fun _ _ _ _ _ H => H, fun _ => ⟨fun _ _ _ _ _ H => H, ⟨trivial, ⟨⟨trivial, trivial⟩, ⟨⟨trivial, ⟨trivial, trivial⟩⟩, trivial⟩⟩⟩⟩⟩⟩, ⟨trivial, trivial⟩⟩⟩⟩⟩)
    (Eq.mpr (by as_aux_lemma => kernel_rfl : evF prog f23 (s23_A Ψ) Ψ [t] h = s23 Ψ t h) H)

/- 25 (*dictum/formula.Table).Len -/
def s25 (Ψ : AVal → Heap → Prop) (t : AVal) (h : Heap) : Prop :=
  callG prog 56 [t] h fun v h_ =>
  tBool v fun v1 =>
  ifT (!v1) (
    retG (.int .i64 0) h_ Ψ) (
    nilCheckA t fun p =>
    addOff p 0 fun p1 =>
    ld1 h_ p1 fun v2 =>
    lenN v2 fun n =>
    retG (.int .i64 n) h_ Ψ)

def s25_A (Ψ : AVal → Heap → Prop) : Ann :=
  .seq (rA 1)
  (.seq (.seq (rA 3)
  (.cond (.seq (rA 1)
  (.leaf))
  (.leaf)))
  (.seq (rA 6)
  (.leaf)))

theorem s25_ok {Ψ : AVal → Heap → Prop} {t : AVal} {h : Heap} (H : s25 Ψ t h) : ACalls prog 25 [t] h Ψ :=
  calls_of_evF func25 (by kernel_rfl) (by kernel_rfl) (by kernel_rfl)
    (Eq.mpr (by as_aux_lemma => kernel_rfl : oblF prog f25 (s25_A Ψ) Ψ = (True ∧ (True ∧ (True ∧ True) ∧ True) ∧ True ∧ True)) ⟨trivial, ⟨⟨trivial, ⟨⟨trivial, trivial⟩, trivial⟩⟩, ⟨trivial, trivial⟩⟩⟩)
    (Eq.mpr (by as_aux_lemma => kernel_rfl : evF prog f25 (s25_A Ψ) Ψ [t] h = s25 Ψ t h) H)

/- 27 (*dictum/formula.Table).Cut -/
abbrev s27l2_T := AVal → Int → AVal → Int → Int → Heap → Prop
def s27l2_R (F : s27l2_T) (l : List AVal) (h : Heap) : Prop := J.cons l fun x0 l => J.cons l fun v l => J.int .i64 v fun x1 => J.cons l fun x2 l => J.cons l fun v l => J.int .i64 v fun x3 => J.cons l fun v l => J.int .i64 v fun x4 => J.nil l (F x0 x1 x2 x3 x4 h)
def s27l2_G (F : s27l2_T) (x0 : AVal) (x1 : Int) (x2 : AVal) (x3 x4 : Int) (h : Heap) : Prop := gJ [.any, .int .i64, .any, .int .i64, .int .i64] [x0, (.int .i64 x1), x2, (.int .i64 x3), (.int .i64 x4)] h (s27l2_R F)
def s27l2_E (F : Nat → s27l2_T) (x0 : AVal) (x1 : Int) (x2 : AVal) (x3 x4 : Int) (h : Heap) : Prop := gJ [.any, .int .i64, .any, .int .i64, .int .i64] [x0, (.int .i64 x1), x2, (.int .i64 x3), (.int .i64 x4)] h (fun l h => ∃ n, s27l2_R (F n) l h)
theorem s27l2_go {F : s27l2_T} {x0 : AVal} {x1 : Int} {x2 : AVal} {x3 x4 : Int} {h : Heap} (H : F x0 x1 x2 x3 x4 h) : s27l2_G F x0 x1 x2 x3 x4 h := gJ_plain rfl H
theorem s27l2_in {F : Nat → s27l2_T} {x0 : AVal} {x1 : Int} {x2 : AVal} {x3 x4 : Int} {h : Heap} (n : Nat) (H : F n x0 x1 x2 x3 x4 h) : s27l2_E F x0 x1 x2 x3 x4 h := gJ_plain rfl ⟨n, H⟩

def s27l2 (Ψ : AVal → Heap → Prop) : Nat → s27l2_T
  | 0, _, _, _, _, _, _ => False
  | n4 + 1, t2, n3, t28, t29, t30, h =>
    ifT (decide (t30 < t29)) (
      ixS 4 t28 t30 fun p2 =>
      ldN 4 h p2 fun l_ =>
      tCons l_ fun v4 l_1 =>
      tInt .i64 v4 fun v5 =>
      tCons l_1 fun v6 l_2 =>
      tStr v6 fun v7 =>
      tCons l_2 fun v8 l_3 =>
      tInt .i64 v8 fun v9 =>
      tCons l_3 fun v10 l_4 =>
      tInt .i64 v10 fun v11 =>
      tNil l_4 (
        Sym.newRow 4 [(.agg [(.int .i64 0), (.str (ByteArray.mk #[])), (.int .i64 0), (.int .i64 0)])] h fun r h_1 =>
        st false h_1 (.ptr r 0 0) [(.int .i64 v5), (.str v7), (.int .i64 v9), (.int .i64 v11)] fun h_2 =>
        nilCheckA t2 fun p3 =>
        addOff p3 1 fun p4 =>
        ld1 h_2 p4 fun v12 =>
        ldN 4 h_2 (.ptr r 0 0) fun l_5 =>
        tCons l_5 fun v13 l_6 =>
        tInt .i64 v13 fun v14 =>
        tCons l_6 fun v15 l_7 =>
        tStr v15 fun v16 =>
        tCons l_7 fun v17 l_8 =>
        tInt .i64 v17 fun v18 =>
        tCons l_8 fun v19 l_9 =>
        tInt .i64 v19 fun v20 =>
        tNil l_9 (
          mapDel h_2 v12 (.agg [(.int .i64 v14), (.str v16), (.int .i64 v18), (.int .i64 v20)]) fun h_3 =>
          rg (t30 + 1) (
            s27l2_G (s27l2 Ψ n4) t2 n3 t28 t29 (t30 + 1) h_3)))) (
      nilCheckA t2 fun p5 =>
      addOff p5 0 fun p6 =>
      ld1 h p6 fun v21 =>
      slX 4 v21 0 (some n3) fun v22 =>
      nilCheckA t2 fun p7 =>
      addOff p7 0 fun p8 =>
      chk (sc v22) (
        st true h p8 [v22] fun h_4 =>
        retG (.int .i64 0) h_4 Ψ))

def s27c1 (Ψ : AVal → Heap → Prop) (t1 : AVal) (n1 : Int) (t11 : Bool) (h : Heap) : Prop :=
  ifT t11 (
    retG (.int .i64 2) h Ψ) (
    nilCheckA t1 fun p =>
    addOff p 0 fun p1 =>
    ld1 h p1 fun v2 =>
    slX 4 v2 n1 none fun v3 =>
    lenN v3 fun n2 =>
    s27l2_E (s27l2 Ψ) t1 n1 v3 n2 0 h)

def s27 (Ψ : AVal → Heap → Prop) (t : AVal) (n : Int) (h : Heap) : Prop :=
  callG prog 56 [t] h fun v h_ =>
  tBool v fun v1 =>
  ifT (!v1) (
    retG (.int .i64 1) h_ Ψ) (
    ifT (decide (n < 0)) (
      s27c1 Ψ t n true h_) (
      nilCheckA t fun p9 =>
      addOff p9 0 fun p10 =>
      ld1 h_ p10 fun v23 =>
      lenN v23 fun n6 =>
      s27c1 Ψ t n (decide (n6 < n)) h_))

def s27_A (Ψ : AVal → Heap → Prop) : Ann :=
  .seq (rA 1)
  (.seq (.block (.seq (rA 4)
  (.cond (.seq (rA 1)
  (.leaf))
  (.cut [(0, .any), (1, .int .i64), (11, .bool)] (fun l h => J.cons l fun x0 l => J.cons l fun v l => J.int .i64 v fun x1 => J.cons l fun v l => J.bool v fun x2 => J.nil l (s27c1 Ψ x0 x1 x2 h)) (.reg [⟨none, [(0, false), (1, false), (2, false)]⟩, ⟨some (14, false), [(3, false), (4, false), (5, false), (6, false), (7, false), (8, false), (9, false)]⟩, ⟨none, [(10, false), (11, false)]⟩])
  (.cond (.seq (rA 1)
  (.leaf))
  (.leaf))))))
  (.seq (.seq (rA 8)
  (.block (.loop [(0, .any), (1, .int .i64), (28, .any), (29, .int .i64), (30, .int .i64)] (fun n l h => s27l2_R (s27l2 Ψ n) l h) (fun L2 =>
  .seq (rA 1)
  (.seq (.cond (.leaf)
  (.leaf))
  (.seq (.block (.seq (rA 4)
  (.draw [(0, false), (1, false), (2, false), (3, false), (4, false), (5, false)] [0, 1, 3, 7, 0, 31])))
  (rA 2)))))))
  (.seq (rA 10)
  (.seq (rA 1)
  (.leaf)))))

theorem s27_ok {Ψ : AVal → Heap → Prop} {t : AVal} {n : Int} {h : Heap} (H : s27 Ψ t n h) : ACalls prog 27 [t, (.int .i64 n)] h Ψ :=
  calls_of_evF func27 (by kernel_rfl) (by kernel_rfl) (by kernel_rfl)
    (Eq.mpr (by as_aux_lemma => kernel_rfl : oblF prog f27 (s27_A Ψ) Ψ = (True ∧ (True ∧ (True ∧ True) ∧ (True) ∧ (∀ (h : Heap) (x0 : AVal) (x1 : Int) (x2 : Bool), OI (s27c1 Ψ x0 x1 x2 h)) ∧ ((True ∧ True) ∧ True)) ∧ (True ∧ (∀ (h : Heap) (x0 : AVal) (x1 : Int) (x2 : AVal) (x3 x4 : Int), ON (s27l2 Ψ 0 x0 x1 x2 x3 x4 h)) ∧ ∀ n2 : Nat, (∀ (h : Heap) (x0 : AVal) (x1 : Int) (x2 : AVal) (x3 x4 : Int), OI (s27l2 Ψ (n2 + 1) x0 x1 x2 x3 x4 h)) ∧ (True ∧ (True ∧ True) ∧ (True ∧ True) ∧ True)) ∧ True ∧ True ∧ True)) ⟨trivial, ⟨⟨trivial, ⟨⟨trivial, trivial⟩, ⟨trivial, fun _ _ _ _ H => H, ⟨⟨trivial, trivial⟩, trivial⟩⟩⟩⟩, ⟨⟨trivial, ⟨fun _ _ _ _ _ _ H => H, fun _ => ⟨fun _ _ _ _ _ _ H => H, ⟨trivial, ⟨⟨trivial, trivial⟩, ⟨⟨trivial, trivial⟩, trivial⟩⟩⟩⟩⟩⟩, ⟨trivial, ⟨trivial, trivial⟩⟩⟩⟩⟩)
    (Eq.mpr (by as_aux_lemma => kernel_rfl : evF prog f27 (s27_A Ψ) Ψ [t, (.int .i64 n)] h = s27 Ψ t n h) H)

/- 29 dictum/dictumref26.is -/
def s29 (Ψ : AVal → Heap → Prop) (k : Int) (h : Heap) : Prop :=
  ifT (decide ((-1) ≤ k)) (
    retG (.bool (decide (k ≤ 4096))) h Ψ) (
    retG (.bool false) h Ψ)

def s29_A (Ψ : AVal → Heap → Prop) : Ann :=
  .seq (rA 1)
  (.seq (.reg [⟨none, [(0, false), (1, false), (2, false)]⟩, ⟨some (5, true), [(3, false), (4, false)]⟩, ⟨none, [(5, false), (6, false)]⟩])
  (.leaf))

theorem s29_ok {Ψ : AVal → Heap → Prop} {k : Int} {h : Heap} (H : s29 Ψ k h) : ACalls prog 29 [(.int .i64 k)] h Ψ :=
  calls_of_evF func29 (by kernel_rfl) (by kernel_rfl) (by kernel_rfl)
    (Eq.mpr (by as_aux_lemma => kernel_rfl : oblF prog f29 (s29_A Ψ) Ψ = (True ∧ True ∧ True)) ⟨trivial, ⟨trivial, trivial⟩⟩)
    (Eq.mpr (by as_aux_lemma => kernel_rfl : evF prog f29 (s29_A Ψ) Ψ [(.int .i64 k)] h = s29 Ψ k h) H)

/- 31 (*dictum/dictumref03.T).Cut -/
def s31c1 (Ψ : AVal → Heap → Prop) (t1 : AVal) (n1 : Int) (t15 : Bool) (h : Heap) : Prop :=
  ifT t15 (
    retG (.int .i64 2) h Ψ) (
    nilCheckA t1 fun p =>
    addOff p 0 fun p1 =>
    ld1 h p1 fun v =>
    slM 4 v 0 n1 n1 fun v1 =>
    nilCheckA t1 fun p2 =>
    addOff p2 0 fun p3 =>
    chk (sc v1) (
      st true h p3 [v1] fun h_ =>
      retG (.int .i64 0) h_ Ψ))

def s31 (Ψ : AVal → Heap → Prop) (t : AVal) (n : Int) (h : Heap) : Prop :=
  ifT (decide (n < 0)) (
    s31c1 Ψ t n true h) (
    nilCheckA t fun p4 =>
    addOff p4 0 fun p5 =>
    ld1 h p5 fun v2 =>
    lenN v2 fun n2 =>
    s31c1 Ψ t n (decide (n2 < n)) h)

def s31_A (Ψ : AVal → Heap → Prop) : Ann :=
  .seq (rA 1)
  (.seq (.cut [(0, .any), (1, .int .i64), (15, .bool)] (fun l h => J.cons l fun x0 l => J.cons l fun v l => J.int .i64 v fun x1 => J.cons l fun v l => J.bool v fun x2 => J.nil l (s31c1 Ψ x0 x1 x2 h)) (.reg [⟨none, [(0, false), (1, false), (2, false)]⟩, ⟨some (7, false), [(3, false), (4, false), (5, false), (6, false), (7, false), (8, false), (9, false)]⟩, ⟨none, [(10, false)]⟩])
  (.cond (.seq (rA 1)
  (.leaf))
  (.leaf)))
  (.seq (rA 11)
  (.seq (rA 1)
  (.leaf))))

theorem s31_ok {Ψ : AVal → Heap → Prop} {t : AVal} {n : Int} {h : Heap} (H : s31 Ψ t n h) : ACalls prog 31 [t, (.int .i64 n)] h Ψ :=
  calls_of_evF func31 (by kernel_rfl) (by kernel_rfl) (by kernel_rfl)
    (Eq.mpr (by as_aux_lemma => kernel_rfl : oblF prog f31 (s31_A Ψ) Ψ = (True ∧ ((True) ∧ (∀ (h : Heap) (x0 : AVal) (x1 : Int) (x2 : Bool), OI (s31c1 Ψ x0 x1 x2 h)) ∧ ((True ∧ True) ∧ True)) ∧ True ∧ True ∧ True)) ⟨trivial, ⟨⟨trivial, fun _ _ _ _ H => H, ⟨⟨trivial, trivial⟩, trivial⟩⟩, ⟨trivial, ⟨trivial, trivial⟩⟩⟩⟩)
    (Eq.mpr (by as_aux_lemma => kernel_rfl : evF prog f31 (s31_A Ψ) Ψ [t, (.int .i64 n)] h = s31 Ψ t n h) H)

/- 33 dictum/nishimura.Imp -/
def s33 (Ψ : AVal → Heap → Prop) (a : Int) (b : Int) (h : Heap) : Prop :=
  callG prog 72 [(.int .i64 a), (.int .i64 b), (.func (.func 43) [] [])] h fun v h_ =>
  tTup v fun l_ =>
  tCons l_ fun v1 l_1 =>
  tInt .i64 v1 fun v2 =>
  tCons l_1 fun v3 l_2 =>
  tInt .i64 v3 fun v4 =>
  tNil l_2 (
    retG (.tuple [(.int .i64 v2), (.int .i64 v4)]) h_ Ψ)

def s33_A (Ψ : AVal → Heap → Prop) : Ann :=
  .seq (rA 2)
  (.seq (rA 7)
  (.leaf))

theorem s33_ok {Ψ : AVal → Heap → Prop} {a : Int} {b : Int} {h : Heap} (H : s33 Ψ a b h) : ACalls prog 33 [(.int .i64 a), (.int .i64 b)] h Ψ :=
  calls_of_evF func33 (by kernel_rfl) (by kernel_rfl) (by kernel_rfl)
    (Eq.mpr (by as_aux_lemma => kernel_rfl : oblF prog f33 (s33_A Ψ) Ψ = (True ∧ True ∧ True)) ⟨trivial, ⟨trivial, trivial⟩⟩)
    (Eq.mpr (by as_aux_lemma => kernel_rfl : evF prog f33 (s33_A Ψ) Ψ [(.int .i64 a), (.int .i64 b)] h = s33 Ψ a b h) H)

/- 35 dictum/nishimura.Meet -/
def s35 (Ψ : AVal → Heap → Prop) (a : Int) (b : Int) (h : Heap) : Prop :=
  callG prog 72 [(.int .i64 a), (.int .i64 b), (.func (.func 41) [] [])] h fun v h_ =>
  tTup v fun l_ =>
  tCons l_ fun v1 l_1 =>
  tInt .i64 v1 fun v2 =>
  tCons l_1 fun v3 l_2 =>
  tInt .i64 v3 fun v4 =>
  tNil l_2 (
    retG (.tuple [(.int .i64 v2), (.int .i64 v4)]) h_ Ψ)

def s35_A (Ψ : AVal → Heap → Prop) : Ann :=
  .seq (rA 2)
  (.seq (rA 7)
  (.leaf))

theorem s35_ok {Ψ : AVal → Heap → Prop} {a : Int} {b : Int} {h : Heap} (H : s35 Ψ a b h) : ACalls prog 35 [(.int .i64 a), (.int .i64 b)] h Ψ :=
  calls_of_evF func35 (by kernel_rfl) (by kernel_rfl) (by kernel_rfl)
    (Eq.mpr (by as_aux_lemma => kernel_rfl : oblF prog f35 (s35_A Ψ) Ψ = (True ∧ True ∧ True)) ⟨trivial, ⟨trivial, trivial⟩⟩)
    (Eq.mpr (by as_aux_lemma => kernel_rfl : evF prog f35 (s35_A Ψ) Ψ [(.int .i64 a), (.int .i64 b)] h = s35 Ψ a b h) H)

/- 37 (*dictum/formula.Table).Node -/
def s37c1 (Ψ : AVal → Heap → Prop) (t1 : AVal) (id_1 : Int) (t4 : AVal) (t14 : Bool) (h : Heap) : Prop :=
  ifT t14 (
    st false h t4 [(.int .i64 0), (.str (ByteArray.mk #[])), (.int .i64 0), (.int .i64 0)] fun h_1 =>
    ldN 4 h_1 t4 fun l_ =>
    tCons l_ fun v l_1 =>
    tInt .i64 v fun v1 =>
    tCons l_1 fun v2 l_2 =>
    tStr v2 fun v3 =>
    tCons l_2 fun v4 l_3 =>
    tInt .i64 v4 fun v5 =>
    tCons l_3 fun v6 l_4 =>
    tInt .i64 v6 fun v7 =>
    tNil l_4 (
      retG (.tuple [(.agg [(.int .i64 v1), (.str v3), (.int .i64 v5), (.int .i64 v7)]), (.bool false)]) h_1 Ψ)) (
    nilCheckA t1 fun p =>
    addOff p 0 fun p1 =>
    ld1 h p1 fun v8 =>
    ixS 4 v8 id_1 fun p2 =>
    ldN 4 h p2 fun l_5 =>
    tCons l_5 fun v9 l_6 =>
    tInt .i64 v9 fun v10 =>
    tCons l_6 fun v11 l_7 =>
    tStr v11 fun v12 =>
    tCons l_7 fun v13 l_8 =>
    tInt .i64 v13 fun v14 =>
    tCons l_8 fun v15 l_9 =>
    tInt .i64 v15 fun v16 =>
    tNil l_9 (
      st false h t4 [(.int .i64 v10), (.str v12), (.int .i64 v14), (.int .i64 v16)] fun h_2 =>
      ldN 4 h_2 t4 fun l_10 =>
      tCons l_10 fun v17 l_11 =>
      tInt .i64 v17 fun v18 =>
      tCons l_11 fun v19 l_12 =>
      tStr v19 fun v20 =>
      tCons l_12 fun v21 l_13 =>
      tInt .i64 v21 fun v22 =>
      tCons l_13 fun v23 l_14 =>
      tInt .i64 v23 fun v24 =>
      tNil l_14 (
        retG (.tuple [(.agg [(.int .i64 v18), (.str v20), (.int .i64 v22), (.int .i64 v24)]), (.bool true)]) h_2 Ψ)))

def s37 (Ψ : AVal → Heap → Prop) (t : AVal) (id_ : Int) (h : Heap) : Prop :=
  Sym.newRow 4 [(.agg [(.int .i64 0), (.str (ByteArray.mk #[])), (.int .i64 0), (.int .i64 0)])] h fun r h_ =>
  callG prog 56 [t] h_ fun v25 h_3 =>
  tBool v25 fun v26 =>
  ifT (!v26) (
    s37c1 Ψ t id_ (.ptr r 0 0) true h_3) (
    callG prog 75 [t, (.int .i64 id_)] h_3 fun v27 h_4 =>
    tBool v27 fun v28 =>
    s37c1 Ψ t id_ (.ptr r 0 0) (!v28) h_4)

def s37_A (Ψ : AVal → Heap → Prop) : Ann :=
  .seq (rA 2)
  (.seq (.cut [(0, .any), (1, .int .i64), (4, .any), (14, .bool)] (fun l h => J.cons l fun x0 l => J.cons l fun v l => J.int .i64 v fun x1 => J.cons l fun x2 l => J.cons l fun v l => J.bool v fun x3 => J.nil l (s37c1 Ψ x0 x1 x2 x3 h)) (.reg [⟨none, [(0, false), (1, false), (2, false), (3, false)]⟩, ⟨some (9, false), [(4, false), (5, false), (6, false), (7, false)]⟩, ⟨none, [(8, false)]⟩])
  (.cond (.seq (rA 3)
  (.leaf))
  (.leaf)))
  (.seq (rA 9)
  (.leaf)))

theorem s37_ok {Ψ : AVal → Heap → Prop} {t : AVal} {id_ : Int} {h : Heap} (H : s37 Ψ t id_ h) : ACalls prog 37 [t, (.int .i64 id_)] h Ψ :=
  calls_of_evF func37 (by kernel_rfl) (by kernel_rfl) (by kernel_rfl)
    (Eq.mpr (by as_aux_lemma => kernel_rfl : oblF prog f37 (s37_A Ψ) Ψ = (True ∧ ((True) ∧ (∀ (h : Heap) (x0 : AVal) (x1 : Int) (x2 : AVal) (x3 : Bool), OI (s37c1 Ψ x0 x1 x2 x3 h)) ∧ ((True ∧ True) ∧ True)) ∧ True ∧ True)) ⟨trivial, ⟨⟨trivial, fun _ _ _ _ _ H => H, ⟨⟨trivial, trivial⟩, trivial⟩⟩, ⟨trivial, trivial⟩⟩⟩)
    (Eq.mpr (by as_aux_lemma => kernel_rfl : evF prog f37 (s37_A Ψ) Ψ [t, (.int .i64 id_)] h = s37 Ψ t id_ h) H)

/- 39 dictum/measure.Atoms -/
abbrev s39l1_T := AVal → AVal → AVal → Int → Int → Heap → Prop
def s39l1_R (F : s39l1_T) (l : List AVal) (h : Heap) : Prop := J.cons l fun x0 l => J.cons l fun x1 l => J.cons l fun x2 l => J.cons l fun v l => J.int .i64 v fun x3 => J.cons l fun v l => J.int .i64 v fun x4 => J.nil l (F x0 x1 x2 x3 x4 h)
def s39l1_G (F : s39l1_T) (x0 x1 x2 : AVal) (x3 x4 : Int) (h : Heap) : Prop := gJ [.any, .any, .any, .int .i64, .int .i64] [x0, x1, x2, (.int .i64 x3), (.int .i64 x4)] h (s39l1_R F)
def s39l1_E (F : Nat → s39l1_T) (x0 x1 x2 : AVal) (x3 x4 : Int) (h : Heap) : Prop := gJ [.any, .any, .any, .int .i64, .int .i64] [x0, x1, x2, (.int .i64 x3), (.int .i64 x4)] h (fun l h => ∃ n, s39l1_R (F n) l h)
theorem s39l1_go {F : s39l1_T} {x0 x1 x2 : AVal} {x3 x4 : Int} {h : Heap} (H : F x0 x1 x2 x3 x4 h) : s39l1_G F x0 x1 x2 x3 x4 h := gJ_plain rfl H
theorem s39l1_in {F : Nat → s39l1_T} {x0 x1 x2 : AVal} {x3 x4 : Int} {h : Heap} (n : Nat) (H : F n x0 x1 x2 x3 x4 h) : s39l1_E F x0 x1 x2 x3 x4 h := gJ_plain rfl ⟨n, H⟩

def s39c2 (Ψ : AVal → Heap → Prop) (L1 : s39l1_T) (t2 out1 t30_1 : AVal) (t31_1 t32_1 : Int) (h : Heap) : Prop :=
  rg (t32_1 + 1) (
    L1 t2 out1 t30_1 t31_1 (t32_1 + 1) h)

def s39l1 (Ψ : AVal → Heap → Prop) : Nat → s39l1_T
  | 0, _, _, _, _, _, _ => False
  | n1 + 1, t1, out, t30, t31, t32, h =>
    ifT (decide (t32 < t31)) (
      ixS 1 t30 t32 fun p =>
      ld1 h p fun v16 =>
      tInt .i64 v16 fun v17 =>
      callG prog 37 [t1, (.int .i64 v17)] h fun v18 h_4 =>
      tTup v18 fun l_11 =>
      tCons l_11 fun v19 l_12 =>
      tCons l_12 fun v20 l_13 =>
      tBool v20 fun v21 =>
      tNil l_13 (
        tAgg v19 fun l_14 =>
        tCons l_14 fun v22 l_15 =>
        tInt .i64 v22 fun v23 =>
        tCons l_15 fun v24 l_16 =>
        tStr v24 fun v25 =>
        tCons l_16 fun v26 l_17 =>
        tInt .i64 v26 fun v27 =>
        tCons l_17 fun v28 l_18 =>
        tInt .i64 v28 fun v29 =>
        tNil l_18 (
          Sym.newRow 4 [(.agg [(.int .i64 0), (.str (ByteArray.mk #[])), (.int .i64 0), (.int .i64 0)])] h_4 fun r1 h_5 =>
          st false h_5 (.ptr r1 0 0) [(.int .i64 v23), (.str v25), (.int .i64 v27), (.int .i64 v29)] fun h_6 =>
          ld1 h_6 (.ptr r1 0 0) fun v30 =>
          tInt .i64 v30 fun v31 =>
          ifT (v31 == 1) (
            ld1 h_6 (.ptr r1 0 1) fun v32 =>
            tStr v32 fun v33 =>
            appC 1 16 h_6 out (.lsl 1 [(.str v33)]) fun v34 h_7 =>
            s39c2 Ψ (s39l1_G (s39l1 Ψ n1)) t1 v34 t30 t31 t32 h_7) (
            s39c2 Ψ (s39l1_G (s39l1 Ψ n1)) t1 out t30 t31 t32 h_6)))) (
      callG prog 79 [out] h fun v35 h_8 =>
      retG (.tuple [out, (.int .i64 0)]) h_8 Ψ)

def s39 (Ψ : AVal → Heap → Prop) (t : AVal) (id_ : Int) (h : Heap) : Prop :=
  callG prog 78 [t, (.int .i64 id_)] h fun v h_ =>
  tTup v fun l_ =>
  tCons l_ fun v1 l_1 =>
  tCons l_1 fun v2 l_2 =>
  tInt .i64 v2 fun v3 =>
  tNil l_2 (
    tAgg v1 fun l_3 =>
    tCons l_3 fun v4 l_4 =>
    tInt .i64 v4 fun v5 =>
    tCons l_4 fun v6 l_5 =>
    tStr v6 fun v7 =>
    tCons l_5 fun v8 l_6 =>
    tInt .i64 v8 fun v9 =>
    tCons l_6 fun v10 l_7 =>
    tInt .i64 v10 fun v11 =>
    tNil l_7 (
      Sym.newRow 4 [(.agg [(.int .i64 0), (.str (ByteArray.mk #[])), (.int .i64 0), (.int .i64 0)])] h_ fun r h_1 =>
      st false h_1 (.ptr r 0 0) [(.int .i64 v5), (.str v7), (.int .i64 v9), (.int .i64 v11)] fun h_2 =>
      ifT (v3 != 0) (
        retG (.tuple [.nilsl, (.int .i64 v3)]) h_2 Ψ) (
        callG prog 40 [t, (.int .i64 id_)] h_2 fun v12 h_3 =>
        tTup v12 fun l_8 =>
        tCons l_8 fun v13 l_9 =>
        tCons l_9 fun v14 l_10 =>
        tInt .i64 v14 fun v15 =>
        tNil l_10 (
          lenN v13 fun n =>
          s39l1_E (s39l1 Ψ) t .nilsl v13 n 0 h_3))))

def s39_A (Ψ : AVal → Heap → Prop) : Ann :=
  .seq (rA 2)
  (.seq (.seq (rA 9)
  (.seq (rA 2)
  (.cond (.seq (rA 3)
  (.leaf))
  (.leaf))))
  (.seq (rA 1)
  (.seq (rA 8)
  (.seq (.seq (rA 3)
  (.block (.loop [(0, .any), (8, .any), (30, .any), (31, .int .i64), (32, .int .i64)] (fun n l h => s39l1_R (s39l1 Ψ n) l h) (fun L1 =>
  .seq (rA 1)
  (.seq (.cond (.leaf)
  (.leaf))
  (.cut [(0, .any), (8, .any), (30, .any), (31, .int .i64), (32, .int .i64)] (fun l h => J.cons l fun x0 l => J.cons l fun x1 l => J.cons l fun x2 l => J.cons l fun v l => J.int .i64 v fun x3 => J.cons l fun v l => J.int .i64 v fun x4 => J.nil l (s39c2 Ψ (fun y0 y1 y2 y3 y4 h => L1 [y0, y1, y2, (.int .i64 y3), (.int .i64 y4)] h) x0 x1 x2 x3 x4 h)) (.block (.seq (rA 3)
  (.seq (rA 9)
  (.seq (rA 3)
  (.cond (.reg [⟨none, [(0, false), (1, false), (2, false), (3, true), (4, false), (5, false)]⟩])
  (.leaf))))))
  (rA 2)))))))
  (.seq (rA 2)
  (.seq (rA 3)
  (.leaf)))))))

theorem s39_ok {Ψ : AVal → Heap → Prop} {t : AVal} {id_ : Int} {h : Heap} (H : s39 Ψ t id_ h) : ACalls prog 39 [t, (.int .i64 id_)] h Ψ :=
  calls_of_evF func39 (by kernel_rfl) (by kernel_rfl) (by kernel_rfl)
    (Eq.mpr (by as_aux_lemma => kernel_rfl : oblF prog f39 (s39_A Ψ) Ψ = (True ∧ (True ∧ True ∧ (True ∧ True) ∧ True) ∧ True ∧ True ∧ (True ∧ (∀ (h : Heap) (x0 x1 x2 : AVal) (x3 x4 : Int), ON (s39l1 Ψ 0 x0 x1 x2 x3 x4 h)) ∧ ∀ n1 : Nat, (∀ (h : Heap) (x0 x1 x2 : AVal) (x3 x4 : Int), OI (s39l1 Ψ (n1 + 1) x0 x1 x2 x3 x4 h)) ∧ (True ∧ (True ∧ True) ∧ (True ∧ True ∧ True ∧ True ∧ True) ∧ (∀ (h : Heap) (x0 x1 x2 : AVal) (x3 x4 : Int), OI (s39c2 Ψ (s39l1_G (s39l1 Ψ n1)) x0 x1 x2 x3 x4 h)) ∧ (True))) ∧ True ∧ True ∧ True)) ⟨trivial, ⟨⟨trivial, ⟨trivial, ⟨⟨trivial, trivial⟩, trivial⟩⟩⟩, ⟨trivial, ⟨trivial, ⟨⟨trivial, ⟨fun _ _ _ _ _ _ H => H, fun _ => ⟨fun _ _ _ _ _ _ H => H, ⟨trivial, ⟨⟨trivial, trivial⟩, ⟨⟨trivial, ⟨trivial, ⟨trivial, ⟨trivial, trivial⟩⟩⟩⟩, fun _ _ _ _ _ _ H => H, trivial⟩⟩⟩⟩⟩⟩, ⟨trivial, ⟨trivial, trivial⟩⟩⟩⟩⟩⟩⟩)
    (Eq.mpr (by as_aux_lemma => kernel_rfl : evF prog f39 (s39_A Ψ) Ψ [t, (.int .i64 id_)] h = s39 Ψ t id_ h) H)

/- 41 dictum/nishimura.meet -/
def s41 (Ψ : AVal → Heap → Prop) (a_all : Bool) (a_low : Int) (a_gap : Bool) (b_all : Bool) (b_low : Int) (b_gap : Bool) (h : Heap) : Prop :=
  Sym.newRow 3 [(.agg [(.bool false), (.int .i64 0), (.bool false)])] h fun r h_ =>
  callG prog 83 [(.agg [(.bool a_all), (.int .i64 a_low), (.bool a_gap)]), (.agg [(.bool b_all), (.int .i64 b_low), (.bool b_gap)])] h_ fun v h_1 =>
  tInt .i64 v fun v1 =>
  callG prog 82 [(.int .i64 v1), (.func (.func 84) [] [(.lptr [(.bool a_all), (.int .i64 a_low), (.bool a_gap)]), (.lptr [(.bool b_all), (.int .i64 b_low), (.bool b_gap)])])] h_1 fun v2 h_2 =>
  tAgg v2 fun l_ =>
  tCons l_ fun v3 l_1 =>
  tBool v3 fun v4 =>
  tCons l_1 fun v5 l_2 =>
  tInt .i64 v5 fun v6 =>
  tCons l_2 fun v7 l_3 =>
  tBool v7 fun v8 =>
  tNil l_3 (
    st false h_2 (.ptr r 0 0) [(.bool v4), (.int .i64 v6), (.bool v8)] fun h_3 =>
    ldN 3 h_3 (.ptr r 0 0) fun l_4 =>
    tCons l_4 fun v9 l_5 =>
    tBool v9 fun v10 =>
    tCons l_5 fun v11 l_6 =>
    tInt .i64 v11 fun v12 =>
    tCons l_6 fun v13 l_7 =>
    tBool v13 fun v14 =>
    tNil l_7 (
      retG (.agg [(.bool v10), (.int .i64 v12), (.bool v14)]) h_3 Ψ))

def s41_A (Ψ : AVal → Heap → Prop) : Ann :=
  .seq (.reg [⟨none, [(0, true), (1, true), (2, false)]⟩])
  (.seq (rA 6)
  (.leaf))

theorem s41_ok {Ψ : AVal → Heap → Prop} {a_all : Bool} {a_low : Int} {a_gap : Bool} {b_all : Bool} {b_low : Int} {b_gap : Bool} {h : Heap} (H : s41 Ψ a_all a_low a_gap b_all b_low b_gap h) : ACalls prog 41 [(.agg [(.bool a_all), (.int .i64 a_low), (.bool a_gap)]), (.agg [(.bool b_all), (.int .i64 b_low), (.bool b_gap)])] h Ψ :=
  calls_of_evF func41 (by kernel_rfl) (by kernel_rfl) (by kernel_rfl)
    (Eq.mpr (by as_aux_lemma => kernel_rfl : oblF prog f41 (s41_A Ψ) Ψ = (True ∧ True ∧ True)) ⟨trivial, ⟨trivial, trivial⟩⟩)
    (Eq.mpr (by as_aux_lemma => kernel_rfl : evF prog f41 (s41_A Ψ) Ψ [(.agg [(.bool a_all), (.int .i64 a_low), (.bool a_gap)]), (.agg [(.bool b_all), (.int .i64 b_low), (.bool b_gap)])] h = s41 Ψ a_all a_low a_gap b_all b_low b_gap h) H)

/- 43 dictum/nishimura.imp -/
abbrev s43l1_T := AVal → AVal → Int → Int → Heap → Prop
def s43l1_R (F : s43l1_T) (l : List AVal) (h : Heap) : Prop := J.cons l fun x0 l => J.cons l fun x1 l => J.cons l fun v l => J.int .i64 v fun x2 => J.cons l fun v l => J.int .i64 v fun x3 => J.nil l (F x0 x1 x2 x3 h)
def s43l1_G (F : s43l1_T) (x0 x1 : AVal) (x2 x3 : Int) (h : Heap) : Prop := gJ [.any, .any, .int .i64, .int .i64] [x0, x1, (.int .i64 x2), (.int .i64 x3)] h (s43l1_R F)
def s43l1_E (F : Nat → s43l1_T) (x0 x1 : AVal) (x2 x3 : Int) (h : Heap) : Prop := gJ [.any, .any, .int .i64, .int .i64] [x0, x1, (.int .i64 x2), (.int .i64 x3)] h (fun l h => ∃ n, s43l1_R (F n) l h)
theorem s43l1_go {F : s43l1_T} {x0 x1 : AVal} {x2 x3 : Int} {h : Heap} (H : F x0 x1 x2 x3 h) : s43l1_G F x0 x1 x2 x3 h := gJ_plain rfl H
theorem s43l1_in {F : Nat → s43l1_T} {x0 x1 : AVal} {x2 x3 : Int} {h : Heap} (n : Nat) (H : F n x0 x1 x2 x3 h) : s43l1_E F x0 x1 x2 x3 h := gJ_plain rfl ⟨n, H⟩

def s43l1 (Ψ : AVal → Heap → Prop) : Nat → s43l1_T
  | 0, _, _, _, _, _ => False
  | n + 1, t4, bars, t10, t11, h =>
    ifT (decide (t11 < t10)) (
      callV prog bars [(.int .i64 t11)] h fun v2 h_2 =>
      tBool v2 fun v3 =>
      ifT v3 (
        rg (t11 + 1) (
          callV prog bars [(.int .i64 (t11 + 1))] h_2 fun v4 h_3 =>
          tBool v4 fun v5 =>
          st false h_3 t4 [(.bool false), (.int .i64 t11), (.bool (!v5))] fun h_4 =>
          ldN 3 h_4 t4 fun l_ =>
          tCons l_ fun v6 l_1 =>
          tBool v6 fun v7 =>
          tCons l_1 fun v8 l_2 =>
          tInt .i64 v8 fun v9 =>
          tCons l_2 fun v10 l_3 =>
          tBool v10 fun v11 =>
          tNil l_3 (
            retG (.agg [(.bool v7), (.int .i64 v9), (.bool v11)]) h_4 Ψ))) (
        rg (t11 + 1) (
          s43l1_G (s43l1 Ψ n) t4 bars t10 (t11 + 1) h_2))) (
      st false h t4 [(.bool true), (.int .i64 0), (.bool false)] fun h_5 =>
      ldN 3 h_5 t4 fun l_4 =>
      tCons l_4 fun v12 l_5 =>
      tBool v12 fun v13 =>
      tCons l_5 fun v14 l_6 =>
      tInt .i64 v14 fun v15 =>
      tCons l_6 fun v16 l_7 =>
      tBool v16 fun v17 =>
      tNil l_7 (
        retG (.agg [(.bool v13), (.int .i64 v15), (.bool v17)]) h_5 Ψ))

def s43 (Ψ : AVal → Heap → Prop) (a_all : Bool) (a_low : Int) (a_gap : Bool) (b_all : Bool) (b_low : Int) (b_gap : Bool) (h : Heap) : Prop :=
  Sym.newRow 3 [(.agg [(.bool false), (.int .i64 0), (.bool false)])] h fun r h_ =>
  callG prog 83 [(.agg [(.bool a_all), (.int .i64 a_low), (.bool a_gap)]), (.agg [(.bool b_all), (.int .i64 b_low), (.bool b_gap)])] h_ fun v h_1 =>
  tInt .i64 v fun v1 =>
  s43l1_E (s43l1 Ψ) (.ptr r 0 0) (.func (.func 87) [] [(.lptr [(.bool a_all), (.int .i64 a_low), (.bool a_gap)]), (.lptr [(.bool b_all), (.int .i64 b_low), (.bool b_gap)])]) v1 0 h_1

def s43_A (Ψ : AVal → Heap → Prop) : Ann :=
  .seq (.reg [⟨none, [(0, true), (1, true), (2, false)]⟩])
  (.seq (rA 2)
  (.seq (.seq (rA 4)
  (.block (.loop [(4, .any), (5, .any), (10, .int .i64), (11, .int .i64)] (fun n l h => s43l1_R (s43l1 Ψ n) l h) (fun L1 =>
  .seq (rA 1)
  (.seq (.cond (.leaf)
  (.leaf))
  (.seq (.block (.seq (rA 2)
  (.seq (rA 3)
  (.cond (.seq (rA 8)
  (.leaf))
  (.leaf)))))
  (rA 2)))))))
  (.seq (rA 2)
  (.leaf))))

theorem s43_ok {Ψ : AVal → Heap → Prop} {a_all : Bool} {a_low : Int} {a_gap : Bool} {b_all : Bool} {b_low : Int} {b_gap : Bool} {h : Heap} (H : s43 Ψ a_all a_low a_gap b_all b_low b_gap h) : ACalls prog 43 [(.agg [(.bool a_all), (.int .i64 a_low), (.bool a_gap)]), (.agg [(.bool b_all), (.int .i64 b_low), (.bool b_gap)])] h Ψ :=
  calls_of_evF func43 (by kernel_rfl) (by kernel_rfl) (by kernel_rfl)
    (Eq.mpr (by as_aux_lemma => kernel_rfl : oblF prog f43 (s43_A Ψ) Ψ = (True ∧ True ∧ (True ∧ (∀ (h : Heap) (x0 x1 : AVal) (x2 x3 : Int), ON (s43l1 Ψ 0 x0 x1 x2 x3 h)) ∧ ∀ n1 : Nat, (∀ (h : Heap) (x0 x1 : AVal) (x2 x3 : Int), OI (s43l1 Ψ (n1 + 1) x0 x1 x2 x3 h)) ∧ (True ∧ (True ∧ True) ∧ (True ∧ True ∧ (True ∧ True) ∧ True) ∧ True)) ∧ True ∧ True)) ⟨trivial, ⟨trivial, ⟨⟨trivial, ⟨fun _ _ _ _ _ H => H, fun _ => ⟨fun _ _ _ _ _ H => H, ⟨trivial, ⟨⟨trivial, trivial⟩, ⟨⟨trivial, ⟨trivial, ⟨⟨trivial, trivial⟩, trivial⟩⟩⟩, trivial⟩⟩⟩⟩⟩⟩, ⟨trivial, trivial⟩⟩⟩⟩)
    (Eq.mpr (by as_aux_lemma => kernel_rfl : evF prog f43 (s43_A Ψ) Ψ [(.agg [(.bool a_all), (.int .i64 a_low), (.bool a_gap)]), (.agg [(.bool b_all), (.int .i64 b_low), (.bool b_gap)])] h = s43 Ψ a_all a_low a_gap b_all b_low b_gap h) H)

/- 49 slices.Equal[[]string,string] -/
abbrev s49l1_T := AVal → AVal → Int → Int → Heap → Prop
def s49l1_R (F : s49l1_T) (l : List AVal) (h : Heap) : Prop := J.cons l fun x0 l => J.cons l fun x1 l => J.cons l fun v l => J.int .i64 v fun x2 => J.cons l fun v l => J.int .i64 v fun x3 => J.nil l (F x0 x1 x2 x3 h)
def s49l1_G (F : s49l1_T) (x0 x1 : AVal) (x2 x3 : Int) (h : Heap) : Prop := gJ [.any, .any, .int .i64, .int .i64] [x0, x1, (.int .i64 x2), (.int .i64 x3)] h (s49l1_R F)
def s49l1_E (F : Nat → s49l1_T) (x0 x1 : AVal) (x2 x3 : Int) (h : Heap) : Prop := gJ [.any, .any, .int .i64, .int .i64] [x0, x1, (.int .i64 x2), (.int .i64 x3)] h (fun l h => ∃ n, s49l1_R (F n) l h)
theorem s49l1_go {F : s49l1_T} {x0 x1 : AVal} {x2 x3 : Int} {h : Heap} (H : F x0 x1 x2 x3 h) : s49l1_G F x0 x1 x2 x3 h := gJ_plain rfl H
theorem s49l1_in {F : Nat → s49l1_T} {x0 x1 : AVal} {x2 x3 : Int} {h : Heap} (n : Nat) (H : F n x0 x1 x2 x3 h) : s49l1_E F x0 x1 x2 x3 h := gJ_plain rfl ⟨n, H⟩

def s49l1 (Ψ : AVal → Heap → Prop) : Nat → s49l1_T
  | 0, _, _, _, _, _ => False
  | n3 + 1, s1_1, s2_1, t12, t13, h =>
    ifT (decide (t13 < t12)) (
      ixS 1 s1_1 t13 fun p =>
      ld1 h p fun v =>
      tStr v fun v1 =>
      ixS 1 s2_1 t13 fun p1 =>
      ld1 h p1 fun v2 =>
      tStr v2 fun v3 =>
      ifT (!strEq v1 v3) (
        retG (.bool false) h Ψ) (
        rg (t13 + 1) (
          s49l1_G (s49l1 Ψ n3) s1_1 s2_1 t12 (t13 + 1) h))) (
      retG (.bool true) h Ψ)

def s49 (Ψ : AVal → Heap → Prop) (s1 : AVal) (s2 : AVal) (h : Heap) : Prop :=
  lenN s1 fun n =>
  lenN s2 fun n1 =>
  ifT (n != n1) (
    retG (.bool false) h Ψ) (
    lenN s1 fun n2 =>
    s49l1_E (s49l1 Ψ) s1 s2 n2 0 h)

def s49_A (Ψ : AVal → Heap → Prop) : Ann :=
  .seq (rA 1)
  (.seq (.seq (rA 5)
  (.cond (.seq (rA 1)
  (.leaf))
  (.leaf)))
  (.seq (.seq (rA 3)
  (.block (.loop [(0, .any), (1, .any), (12, .int .i64), (13, .int .i64)] (fun n l h => s49l1_R (s49l1 Ψ n) l h) (fun L1 =>
  .seq (rA 1)
  (.seq (.cond (.leaf)
  (.leaf))
  (.seq (.block (.seq (rA 2)
  (.seq (.draw [(0, false), (1, false), (2, false), (3, false), (4, false), (5, false), (6, false), (7, false), (8, false)] [0, 0, 3, 7, 0, 0, 48, 112, 255])
  (.cond (.seq (rA 1)
  (.leaf))
  (.leaf)))))
  (rA 2)))))))
  (.seq (rA 1)
  (.leaf))))

theorem s49_ok {Ψ : AVal → Heap → Prop} {s1 : AVal} {s2 : AVal} {h : Heap} (H : s49 Ψ s1 s2 h) : ACalls prog 49 [s1, s2] h Ψ :=
  calls_of_evF func49 (by kernel_rfl) (by kernel_rfl) (by kernel_rfl)
    (Eq.mpr (by as_aux_lemma => kernel_rfl : oblF prog f49 (s49_A Ψ) Ψ = (True ∧ (True ∧ (True ∧ True) ∧ True) ∧ (True ∧ (∀ (h : Heap) (x0 x1 : AVal) (x2 x3 : Int), ON (s49l1 Ψ 0 x0 x1 x2 x3 h)) ∧ ∀ n1 : Nat, (∀ (h : Heap) (x0 x1 : AVal) (x2 x3 : Int), OI (s49l1 Ψ (n1 + 1) x0 x1 x2 x3 h)) ∧ (True ∧ (True ∧ True) ∧ (True ∧ True ∧ (True ∧ True) ∧ True) ∧ True)) ∧ True ∧ True)) ⟨trivial, ⟨⟨trivial, ⟨⟨trivial, trivial⟩, trivial⟩⟩, ⟨⟨trivial, ⟨fun _ _ _ _ _ H => H, fun _ => ⟨fun _ _ _ _ _ H => H, ⟨trivial, ⟨⟨trivial, trivial⟩, ⟨⟨trivial, ⟨trivial, ⟨⟨trivial, trivial⟩, trivial⟩⟩⟩, trivial⟩⟩⟩⟩⟩⟩, ⟨trivial, trivial⟩⟩⟩⟩)
    (Eq.mpr (by as_aux_lemma => kernel_rfl : evF prog f49 (s49_A Ψ) Ψ [s1, s2] h = s49 Ψ s1 s2 h) H)

/- 51 dictum/force.look -/
def s51 (Ψ : AVal → Heap → Prop) (t : AVal) (m_Up : AVal) (m_Val : AVal) (h : Heap) : Prop :=
  callG prog 23 [t] h fun v h_ =>
  nilP v fun b =>
  ifT b (
    retG (.tuple [.nilptr, (.int .i64 1)]) h_ Ψ) (
    callG prog 93 [(.agg [m_Up, m_Val])] h_ fun v1 h_1 =>
    tInt .i64 v1 fun v2 =>
    ifT (v2 != 0) (
      retG (.tuple [.nilptr, (.int .i64 v2)]) h_1 Ψ) (
      ∃ v3, (callG prog 94 [(.agg [m_Up, m_Val])] h_1 fun v h2 => v = v3 ∧ h2 = h_1) ∧
      newMap h_1 fun r h_3 =>
      ((callG prog 94 [(.agg [m_Up, m_Val])] h_3 fun v h2 => v = v3 ∧ h2 = h_3)) ∧
      ((AVal.agg [m_Up, m_Val]) = (.agg [m_Up, m_Val])) ∧
      ((AVal.agg [m_Up, m_Val]) = (.agg [m_Up, m_Val])) ∧
      chk (sc t) (
        chk (sc v3) (
          retG (.tuple [(.lptr [t, m_Up, m_Val, v3, (.mapr r)]), (.int .i64 0)]) h_3 Ψ))))

def s51_A (Ψ : AVal → Heap → Prop) : Ann :=
  .seq (.reg [⟨none, [(0, true), (1, false), (2, false)]⟩])
  (.seq (.seq (rA 3)
  (.cond (.seq (rA 2)
  (.leaf))
  (.leaf)))
  (.seq (.seq (rA 3)
  (.seq (rA 2)
  (.cond (.seq (rA 3)
  (.leaf))
  (.leaf))))
  (.seq (.draw [(0, false), (1, false), (2, false), (3, true), (4, false), (5, false), (6, true), (7, false), (8, false)] [0, 0, 0, 4, 0, 31, 63, 127, 255])
  (.leaf))))

theorem s51_ok {Ψ : AVal → Heap → Prop} {t : AVal} {m_Up : AVal} {m_Val : AVal} {h : Heap} (H : s51 Ψ t m_Up m_Val h) : ACalls prog 51 [t, (.agg [m_Up, m_Val])] h Ψ :=
  calls_of_evF func51 (by kernel_rfl) (by kernel_rfl) (by kernel_rfl)
    (Eq.mpr (by as_aux_lemma => kernel_rfl : oblF prog f51 (s51_A Ψ) Ψ = (True ∧ (True ∧ (True ∧ True) ∧ True) ∧ (True ∧ True ∧ (True ∧ True) ∧ True) ∧ True ∧ True)) ⟨trivial, ⟨⟨trivial, ⟨⟨trivial, trivial⟩, trivial⟩⟩, ⟨⟨trivial, ⟨trivial, ⟨⟨trivial, trivial⟩, trivial⟩⟩⟩, ⟨trivial, trivial⟩⟩⟩⟩)
    (Eq.mpr (by as_aux_lemma => kernel_rfl : evF prog f51 (s51_A Ψ) Ψ [t, (.agg [m_Up, m_Val])] h = s51 Ψ t m_Up m_Val h) H)

/- 53 (*dictum/force.eye).forces -/
def s53c2 (Ψ : AVal → Heap → Prop) (is1 : Bool) (h : Heap) : Prop :=
  retG (.bool is1) h Ψ

def s53c1 (Ψ : AVal → Heap → Prop) (w1 id_1 : Int) (y1 : AVal) (is : Bool) (h : Heap) : Prop :=
  ld1 h y1 fun v16 =>
  nilCheckA v16 fun p4 =>
  addOff p4 4 fun p5 =>
  ld1 h p5 fun v17 =>
  mapPut h v17 (.agg [(.int .i64 w1), (.int .i64 id_1)]) (.int .i64 1) fun h_3 =>
  ifT is (
    ld1 h_3 y1 fun v18 =>
    nilCheckA v18 fun p6 =>
    addOff p6 4 fun p7 =>
    ld1 h_3 p7 fun v19 =>
    mapGet (.int .i64 0) h_3 v19 (.agg [(.int .i64 w1), (.int .i64 id_1)]) fun v20 b1 =>
    tInt .i64 v20 fun v21 =>
    rg (v21 + 1) (
      mapEnt (.int .i64 0) h_3 v19 (.agg [(.int .i64 w1), (.int .i64 id_1)]) fun v22 b2 h_4 =>
      (mapGet (.int .i64 0) h_4 v19 (.agg [(.int .i64 w1), (.int .i64 id_1)]) fun v23 b3 =>
      v23 = (.int .i64 v21)) ∧
      entSt h_4 v19 b2 (.int .i64 (v21 + 1)) fun h_5 =>
      s53c2 Ψ is h_5)) (
    s53c2 Ψ is h_3)

def s53 (Ψ : AVal → Heap → Prop) (y : AVal) (w : Int) (id_ : Int) (h : Heap) : Prop :=
  chk (sc y) (
    nilCheckA y fun p =>
    addOff p 4 fun p1 =>
    ld1 h p1 fun v =>
    mapGet (.int .i64 0) h v (.agg [(.int .i64 w), (.int .i64 id_)]) fun v1 b =>
    tInt .i64 v1 fun v2 =>
    ifT (decide (0 < v2)) (
      retG (.bool (v2 == 2)) h Ψ) (
      nilCheckA y fun p2 =>
      addOff p2 0 fun p3 =>
      ld1 h p3 fun v3 =>
      callG prog 37 [v3, (.int .i64 id_)] h fun v4 h_ =>
      tTup v4 fun l_ =>
      tCons l_ fun v5 l_1 =>
      tCons l_1 fun v6 l_2 =>
      tBool v6 fun v7 =>
      tNil l_2 (
        tAgg v5 fun l_3 =>
        tCons l_3 fun v8 l_4 =>
        tInt .i64 v8 fun v9 =>
        tCons l_4 fun v10 l_5 =>
        tStr v10 fun v11 =>
        tCons l_5 fun v12 l_6 =>
        tInt .i64 v12 fun v13 =>
        tCons l_6 fun v14 l_7 =>
        tInt .i64 v14 fun v15 =>
        tNil l_7 (
          Sym.newRow 4 [(.agg [(.int .i64 0), (.str (ByteArray.mk #[])), (.int .i64 0), (.int .i64 0)])] h_ fun r h_1 =>
          st false h_1 (.ptr r 0 0) [(.int .i64 v9), (.str v11), (.int .i64 v13), (.int .i64 v15)] fun h_2 =>
          ld1 h_2 (.ptr r 0 0) fun v24 =>
          tInt .i64 v24 fun v25 =>
          ifT (v25 == 1) (
            nilCheckA y fun p8 =>
            addOff p8 1 fun p9 =>
            addOff p9 1 fun p10 =>
            ld1 h_2 p10 fun v26 =>
            ixS 1 v26 w fun p11 =>
            ld1 h_2 p11 fun v27 =>
            ld1 h_2 (.ptr r 0 1) fun v28 =>
            tStr v28 fun v29 =>
            callG prog 95 [v27, (.str v29)] h_2 fun v30 h_6 =>
            tBool v30 fun v31 =>
            s53c1 Ψ w id_ (.lptr [y]) v31 h_6) (
            ifT (v25 == 3) (
              ld1 h_2 (.ptr r 0 2) fun v32 =>
              tInt .i64 v32 fun v33 =>
              callG prog 53 [y, (.int .i64 w), (.int .i64 v33)] h_2 fun v34 h_7 =>
              tBool v34 fun v35 =>
              ifT v35 (
                ld1 h_7 (.ptr r 0 3) fun v36 =>
                tInt .i64 v36 fun v37 =>
                callG prog 53 [y, (.int .i64 w), (.int .i64 v37)] h_7 fun v38 h_8 =>
                tBool v38 fun v39 =>
                s53c1 Ψ w id_ (.lptr [y]) v39 h_8) (
                s53c1 Ψ w id_ (.lptr [y]) false h_7)) (
              ifT (v25 == 4) (
                ld1 h_2 (.ptr r 0 2) fun v40 =>
                tInt .i64 v40 fun v41 =>
                callG prog 53 [y, (.int .i64 w), (.int .i64 v41)] h_2 fun v42 h_9 =>
                tBool v42 fun v43 =>
                ifT v43 (
                  s53c1 Ψ w id_ (.lptr [y]) true h_9) (
                  ld1 h_9 (.ptr r 0 3) fun v44 =>
                  tInt .i64 v44 fun v45 =>
                  callG prog 53 [y, (.int .i64 w), (.int .i64 v45)] h_9 fun v46 h_10 =>
                  tBool v46 fun v47 =>
                  s53c1 Ψ w id_ (.lptr [y]) v47 h_10)) (
                ifT (v25 == 5) (
                  nilCheckA y fun p12 =>
                  addOff p12 3 fun p13 =>
                  ld1 h_2 p13 fun v48 =>
                  ixS 1 v48 w fun p14 =>
                  ld1 h_2 p14 fun v49 =>
                  callG prog 96 [v49, (.func (.func 97) [] [(.lptr [y]), (.ptr r 0 0)])] h_2 fun v50 h_11 =>
                  tBool v50 fun v51 =>
                  s53c1 Ψ w id_ (.lptr [y]) (!v51) h_11) (
                  s53c1 Ψ w id_ (.lptr [y]) false h_2))))))))

def s53_A (Ψ : AVal → Heap → Prop) : Ann :=
  .seq (.reg [⟨none, [(0, true), (1, false)]⟩])
  (.seq (.seq (rA 9)
  (.seq (rA 2)
  (.cond (.seq (rA 3)
  (.leaf))
  (.leaf))))
  (.seq (rA 12)
  (.seq (rA 1)
  (.cut [(1, .int .i64), (2, .int .i64), (3, .any), (10, .bool)] (fun l h => J.cons l fun v l => J.int .i64 v fun x0 => J.cons l fun v l => J.int .i64 v fun x1 => J.cons l fun x2 l => J.cons l fun v l => J.bool v fun x3 => J.nil l (s53c1 Ψ x0 x1 x2 x3 h)) (.seq (rA 2)
  (.block (.seq (rA 2)
  (.cond (.draw [(0, false), (1, false), (2, false), (3, false), (4, false), (5, false), (6, false), (7, false), (8, false), (9, false), (10, false), (11, false)] [0, 1, 3, 7, 15, 0, 63, 127, 0, 256, 1023, 2047])
  (.seq (rA 2)
  (.cond (.reg [⟨none, [(0, false), (1, false), (2, false), (3, false), (4, false), (5, false)]⟩, ⟨some (54, true), [(6, false), (7, false), (8, false), (9, false), (10, false)]⟩, ⟨none, [(11, false), (12, false)]⟩])
  (.seq (rA 2)
  (.cond (.reg [⟨none, [(0, false), (1, false), (2, false), (3, false), (4, false), (5, false)]⟩, ⟨some (68, false), [(6, false), (7, false), (8, false), (9, false), (10, false)]⟩, ⟨none, [(11, false), (12, false)]⟩])
  (.seq (rA 2)
  (.cond (rA 11)
  (.leaf)))))))))))
  (.seq (rA 8)
  (.cut [(10, .bool)] (fun l h => J.cons l fun v l => J.bool v fun x0 => J.nil l (s53c2 Ψ x0 h)) (.seq (rA 1)
  (.cond (.draw [(0, false), (1, false), (2, false), (3, false), (4, false), (5, false), (6, false), (7, false), (8, false), (9, false), (10, false), (11, false)] [0, 1, 3, 7, 0, 0, 48, 127, 255, 127, 639, 2047])
  (.leaf)))
  (.seq (rA 2)
  (.leaf))))))))

theorem s53_ok {Ψ : AVal → Heap → Prop} {y : AVal} {w : Int} {id_ : Int} {h : Heap} (H : s53 Ψ y w id_ h) : ACalls prog 53 [y, (.int .i64 w), (.int .i64 id_)] h Ψ :=
  calls_of_evF func53 (by kernel_rfl) (by kernel_rfl) (by kernel_rfl)
    (Eq.mpr (by as_aux_lemma => kernel_rfl : oblF prog f53 (s53_A Ψ) Ψ = (True ∧ (True ∧ True ∧ (True ∧ True) ∧ True) ∧ True ∧ True ∧ (True ∧ True ∧ True ∧ True ∧ True ∧ True ∧ True ∧ True ∧ True ∧ True) ∧ (∀ (h : Heap) (x0 x1 : Int) (x2 : AVal) (x3 : Bool), OI (s53c1 Ψ x0 x1 x2 x3 h)) ∧ (True ∧ (True ∧ True ∧ True) ∧ (∀ (h : Heap) (x0 : Bool), OI (s53c2 Ψ x0 h)) ∧ (True ∧ True)))) ⟨trivial, ⟨⟨trivial, ⟨trivial, ⟨⟨trivial, trivial⟩, trivial⟩⟩⟩, ⟨trivial, ⟨trivial, ⟨⟨trivial, ⟨trivial, ⟨trivial, ⟨trivial, ⟨trivial, ⟨trivial, ⟨trivial, ⟨trivial, ⟨trivial, trivial⟩⟩⟩⟩⟩⟩⟩⟩⟩, fun _ _ _ _ _ H => H, ⟨trivial, ⟨⟨trivial, ⟨trivial, trivial⟩⟩, fun _ _ H => H, ⟨trivial, trivial⟩⟩⟩⟩⟩⟩⟩⟩)
    (Eq.mpr (by as_aux_lemma => kernel_rfl : evF prog f53 (s53_A Ψ) Ψ [y, (.int .i64 w), (.int .i64 id_)] h = s53 Ψ y w id_ h) H)

/- 55 dictum/formula.From -/
abbrev s55l1_T := AVal → AVal → Int → Int → Heap → Prop
def s55l1_R (F : s55l1_T) (l : List AVal) (h : Heap) : Prop := J.cons l fun x0 l => J.cons l fun x1 l => J.cons l fun v l => J.int .i64 v fun x2 => J.cons l fun v l => J.int .i64 v fun x3 => J.nil l (F x0 x1 x2 x3 h)
def s55l1_G (F : s55l1_T) (x0 x1 : AVal) (x2 x3 : Int) (h : Heap) : Prop := gJ [.any, .any, .int .i64, .int .i64] [x0, x1, (.int .i64 x2), (.int .i64 x3)] h (s55l1_R F)
def s55l1_E (F : Nat → s55l1_T) (x0 x1 : AVal) (x2 x3 : Int) (h : Heap) : Prop := gJ [.any, .any, .int .i64, .int .i64] [x0, x1, (.int .i64 x2), (.int .i64 x3)] h (fun l h => ∃ n, s55l1_R (F n) l h)
theorem s55l1_go {F : s55l1_T} {x0 x1 : AVal} {x2 x3 : Int} {h : Heap} (H : F x0 x1 x2 x3 h) : s55l1_G F x0 x1 x2 x3 h := gJ_plain rfl H
theorem s55l1_in {F : Nat → s55l1_T} {x0 x1 : AVal} {x2 x3 : Int} {h : Heap} (n : Nat) (H : F n x0 x1 x2 x3 h) : s55l1_E F x0 x1 x2 x3 h := gJ_plain rfl ⟨n, H⟩

def s55c2 (Ψ : AVal → Heap → Prop) (L1 : s55l1_T) (t1 : AVal) (e : Int) (t10_1 : AVal) (t11_1 t12_1 : Int) (h : Heap) : Prop :=
  ifT (e != 0) (
    retG (.tuple [.nilptr, (.int .i64 e)]) h Ψ) (
    rg (t12_1 + 1) (
      L1 t1 t10_1 t11_1 (t12_1 + 1) h))

def s55c3 (Ψ : AVal → Heap → Prop) (L1 : s55l1_T) (t2 : AVal) (e1 : Int) (t10_2 : AVal) (t11_2 t12_2 : Int) (t29 : Bool) (h : Heap) : Prop :=
  ifT t29 (
    s55c2 Ψ L1 t2 31 t10_2 t11_2 t12_2 h) (
    s55c2 Ψ L1 t2 e1 t10_2 t11_2 t12_2 h)

def s55l1 (Ψ : AVal → Heap → Prop) : Nat → s55l1_T
  | 0, _, _, _, _, _ => False
  | n1 + 1, t, t10, t11, t12, h =>
    ifT (decide (t12 < t11)) (
      ixS 4 t10 t12 fun p =>
      ldN 4 h p fun l_ =>
      tCons l_ fun v1 l_1 =>
      tInt .i64 v1 fun v2 =>
      tCons l_1 fun v3 l_2 =>
      tStr v3 fun v4 =>
      tCons l_2 fun v5 l_3 =>
      tInt .i64 v5 fun v6 =>
      tCons l_3 fun v7 l_4 =>
      tInt .i64 v7 fun v8 =>
      tNil l_4 (
        Sym.newRow 4 [(.agg [(.int .i64 0), (.str (ByteArray.mk #[])), (.int .i64 0), (.int .i64 0)])] h fun r h_1 =>
        st false h_1 (.ptr r 0 0) [(.int .i64 v2), (.str v4), (.int .i64 v6), (.int .i64 v8)] fun h_2 =>
        ldN 4 h_2 (.ptr r 0 0) fun l_5 =>
        tCons l_5 fun v9 l_6 =>
        tInt .i64 v9 fun v10 =>
        tCons l_6 fun v11 l_7 =>
        tStr v11 fun v12 =>
        tCons l_7 fun v13 l_8 =>
        tInt .i64 v13 fun v14 =>
        tCons l_8 fun v15 l_9 =>
        tInt .i64 v15 fun v16 =>
        tNil l_9 (
          callG prog 99 [t, (.agg [(.int .i64 v10), (.str v12), (.int .i64 v14), (.int .i64 v16)])] h_2 fun v17 h_3 =>
          tTup v17 fun l_10 =>
          tCons l_10 fun v18 l_11 =>
          tInt .i64 v18 fun v19 =>
          tCons l_11 fun v20 l_12 =>
          tInt .i64 v20 fun v21 =>
          tNil l_12 (
            ifT (v21 == 0) (
              s55c3 Ψ (s55l1_G (s55l1 Ψ n1)) t v21 t10 t11 t12 (v19 != t12) h_3) (
              s55c3 Ψ (s55l1_G (s55l1 Ψ n1)) t v21 t10 t11 t12 false h_3))))) (
      retG (.tuple [t, (.int .i64 0)]) h Ψ)

def s55 (Ψ : AVal → Heap → Prop) (rows : AVal) (h : Heap) : Prop :=
  callG prog 22 [] h fun v h_ =>
  lenN rows fun n =>
  s55l1_E (s55l1 Ψ) v rows n 0 h_

def s55_A (Ψ : AVal → Heap → Prop) : Ann :=
  .seq (rA 2)
  (.seq (rA 2)
  (.seq (.seq (rA 3)
  (.block (.loop [(4, .any), (10, .any), (11, .int .i64), (12, .int .i64)] (fun n l h => s55l1_R (s55l1 Ψ n) l h) (fun L1 =>
  .seq (rA 1)
  (.seq (.cond (.leaf)
  (.leaf))
  (.seq (.block (.seq (rA 6)
  (.seq (rA 8)
  (.cut [(4, .any), (8, .int .i64), (10, .any), (11, .int .i64), (12, .int .i64)] (fun l h => J.cons l fun x0 l => J.cons l fun v l => J.int .i64 v fun x1 => J.cons l fun x2 l => J.cons l fun v l => J.int .i64 v fun x3 => J.cons l fun v l => J.int .i64 v fun x4 => J.nil l (s55c2 Ψ (fun y0 y1 y2 y3 h => L1 [y0, y1, (.int .i64 y2), (.int .i64 y3)] h) x0 x1 x2 x3 x4 h)) (.cut [(4, .any), (8, .int .i64), (10, .any), (11, .int .i64), (12, .int .i64), (29, .bool)] (fun l h => J.cons l fun x0 l => J.cons l fun v l => J.int .i64 v fun x1 => J.cons l fun x2 l => J.cons l fun v l => J.int .i64 v fun x3 => J.cons l fun v l => J.int .i64 v fun x4 => J.cons l fun v l => J.bool v fun x5 => J.nil l (s55c3 Ψ (fun y0 y1 y2 y3 h => L1 [y0, y1, (.int .i64 y2), (.int .i64 y3)] h) x0 x1 x2 x3 x4 x5 h)) (.reg [⟨none, [(0, false), (1, false), (2, false)]⟩, ⟨some (25, true), [(3, false), (4, false), (5, false)]⟩, ⟨none, [(6, false)]⟩])
  (.cond (rA 1)
  (.leaf)))
  (.seq (rA 2)
  (.cond (.seq (rA 3)
  (.leaf))
  (.leaf)))))))
  (rA 2)))))))
  (.seq (rA 3)
  (.leaf))))

theorem s55_ok {Ψ : AVal → Heap → Prop} {rows : AVal} {h : Heap} (H : s55 Ψ rows h) : ACalls prog 55 [rows] h Ψ :=
  calls_of_evF func55 (by kernel_rfl) (by kernel_rfl) (by kernel_rfl)
    (Eq.mpr (by as_aux_lemma => kernel_rfl : oblF prog f55 (s55_A Ψ) Ψ = (True ∧ True ∧ (True ∧ (∀ (h : Heap) (x0 x1 : AVal) (x2 x3 : Int), ON (s55l1 Ψ 0 x0 x1 x2 x3 h)) ∧ ∀ n1 : Nat, (∀ (h : Heap) (x0 x1 : AVal) (x2 x3 : Int), OI (s55l1 Ψ (n1 + 1) x0 x1 x2 x3 h)) ∧ (True ∧ (True ∧ True) ∧ (True ∧ True ∧ ((True) ∧ (∀ (h : Heap) (x0 : AVal) (x1 : Int) (x2 : AVal) (x3 x4 : Int) (x5 : Bool), OI (s55c3 Ψ (s55l1_G (s55l1 Ψ n1)) x0 x1 x2 x3 x4 x5 h)) ∧ (True ∧ True)) ∧ (∀ (h : Heap) (x0 : AVal) (x1 : Int) (x2 : AVal) (x3 x4 : Int), OI (s55c2 Ψ (s55l1_G (s55l1 Ψ n1)) x0 x1 x2 x3 x4 h)) ∧ (True ∧ (True ∧ True) ∧ True)) ∧ True)) ∧ True ∧ True)) ⟨trivial, ⟨trivial, ⟨⟨trivial, ⟨fun _ _ _ _ _ H => H, fun _ => ⟨fun _ _ _ _ _ H => H, ⟨trivial, ⟨⟨trivial, trivial⟩, ⟨⟨trivial, ⟨trivial, ⟨⟨trivial, fun _ _ _ _ _ _ _ H => H, ⟨trivial, trivial⟩⟩, fun _ _ _ _ _ _ H => H, ⟨trivial, ⟨⟨trivial, trivial⟩, trivial⟩⟩⟩⟩⟩, trivial⟩⟩⟩⟩⟩⟩, ⟨trivial, trivial⟩⟩⟩⟩)
    (Eq.mpr (by as_aux_lemma => kernel_rfl : evF prog f55 (s55_A Ψ) Ψ [rows] h = s55 Ψ rows h) H)

/- 57 dictum/formula.reserved -/
def s57c1 (Ψ : AVal → Heap → Prop) (t4 : Bool) (h : Heap) : Prop :=
  ifT t4 (
    retG (.bool true) h Ψ) (
    retG (.bool false) h Ψ)

def s57 (Ψ : AVal → Heap → Prop) (s : ByteArray) (h : Heap) : Prop :=
  ifT (strEq s (ByteArray.mk #[97, 98, 111, 114, 116])) (
    s57c1 Ψ (strEq s (ByteArray.mk #[97, 98, 111, 114, 116])) h) (
    ifT (strEq s (ByteArray.mk #[99, 97, 115, 101])) (
      s57c1 Ψ (strEq s (ByteArray.mk #[99, 97, 115, 101])) h) (
      ifT (strEq s (ByteArray.mk #[102, 97, 108, 115, 101])) (
        s57c1 Ψ (strEq s (ByteArray.mk #[102, 97, 108, 115, 101])) h) (
        ifT (strEq s (ByteArray.mk #[102, 115, 116])) (
          s57c1 Ψ (strEq s (ByteArray.mk #[102, 115, 116])) h) (
          ifT (strEq s (ByteArray.mk #[102, 117, 110])) (
            s57c1 Ψ (strEq s (ByteArray.mk #[102, 117, 110])) h) (
            ifT (strEq s (ByteArray.mk #[105, 110])) (
              s57c1 Ψ (strEq s (ByteArray.mk #[105, 110])) h) (
              ifT (strEq s (ByteArray.mk #[105, 110, 108])) (
                s57c1 Ψ (strEq s (ByteArray.mk #[105, 110, 108])) h) (
                ifT (strEq s (ByteArray.mk #[105, 110, 114])) (
                  s57c1 Ψ (strEq s (ByteArray.mk #[105, 110, 114])) h) (
                  ifT (strEq s (ByteArray.mk #[108, 101, 116])) (
                    s57c1 Ψ (strEq s (ByteArray.mk #[108, 101, 116])) h) (
                    ifT (strEq s (ByteArray.mk #[111, 102])) (
                      s57c1 Ψ (strEq s (ByteArray.mk #[111, 102])) h) (
                      ifT (strEq s (ByteArray.mk #[115, 110, 100])) (
                        s57c1 Ψ (strEq s (ByteArray.mk #[115, 110, 100])) h) (
                        s57c1 Ψ (strEq s (ByteArray.mk #[116, 114, 117, 101])) h)))))))))))

def s57_A (Ψ : AVal → Heap → Prop) : Ann :=
  .seq (rA 1)
  (.seq (.seq (rA 1)
  (.block (.cut [(4, .bool)] (fun l h => J.cons l fun v l => J.bool v fun x0 => J.nil l (s57c1 Ψ x0 h)) (.seq (rA 2)
  (.cond (.leaf)
  (.seq (rA 2)
  (.cond (.leaf)
  (.seq (rA 2)
  (.cond (.leaf)
  (.seq (rA 2)
  (.cond (.leaf)
  (.seq (rA 2)
  (.cond (.leaf)
  (.seq (rA 2)
  (.cond (.leaf)
  (.seq (rA 2)
  (.cond (.leaf)
  (.seq (rA 2)
  (.cond (.leaf)
  (.seq (rA 2)
  (.cond (.leaf)
  (.seq (rA 2)
  (.cond (.leaf)
  (.seq (rA 2)
  (.cond (.leaf)
  (rA 2)))))))))))))))))))))))
  (.cond (.seq (rA 1)
  (.leaf))
  (.leaf)))))
  (.seq (rA 1)
  (.leaf)))

theorem s57_ok {Ψ : AVal → Heap → Prop} {s : ByteArray} {h : Heap} (H : s57 Ψ s h) : ACalls prog 57 [(.str s)] h Ψ :=
  calls_of_evF func57 (by kernel_rfl) (by kernel_rfl) (by kernel_rfl)
    (Eq.mpr (by as_aux_lemma => kernel_rfl : oblF prog f57 (s57_A Ψ) Ψ = (True ∧ (True ∧ (True ∧ True ∧ True ∧ True ∧ True ∧ True ∧ True ∧ True ∧ True ∧ True ∧ True ∧ True ∧ True ∧ True ∧ True ∧ True ∧ True ∧ True ∧ True ∧ True ∧ True ∧ True ∧ True) ∧ (∀ (h : Heap) (x0 : Bool), OI (s57c1 Ψ x0 h)) ∧ ((True ∧ True) ∧ True)) ∧ True ∧ True)) ⟨trivial, ⟨⟨trivial, ⟨⟨trivial, ⟨trivial, ⟨trivial, ⟨trivial, ⟨trivial, ⟨trivial, ⟨trivial, ⟨trivial, ⟨trivial, ⟨trivial, ⟨trivial, ⟨trivial, ⟨trivial, ⟨trivial, ⟨trivial, ⟨trivial, ⟨trivial, ⟨trivial, ⟨trivial, ⟨trivial, ⟨trivial, ⟨trivial, trivial⟩⟩⟩⟩⟩⟩⟩⟩⟩⟩⟩⟩⟩⟩⟩⟩⟩⟩⟩⟩⟩⟩, fun _ _ H => H, ⟨⟨trivial, trivial⟩, trivial⟩⟩⟩, ⟨trivial, trivial⟩⟩⟩)
    (Eq.mpr (by as_aux_lemma => kernel_rfl : evF prog f57 (s57_A Ψ) Ψ [(.str s)] h = s57 Ψ s h) H)

/- 59 (*dictum/formula.Table).Imp -/
def s59 (Ψ : AVal → Heap → Prop) (t : AVal) (a : Int) (b : Int) (h : Heap) : Prop :=
  callG prog 99 [t, (.agg [(.int .i64 5), (.str (ByteArray.mk #[])), (.int .i64 a), (.int .i64 b)])] h fun v h_ =>
  tTup v fun l_ =>
  tCons l_ fun v1 l_1 =>
  tInt .i64 v1 fun v2 =>
  tCons l_1 fun v3 l_2 =>
  tInt .i64 v3 fun v4 =>
  tNil l_2 (
    retG (.tuple [(.int .i64 v2), (.int .i64 v4)]) h_ Ψ)

def s59_A (Ψ : AVal → Heap → Prop) : Ann :=
  .seq (rA 2)
  (.seq (rA 9)
  (.leaf))

theorem s59_ok {Ψ : AVal → Heap → Prop} {t : AVal} {a : Int} {b : Int} {h : Heap} (H : s59 Ψ t a b h) : ACalls prog 59 [t, (.int .i64 a), (.int .i64 b)] h Ψ :=
  calls_of_evF func59 (by kernel_rfl) (by kernel_rfl) (by kernel_rfl)
    (Eq.mpr (by as_aux_lemma => kernel_rfl : oblF prog f59 (s59_A Ψ) Ψ = (True ∧ True ∧ True)) ⟨trivial, ⟨trivial, trivial⟩⟩)
    (Eq.mpr (by as_aux_lemma => kernel_rfl : evF prog f59 (s59_A Ψ) Ψ [t, (.int .i64 a), (.int .i64 b)] h = s59 Ψ t a b h) H)

/- 61 (*dictum/formula.Table).Not -/
def s61 (Ψ : AVal → Heap → Prop) (t : AVal) (a : Int) (h : Heap) : Prop :=
  callG prog 56 [t] h fun v h_ =>
  tBool v fun v1 =>
  ifT (!v1) (
    retG (.tuple [(.int .i64 0), (.int .i64 1)]) h_ Ψ) (
    callG prog 75 [t, (.int .i64 a)] h_ fun v2 h_1 =>
    tBool v2 fun v3 =>
    ifT (!v3) (
      retG (.tuple [(.int .i64 0), (.int .i64 31)]) h_1 Ψ) (
      callG prog 58 [t] h_1 fun v4 h_2 =>
      tTup v4 fun l_ =>
      tCons l_ fun v5 l_1 =>
      tInt .i64 v5 fun v6 =>
      tCons l_1 fun v7 l_2 =>
      tInt .i64 v7 fun v8 =>
      tNil l_2 (
        ifT (v8 != 0) (
          retG (.tuple [(.int .i64 0), (.int .i64 v8)]) h_2 Ψ) (
          callG prog 59 [t, (.int .i64 a), (.int .i64 v6)] h_2 fun v9 h_3 =>
          tTup v9 fun l_3 =>
          tCons l_3 fun v10 l_4 =>
          tInt .i64 v10 fun v11 =>
          tCons l_4 fun v12 l_5 =>
          tInt .i64 v12 fun v13 =>
          tNil l_5 (
            retG (.tuple [(.int .i64 v11), (.int .i64 v13)]) h_3 Ψ)))))

def s61_A (Ψ : AVal → Heap → Prop) : Ann :=
  .seq (rA 2)
  (.seq (.block (.seq (rA 4)
  (.cond (.seq (rA 2)
  (.leaf))
  (.seq (rA 5)
  (.cond (.seq (rA 2)
  (.leaf))
  (.leaf))))))
  (.seq (rA 7)
  (.seq (.seq (rA 2)
  (.cond (.seq (rA 3)
  (.leaf))
  (.leaf)))
  (.seq (rA 8)
  (.leaf)))))

theorem s61_ok {Ψ : AVal → Heap → Prop} {t : AVal} {a : Int} {h : Heap} (H : s61 Ψ t a h) : ACalls prog 61 [t, (.int .i64 a)] h Ψ :=
  calls_of_evF func61 (by kernel_rfl) (by kernel_rfl) (by kernel_rfl)
    (Eq.mpr (by as_aux_lemma => kernel_rfl : oblF prog f61 (s61_A Ψ) Ψ = (True ∧ (True ∧ (True ∧ True) ∧ True ∧ (True ∧ True) ∧ True) ∧ True ∧ (True ∧ (True ∧ True) ∧ True) ∧ True ∧ True)) ⟨trivial, ⟨⟨trivial, ⟨⟨trivial, trivial⟩, ⟨trivial, ⟨⟨trivial, trivial⟩, trivial⟩⟩⟩⟩, ⟨trivial, ⟨⟨trivial, ⟨⟨trivial, trivial⟩, trivial⟩⟩, ⟨trivial, trivial⟩⟩⟩⟩⟩)
    (Eq.mpr (by as_aux_lemma => kernel_rfl : evF prog f61 (s61_A Ψ) Ψ [t, (.int .i64 a)] h = s61 Ψ t a h) H)

/- 63 dictum/dictumref03.letter -/
def s63 (Ψ : AVal → Heap → Prop) (c : Int) (h : Heap) : Prop :=
  ifT (decide (97 ≤ c)) (
    ifT (decide (c ≤ 122)) (
      retG (.bool true) h Ψ) (
      ifT (decide (65 ≤ c)) (
        retG (.bool (decide (c ≤ 90))) h Ψ) (
        retG (.bool false) h Ψ))) (
    ifT (decide (65 ≤ c)) (
      retG (.bool (decide (c ≤ 90))) h Ψ) (
      retG (.bool false) h Ψ))

def s63_A (Ψ : AVal → Heap → Prop) : Ann :=
  .seq (rA 1)
  (.seq (.reg [⟨none, [(0, false), (1, false), (2, false)]⟩, ⟨some (5, true), [(3, false), (4, false)]⟩, ⟨none, [(5, false), (6, false)]⟩, ⟨some (9, false), [(7, false), (8, false), (9, false)]⟩, ⟨some (12, true), [(10, false), (11, false)]⟩, ⟨some (9, false), [(12, false)]⟩, ⟨none, [(13, false), (14, false)]⟩])
  (.leaf))

theorem s63_ok {Ψ : AVal → Heap → Prop} {c : Int} {h : Heap} (H : s63 Ψ c h) : ACalls prog 63 [(.int .u8 c)] h Ψ :=
  calls_of_evF func63 (by kernel_rfl) (by kernel_rfl) (by kernel_rfl)
    (Eq.mpr (by as_aux_lemma => kernel_rfl : oblF prog f63 (s63_A Ψ) Ψ = (True ∧ True ∧ True)) ⟨trivial, ⟨trivial, trivial⟩⟩)
    (Eq.mpr (by as_aux_lemma => kernel_rfl : evF prog f63 (s63_A Ψ) Ψ [(.int .u8 c)] h = s63 Ψ c h) H)

/- 65 (*dictum/dictumref03.T).Bot -/
def s65 (Ψ : AVal → Heap → Prop) (t : AVal) (h : Heap) : Prop :=
  callG prog 98 [t, (.agg [(.int .i64 2), (.str (ByteArray.mk #[])), (.int .i64 0), (.int .i64 0)])] h fun v h_ =>
  tTup v fun l_ =>
  tCons l_ fun v1 l_1 =>
  tInt .i64 v1 fun v2 =>
  tCons l_1 fun v3 l_2 =>
  tInt .i64 v3 fun v4 =>
  tNil l_2 (
    retG (.tuple [(.int .i64 v2), (.int .i64 v4)]) h_ Ψ)

def s65_A (Ψ : AVal → Heap → Prop) : Ann :=
  .seq (rA 2)
  (.seq (rA 7)
  (.leaf))

theorem s65_ok {Ψ : AVal → Heap → Prop} {t : AVal} {h : Heap} (H : s65 Ψ t h) : ACalls prog 65 [t] h Ψ :=
  calls_of_evF func65 (by kernel_rfl) (by kernel_rfl) (by kernel_rfl)
    (Eq.mpr (by as_aux_lemma => kernel_rfl : oblF prog f65 (s65_A Ψ) Ψ = (True ∧ True ∧ True)) ⟨trivial, ⟨trivial, trivial⟩⟩)
    (Eq.mpr (by as_aux_lemma => kernel_rfl : evF prog f65 (s65_A Ψ) Ψ [t] h = s65 Ψ t h) H)

/- 67 (*dictum/dictumref03.T).Atom -/
def s67 (Ψ : AVal → Heap → Prop) (t : AVal) (name : ByteArray) (h : Heap) : Prop :=
  callG prog 98 [t, (.agg [(.int .i64 1), (.str name), (.int .i64 0), (.int .i64 0)])] h fun v h_ =>
  tTup v fun l_ =>
  tCons l_ fun v1 l_1 =>
  tInt .i64 v1 fun v2 =>
  tCons l_1 fun v3 l_2 =>
  tInt .i64 v3 fun v4 =>
  tNil l_2 (
    retG (.tuple [(.int .i64 v2), (.int .i64 v4)]) h_ Ψ)

def s67_A (Ψ : AVal → Heap → Prop) : Ann :=
  .seq (rA 2)
  (.seq (rA 8)
  (.leaf))

theorem s67_ok {Ψ : AVal → Heap → Prop} {t : AVal} {name : ByteArray} {h : Heap} (H : s67 Ψ t name h) : ACalls prog 67 [t, (.str name)] h Ψ :=
  calls_of_evF func67 (by kernel_rfl) (by kernel_rfl) (by kernel_rfl)
    (Eq.mpr (by as_aux_lemma => kernel_rfl : oblF prog f67 (s67_A Ψ) Ψ = (True ∧ True ∧ True)) ⟨trivial, ⟨trivial, trivial⟩⟩)
    (Eq.mpr (by as_aux_lemma => kernel_rfl : evF prog f67 (s67_A Ψ) Ψ [t, (.str name)] h = s67 Ψ t name h) H)

/- 69 (*dictum/dictumref03.T).Two -/
def s69 (Ψ : AVal → Heap → Prop) (t : AVal) (k : Int) (a : Int) (b : Int) (h : Heap) : Prop :=
  callG prog 98 [t, (.agg [(.int .i64 k), (.str (ByteArray.mk #[])), (.int .i64 a), (.int .i64 b)])] h fun v h_ =>
  tTup v fun l_ =>
  tCons l_ fun v1 l_1 =>
  tInt .i64 v1 fun v2 =>
  tCons l_1 fun v3 l_2 =>
  tInt .i64 v3 fun v4 =>
  tNil l_2 (
    retG (.tuple [(.int .i64 v2), (.int .i64 v4)]) h_ Ψ)

def s69_A (Ψ : AVal → Heap → Prop) : Ann :=
  .seq (rA 2)
  (.seq (rA 10)
  (.leaf))

theorem s69_ok {Ψ : AVal → Heap → Prop} {t : AVal} {k : Int} {a : Int} {b : Int} {h : Heap} (H : s69 Ψ t k a b h) : ACalls prog 69 [t, (.int .i64 k), (.int .i64 a), (.int .i64 b)] h Ψ :=
  calls_of_evF func69 (by kernel_rfl) (by kernel_rfl) (by kernel_rfl)
    (Eq.mpr (by as_aux_lemma => kernel_rfl : oblF prog f69 (s69_A Ψ) Ψ = (True ∧ True ∧ True)) ⟨trivial, ⟨trivial, trivial⟩⟩)
    (Eq.mpr (by as_aux_lemma => kernel_rfl : evF prog f69 (s69_A Ψ) Ψ [t, (.int .i64 k), (.int .i64 a), (.int .i64 b)] h = s69 Ψ t k a b h) H)

/- 71 (*dictum/formula.Table).Rows -/
def s71 (Ψ : AVal → Heap → Prop) (t : AVal) (h : Heap) : Prop :=
  callG prog 56 [t] h fun v h_ =>
  tBool v fun v1 =>
  ifT (!v1) (
    retG .nilsl h_ Ψ) (
    nilCheckA t fun p =>
    addOff p 0 fun p1 =>
    ld1 h_ p1 fun v2 =>
    callG prog 100 [v2] h_ fun v3 h_1 =>
    retG v3 h_1 Ψ)

def s71_A (Ψ : AVal → Heap → Prop) : Ann :=
  .seq (rA 1)
  (.seq (.seq (rA 3)
  (.cond (.seq (rA 1)
  (.leaf))
  (.leaf)))
  (.seq (rA 6)
  (.leaf)))

theorem s71_ok {Ψ : AVal → Heap → Prop} {t : AVal} {h : Heap} (H : s71 Ψ t h) : ACalls prog 71 [t] h Ψ :=
  calls_of_evF func71 (by kernel_rfl) (by kernel_rfl) (by kernel_rfl)
    (Eq.mpr (by as_aux_lemma => kernel_rfl : oblF prog f71 (s71_A Ψ) Ψ = (True ∧ (True ∧ (True ∧ True) ∧ True) ∧ True ∧ True)) ⟨trivial, ⟨⟨trivial, ⟨⟨trivial, trivial⟩, trivial⟩⟩, ⟨trivial, trivial⟩⟩⟩)
    (Eq.mpr (by as_aux_lemma => kernel_rfl : evF prog f71 (s71_A Ψ) Ψ [t] h = s71 Ψ t h) H)

/- 73 dictum/nishimura.of -/
def s73c1 (Ψ : AVal → Heap → Prop) (k1 : Int) (t2 : AVal) (t8 : Bool) (h : Heap) : Prop :=
  ifT t8 (
    st false h t2 [(.bool false), (.int .i64 0), (.bool false)] fun h_2 =>
    ldN 3 h_2 t2 fun l_4 =>
    tCons l_4 fun v6 l_5 =>
    tBool v6 fun v7 =>
    tCons l_5 fun v8 l_6 =>
    tInt .i64 v8 fun v9 =>
    tCons l_6 fun v10 l_7 =>
    tBool v10 fun v11 =>
    tNil l_7 (
      retG (.tuple [(.agg [(.bool v7), (.int .i64 v9), (.bool v11)]), (.bool false)]) h_2 Ψ)) (
    ifT (k1 == 0) (
      st false h t2 [(.bool false), (.int .i64 0), (.bool false)] fun h_3 =>
      ldN 3 h_3 t2 fun l_8 =>
      tCons l_8 fun v12 l_9 =>
      tBool v12 fun v13 =>
      tCons l_9 fun v14 l_10 =>
      tInt .i64 v14 fun v15 =>
      tCons l_10 fun v16 l_11 =>
      tBool v16 fun v17 =>
      tNil l_11 (
        retG (.tuple [(.agg [(.bool v13), (.int .i64 v15), (.bool v17)]), (.bool true)]) h_3 Ψ)) (
      2 ≠ (0 : Int) ∧
      ifT ((Int.tmod k1 2) == 1) (
        rg (k1 + 1) (
          2 ≠ (0 : Int) ∧
          rg (Int.tdiv (k1 + 1) 2) (
            st false h t2 [(.bool false), (.int .i64 (Int.tdiv (k1 + 1) 2)), (.bool false)] fun h_4 =>
            ldN 3 h_4 t2 fun l_12 =>
            tCons l_12 fun v18 l_13 =>
            tBool v18 fun v19 =>
            tCons l_13 fun v20 l_14 =>
            tInt .i64 v20 fun v21 =>
            tCons l_14 fun v22 l_15 =>
            tBool v22 fun v23 =>
            tNil l_15 (
              retG (.tuple [(.agg [(.bool v19), (.int .i64 v21), (.bool v23)]), (.bool true)]) h_4 Ψ)))) (
        2 ≠ (0 : Int) ∧
        rg (Int.tdiv k1 2) (
          rg ((Int.tdiv k1 2) - 1) (
            st false h t2 [(.bool false), (.int .i64 ((Int.tdiv k1 2) - 1)), (.bool true)] fun h_5 =>
            ldN 3 h_5 t2 fun l_16 =>
            tCons l_16 fun v24 l_17 =>
            tBool v24 fun v25 =>
            tCons l_17 fun v26 l_18 =>
            tInt .i64 v26 fun v27 =>
            tCons l_18 fun v28 l_19 =>
            tBool v28 fun v29 =>
            tNil l_19 (
              retG (.tuple [(.agg [(.bool v25), (.int .i64 v27), (.bool v29)]), (.bool true)]) h_5 Ψ))))))

def s73 (Ψ : AVal → Heap → Prop) (k : Int) (h : Heap) : Prop :=
  Sym.newRow 3 [(.agg [(.bool false), (.int .i64 0), (.bool false)])] h fun r h_ =>
  ifT (k == (-1)) (
    st false h_ (.ptr r 0 0) [(.bool true), (.int .i64 0), (.bool false)] fun h_1 =>
    ldN 3 h_1 (.ptr r 0 0) fun l_ =>
    tCons l_ fun v l_1 =>
    tBool v fun v1 =>
    tCons l_1 fun v2 l_2 =>
    tInt .i64 v2 fun v3 =>
    tCons l_2 fun v4 l_3 =>
    tBool v4 fun v5 =>
    tNil l_3 (
      retG (.tuple [(.agg [(.bool v1), (.int .i64 v3), (.bool v5)]), (.bool true)]) h_1 Ψ)) (
    ifT (decide (k < 0)) (
      s73c1 Ψ k (.ptr r 0 0) true h_) (
      s73c1 Ψ k (.ptr r 0 0) (decide (4096 < k)) h_))

def s73_A (Ψ : AVal → Heap → Prop) : Ann :=
  .seq (rA 2)
  (.seq (.block (.seq (rA 3)
  (.cond (.seq (rA 3)
  (.leaf))
  (.cut [(0, .int .i64), (2, .any), (8, .bool)] (fun l h => J.cons l fun v l => J.int .i64 v fun x0 => J.cons l fun x1 l => J.cons l fun v l => J.bool v fun x2 => J.nil l (s73c1 Ψ x0 x1 x2 h)) (.reg [⟨none, [(0, false), (1, false), (2, false)]⟩, ⟨some (11, false), [(3, false), (4, false)]⟩, ⟨none, [(5, false), (6, false)]⟩])
  (.cond (.seq (rA 3)
  (.leaf))
  (.seq (rA 3)
  (.cond (.seq (rA 3)
  (.leaf))
  (.seq (rA 4)
  (.cond (.seq (rA 6)
  (.leaf))
  (.leaf))))))))))
  (.seq (rA 6)
  (.leaf)))

theorem s73_ok {Ψ : AVal → Heap → Prop} {k : Int} {h : Heap} (H : s73 Ψ k h) : ACalls prog 73 [(.int .i64 k)] h Ψ :=
  calls_of_evF func73 (by kernel_rfl) (by kernel_rfl) (by kernel_rfl)
    (Eq.mpr (by as_aux_lemma => kernel_rfl : oblF prog f73 (s73_A Ψ) Ψ = (True ∧ (True ∧ (True ∧ True) ∧ (True) ∧ (∀ (h : Heap) (x0 : Int) (x1 : AVal) (x2 : Bool), OI (s73c1 Ψ x0 x1 x2 h)) ∧ ((True ∧ True) ∧ True ∧ (True ∧ True) ∧ True ∧ (True ∧ True) ∧ True)) ∧ True ∧ True)) ⟨trivial, ⟨⟨trivial, ⟨⟨trivial, trivial⟩, ⟨trivial, fun _ _ _ _ H => H, ⟨⟨trivial, trivial⟩, ⟨trivial, ⟨⟨trivial, trivial⟩, ⟨trivial, ⟨⟨trivial, trivial⟩, trivial⟩⟩⟩⟩⟩⟩⟩⟩, ⟨trivial, trivial⟩⟩⟩)
    (Eq.mpr (by as_aux_lemma => kernel_rfl : evF prog f73 (s73_A Ψ) Ψ [(.int .i64 k)] h = s73 Ψ k h) H)

/- 75 (*dictum/formula.Table).has -/
def s75 (Ψ : AVal → Heap → Prop) (t : AVal) (id_ : Int) (h : Heap) : Prop :=
  ifT (decide (0 ≤ id_)) (
    nilCheckA t fun p =>
    addOff p 0 fun p1 =>
    ld1 h p1 fun v =>
    lenN v fun n =>
    retG (.bool (decide (id_ < n))) h Ψ) (
    retG (.bool false) h Ψ)

def s75_A (Ψ : AVal → Heap → Prop) : Ann :=
  .seq (rA 1)
  (.seq (.reg [⟨none, [(0, false), (1, false), (2, false)]⟩, ⟨some (7, true), [(3, false), (4, false), (5, false), (6, false), (7, false), (8, false), (9, false)]⟩, ⟨none, [(10, false), (11, false)]⟩])
  (.leaf))

theorem s75_ok {Ψ : AVal → Heap → Prop} {t : AVal} {id_ : Int} {h : Heap} (H : s75 Ψ t id_ h) : ACalls prog 75 [t, (.int .i64 id_)] h Ψ :=
  calls_of_evF func75 (by kernel_rfl) (by kernel_rfl) (by kernel_rfl)
    (Eq.mpr (by as_aux_lemma => kernel_rfl : oblF prog f75 (s75_A Ψ) Ψ = (True ∧ True ∧ True)) ⟨trivial, ⟨trivial, trivial⟩⟩)
    (Eq.mpr (by as_aux_lemma => kernel_rfl : evF prog f75 (s75_A Ψ) Ψ [t, (.int .i64 id_)] h = s75 Ψ t id_ h) H)

/- 77 dictum/dictumref17.Names -/
abbrev s77l1_T := AVal → AVal → Int → Heap → Prop
def s77l1_R (F : s77l1_T) (l : List AVal) (h : Heap) : Prop := J.cons l fun x0 l => J.cons l fun x1 l => J.cons l fun v l => J.int .i64 v fun x2 => J.nil l (F x0 x1 x2 h)
def s77l1_G (F : s77l1_T) (x0 x1 : AVal) (x2 : Int) (h : Heap) : Prop := gJ [.any, .any, .int .i64] [x0, x1, (.int .i64 x2)] h (s77l1_R F)
def s77l1_E (F : Nat → s77l1_T) (x0 x1 : AVal) (x2 : Int) (h : Heap) : Prop := gJ [.any, .any, .int .i64] [x0, x1, (.int .i64 x2)] h (fun l h => ∃ n, s77l1_R (F n) l h)
theorem s77l1_go {F : s77l1_T} {x0 x1 : AVal} {x2 : Int} {h : Heap} (H : F x0 x1 x2 h) : s77l1_G F x0 x1 x2 h := gJ_plain rfl H
theorem s77l1_in {F : Nat → s77l1_T} {x0 x1 : AVal} {x2 : Int} {h : Heap} (n : Nat) (H : F n x0 x1 x2 h) : s77l1_E F x0 x1 x2 h := gJ_plain rfl ⟨n, H⟩

def s77l1 (Ψ : AVal → Heap → Prop) : Nat → s77l1_T
  | 0, _, _, _, _ => False
  | n2 + 1, a1, b1, i, h =>
    lenN a1 fun n3 =>
    ifT (decide (i < n3)) (
      ixS 1 a1 i fun p =>
      ld1 h p fun v =>
      tStr v fun v1 =>
      ixS 1 b1 i fun p1 =>
      ld1 h p1 fun v2 =>
      tStr v2 fun v3 =>
      ifT (!strEq v1 v3) (
        retG (.bool false) h Ψ) (
        rg (i + 1) (
          s77l1_G (s77l1 Ψ n2) a1 b1 (i + 1) h))) (
      retG (.bool true) h Ψ)

def s77 (Ψ : AVal → Heap → Prop) (a : AVal) (b : AVal) (h : Heap) : Prop :=
  lenN a fun n =>
  lenN b fun n1 =>
  ifT (n != n1) (
    retG (.bool false) h Ψ) (
    s77l1_E (s77l1 Ψ) a b 0 h)

def s77_A (Ψ : AVal → Heap → Prop) : Ann :=
  .seq (rA 1)
  (.seq (.seq (rA 5)
  (.cond (.seq (rA 1)
  (.leaf))
  (.leaf)))
  (.seq (.seq (rA 1)
  (.block (.loop [(0, .any), (1, .any), (5, .int .i64)] (fun n l h => s77l1_R (s77l1 Ψ n) l h) (fun L1 =>
  .seq (.seq (rA 4)
  (.cond (.leaf)
  (.leaf)))
  (.seq (.block (.seq (.draw [(0, false), (1, false), (2, false), (3, false), (4, false), (5, false), (6, false), (7, false), (8, false)] [0, 0, 3, 7, 0, 0, 48, 112, 255])
  (.cond (.seq (rA 1)
  (.leaf))
  (.leaf))))
  (rA 3))))))
  (.seq (rA 1)
  (.leaf))))

theorem s77_ok {Ψ : AVal → Heap → Prop} {a : AVal} {b : AVal} {h : Heap} (H : s77 Ψ a b h) : ACalls prog 77 [a, b] h Ψ :=
  calls_of_evF func77 (by kernel_rfl) (by kernel_rfl) (by kernel_rfl)
    (Eq.mpr (by as_aux_lemma => kernel_rfl : oblF prog f77 (s77_A Ψ) Ψ = (True ∧ (True ∧ (True ∧ True) ∧ True) ∧ (True ∧ (∀ (h : Heap) (x0 x1 : AVal) (x2 : Int), ON (s77l1 Ψ 0 x0 x1 x2 h)) ∧ ∀ n1 : Nat, (∀ (h : Heap) (x0 x1 : AVal) (x2 : Int), OI (s77l1 Ψ (n1 + 1) x0 x1 x2 h)) ∧ ((True ∧ True ∧ True) ∧ (True ∧ (True ∧ True) ∧ True) ∧ True)) ∧ True ∧ True)) ⟨trivial, ⟨⟨trivial, ⟨⟨trivial, trivial⟩, trivial⟩⟩, ⟨⟨trivial, ⟨fun _ _ _ _ H => H, fun _ => ⟨fun _ _ _ _ H => H, ⟨⟨trivial, ⟨trivial, trivial⟩⟩, ⟨⟨trivial, ⟨⟨trivial, trivial⟩, trivial⟩⟩, trivial⟩⟩⟩⟩⟩, ⟨trivial, trivial⟩⟩⟩⟩)
    (Eq.mpr (by as_aux_lemma => kernel_rfl : evF prog f77 (s77_A Ψ) Ψ [a, b] h = s77 Ψ a b h) H)

/- 79 slices.Sort[[]string,string] -/
def s79 (Ψ : AVal → Heap → Prop) (x : AVal) (h : Heap) : Prop :=
  lenN x fun n =>
  callG prog 102 [(.int .u64 (IntKind.u64.wrap n))] h fun v h_ =>
  tInt .i64 v fun v1 =>
  callG prog 101 [x, (.int .i64 0), (.int .i64 n), (.int .i64 v1)] h_ fun v2 h_1 =>
  retG (.tuple []) h_1 Ψ

def s79_A (Ψ : AVal → Heap → Prop) : Ann :=
  .seq (rA 3)
  (rA 6)

theorem s79_ok {Ψ : AVal → Heap → Prop} {x : AVal} {h : Heap} (H : s79 Ψ x h) : ACalls prog 79 [x] h Ψ :=
  calls_of_evF func79 (by kernel_rfl) (by kernel_rfl) (by kernel_rfl)
    (Eq.mpr (by as_aux_lemma => kernel_rfl : oblF prog f79 (s79_A Ψ) Ψ = (True ∧ True)) ⟨trivial, trivial⟩)
    (Eq.mpr (by as_aux_lemma => kernel_rfl : evF prog f79 (s79_A Ψ) Ψ [x] h = s79 Ψ x h) H)

/- 82 dictum/nishimura.set -/
abbrev s82l1_T := AVal → AVal → Int → Int → Heap → Prop
def s82l1_R (F : s82l1_T) (l : List AVal) (h : Heap) : Prop := J.cons l fun x0 l => J.cons l fun x1 l => J.cons l fun v l => J.int .i64 v fun x2 => J.cons l fun v l => J.int .i64 v fun x3 => J.nil l (F x0 x1 x2 x3 h)
def s82l1_G (F : s82l1_T) (x0 x1 : AVal) (x2 x3 : Int) (h : Heap) : Prop := gJ [.any, .any, .int .i64, .int .i64] [x0, x1, (.int .i64 x2), (.int .i64 x3)] h (s82l1_R F)
def s82l1_E (F : Nat → s82l1_T) (x0 x1 : AVal) (x2 x3 : Int) (h : Heap) : Prop := gJ [.any, .any, .int .i64, .int .i64] [x0, x1, (.int .i64 x2), (.int .i64 x3)] h (fun l h => ∃ n, s82l1_R (F n) l h)
theorem s82l1_go {F : s82l1_T} {x0 x1 : AVal} {x2 x3 : Int} {h : Heap} (H : F x0 x1 x2 x3 h) : s82l1_G F x0 x1 x2 x3 h := gJ_plain rfl H
theorem s82l1_in {F : Nat → s82l1_T} {x0 x1 : AVal} {x2 x3 : Int} {h : Heap} (n : Nat) (H : F n x0 x1 x2 x3 h) : s82l1_E F x0 x1 x2 x3 h := gJ_plain rfl ⟨n, H⟩

def s82l1 (Ψ : AVal → Heap → Prop) : Nat → s82l1_T
  | 0, _, _, _, _, _ => False
  | n + 1, in_1, t4, t6, t7, h =>
    ifT (decide (t7 < t6)) (
      callV prog in_1 [(.int .i64 t7)] h fun v h_1 =>
      tBool v fun v1 =>
      ifT (!v1) (
        rg (t7 + 1) (
          callV prog in_1 [(.int .i64 (t7 + 1))] h_1 fun v2 h_2 =>
          tBool v2 fun v3 =>
          st false h_2 t4 [(.bool false), (.int .i64 t7), (.bool v3)] fun h_3 =>
          ldN 3 h_3 t4 fun l_ =>
          tCons l_ fun v4 l_1 =>
          tBool v4 fun v5 =>
          tCons l_1 fun v6 l_2 =>
          tInt .i64 v6 fun v7 =>
          tCons l_2 fun v8 l_3 =>
          tBool v8 fun v9 =>
          tNil l_3 (
            retG (.agg [(.bool v5), (.int .i64 v7), (.bool v9)]) h_3 Ψ))) (
        rg (t7 + 1) (
          s82l1_G (s82l1 Ψ n) in_1 t4 t6 (t7 + 1) h_1))) (
      st false h t4 [(.bool true), (.int .i64 0), (.bool false)] fun h_4 =>
      ldN 3 h_4 t4 fun l_4 =>
      tCons l_4 fun v10 l_5 =>
      tBool v10 fun v11 =>
      tCons l_5 fun v12 l_6 =>
      tInt .i64 v12 fun v13 =>
      tCons l_6 fun v14 l_7 =>
      tBool v14 fun v15 =>
      tNil l_7 (
        retG (.agg [(.bool v11), (.int .i64 v13), (.bool v15)]) h_4 Ψ))

def s82 (Ψ : AVal → Heap → Prop) (far : Int) (in_ : AVal) (h : Heap) : Prop :=
  Sym.newRow 3 [(.agg [(.bool false), (.int .i64 0), (.bool false)])] h fun r h_ =>
  s82l1_E (s82l1 Ψ) in_ (.ptr r 0 0) far 0 h_

def s82_A (Ψ : AVal → Heap → Prop) : Ann :=
  .seq (rA 1)
  (.seq (.seq (rA 2)
  (.block (.loop [(1, .any), (4, .any), (6, .int .i64), (7, .int .i64)] (fun n l h => s82l1_R (s82l1 Ψ n) l h) (fun L1 =>
  .seq (rA 1)
  (.seq (.cond (.leaf)
  (.leaf))
  (.seq (.block (.seq (rA 2)
  (.seq (rA 4)
  (.cond (.seq (rA 7)
  (.leaf))
  (.leaf)))))
  (rA 2)))))))
  (.seq (rA 2)
  (.leaf)))

theorem s82_ok {Ψ : AVal → Heap → Prop} {far : Int} {in_ : AVal} {h : Heap} (H : s82 Ψ far in_ h) : ACalls prog 82 [(.int .i64 far), in_] h Ψ :=
  calls_of_evF func82 (by kernel_rfl) (by kernel_rfl) (by kernel_rfl)
    (Eq.mpr (by as_aux_lemma => kernel_rfl : oblF prog f82 (s82_A Ψ) Ψ = (True ∧ (True ∧ (∀ (h : Heap) (x0 x1 : AVal) (x2 x3 : Int), ON (s82l1 Ψ 0 x0 x1 x2 x3 h)) ∧ ∀ n1 : Nat, (∀ (h : Heap) (x0 x1 : AVal) (x2 x3 : Int), OI (s82l1 Ψ (n1 + 1) x0 x1 x2 x3 h)) ∧ (True ∧ (True ∧ True) ∧ (True ∧ True ∧ (True ∧ True) ∧ True) ∧ True)) ∧ True ∧ True)) ⟨trivial, ⟨⟨trivial, ⟨fun _ _ _ _ _ H => H, fun _ => ⟨fun _ _ _ _ _ H => H, ⟨trivial, ⟨⟨trivial, trivial⟩, ⟨⟨trivial, ⟨trivial, ⟨⟨trivial, trivial⟩, trivial⟩⟩⟩, trivial⟩⟩⟩⟩⟩⟩, ⟨trivial, trivial⟩⟩⟩)
    (Eq.mpr (by as_aux_lemma => kernel_rfl : evF prog f82 (s82_A Ψ) Ψ [(.int .i64 far), in_] h = s82 Ψ far in_ h) H)

/- 84 dictum/nishimura.meet$1 -/
def s84 (Ψ : AVal → Heap → Prop) (w : Int) (c0 : AVal) (c1 : AVal) (h : Heap) : Prop :=
  ldN 3 h c0 fun l_ =>
  tCons l_ fun v l_1 =>
  tBool v fun v1 =>
  tCons l_1 fun v2 l_2 =>
  tInt .i64 v2 fun v3 =>
  tCons l_2 fun v4 l_3 =>
  tBool v4 fun v5 =>
  tNil l_3 (
    callG prog 85 [(.agg [(.bool v1), (.int .i64 v3), (.bool v5)]), (.int .i64 w)] h fun v6 h_ =>
    tBool v6 fun v7 =>
    ifT v7 (
      ldN 3 h_ c1 fun l_4 =>
      tCons l_4 fun v8 l_5 =>
      tBool v8 fun v9 =>
      tCons l_5 fun v10 l_6 =>
      tInt .i64 v10 fun v11 =>
      tCons l_6 fun v12 l_7 =>
      tBool v12 fun v13 =>
      tNil l_7 (
        callG prog 85 [(.agg [(.bool v9), (.int .i64 v11), (.bool v13)]), (.int .i64 w)] h_ fun v14 h_1 =>
        tBool v14 fun v15 =>
        retG (.bool v15) h_1 Ψ)) (
      retG (.bool false) h_ Ψ))

def s84_A (Ψ : AVal → Heap → Prop) : Ann :=
  .seq (rA 1)
  (.seq (.reg [⟨none, [(0, false), (1, false), (2, false), (3, false)]⟩, ⟨some (8, true), [(4, false), (5, false), (6, false)]⟩, ⟨none, [(7, false), (8, false)]⟩])
  (.leaf))

theorem s84_ok {Ψ : AVal → Heap → Prop} {w : Int} {c0 : AVal} {c1 : AVal} {h : Heap} (H : s84 Ψ w c0 c1 h) : ACalls prog 84 [(.int .i64 w), c0, c1] h Ψ :=
  calls_of_evF func84 (by kernel_rfl) (by kernel_rfl) (by kernel_rfl)
    (Eq.mpr (by as_aux_lemma => kernel_rfl : oblF prog f84 (s84_A Ψ) Ψ = (True ∧ True ∧ True)) ⟨trivial, ⟨trivial, trivial⟩⟩)
    (Eq.mpr (by as_aux_lemma => kernel_rfl : evF prog f84 (s84_A Ψ) Ψ [(.int .i64 w), c0, c1] h = s84 Ψ w c0 c1 h) H)

/- 86 dictum/nishimura.join$1 -/
def s86 (Ψ : AVal → Heap → Prop) (w : Int) (c0 : AVal) (c1 : AVal) (h : Heap) : Prop :=
  ldN 3 h c0 fun l_ =>
  tCons l_ fun v l_1 =>
  tBool v fun v1 =>
  tCons l_1 fun v2 l_2 =>
  tInt .i64 v2 fun v3 =>
  tCons l_2 fun v4 l_3 =>
  tBool v4 fun v5 =>
  tNil l_3 (
    callG prog 85 [(.agg [(.bool v1), (.int .i64 v3), (.bool v5)]), (.int .i64 w)] h fun v6 h_ =>
    tBool v6 fun v7 =>
    ifT v7 (
      retG (.bool true) h_ Ψ) (
      ldN 3 h_ c1 fun l_4 =>
      tCons l_4 fun v8 l_5 =>
      tBool v8 fun v9 =>
      tCons l_5 fun v10 l_6 =>
      tInt .i64 v10 fun v11 =>
      tCons l_6 fun v12 l_7 =>
      tBool v12 fun v13 =>
      tNil l_7 (
        callG prog 85 [(.agg [(.bool v9), (.int .i64 v11), (.bool v13)]), (.int .i64 w)] h_ fun v14 h_1 =>
        tBool v14 fun v15 =>
        retG (.bool v15) h_1 Ψ)))

def s86_A (Ψ : AVal → Heap → Prop) : Ann :=
  .seq (rA 1)
  (.seq (.reg [⟨none, [(0, false), (1, false), (2, false), (3, false)]⟩, ⟨some (8, false), [(4, false), (5, false), (6, false)]⟩, ⟨none, [(7, false), (8, false)]⟩])
  (.leaf))

theorem s86_ok {Ψ : AVal → Heap → Prop} {w : Int} {c0 : AVal} {c1 : AVal} {h : Heap} (H : s86 Ψ w c0 c1 h) : ACalls prog 86 [(.int .i64 w), c0, c1] h Ψ :=
  calls_of_evF func86 (by kernel_rfl) (by kernel_rfl) (by kernel_rfl)
    (Eq.mpr (by as_aux_lemma => kernel_rfl : oblF prog f86 (s86_A Ψ) Ψ = (True ∧ True ∧ True)) ⟨trivial, ⟨trivial, trivial⟩⟩)
    (Eq.mpr (by as_aux_lemma => kernel_rfl : evF prog f86 (s86_A Ψ) Ψ [(.int .i64 w), c0, c1] h = s86 Ψ w c0 c1 h) H)

/- 90 dictum/dictumref26.worlds -/
def s90 (Ψ : AVal → Heap → Prop) (a : Int) (b : Int) (h : Heap) : Prop :=
  2 ≠ (0 : Int) ∧
  rg (Int.tdiv (max a b) 2) (
    rg ((Int.tdiv (max a b) 2) + 5) (
      retG (.int .i64 ((Int.tdiv (max a b) 2) + 5)) h Ψ))

def s90_A (Ψ : AVal → Heap → Prop) : Ann :=
  .seq (rA 1)
  (.seq (rA 6)
  (.leaf))

theorem s90_ok {Ψ : AVal → Heap → Prop} {a : Int} {b : Int} {h : Heap} (H : s90 Ψ a b h) : ACalls prog 90 [(.int .i64 a), (.int .i64 b)] h Ψ :=
  calls_of_evF func90 (by kernel_rfl) (by kernel_rfl) (by kernel_rfl)
    (Eq.mpr (by as_aux_lemma => kernel_rfl : oblF prog f90 (s90_A Ψ) Ψ = (True ∧ True ∧ True)) ⟨trivial, ⟨trivial, trivial⟩⟩)
    (Eq.mpr (by as_aux_lemma => kernel_rfl : evF prog f90 (s90_A Ψ) Ψ [(.int .i64 a), (.int .i64 b)] h = s90 Ψ a b h) H)

/- 92 dictum/dictumref26.below -/
abbrev s92l1_T := Int → Int → Int → Heap → Prop
def s92l1_R (F : s92l1_T) (l : List AVal) (h : Heap) : Prop := J.cons l fun v l => J.int .i64 v fun x0 => J.cons l fun v l => J.int .i64 v fun x1 => J.cons l fun v l => J.int .i64 v fun x2 => J.nil l (F x0 x1 x2 h)
def s92l1_G (F : s92l1_T) (x0 x1 x2 : Int) (h : Heap) : Prop := gJ [.int .i64, .int .i64, .int .i64] [(.int .i64 x0), (.int .i64 x1), (.int .i64 x2)] h (s92l1_R F)
def s92l1_E (F : Nat → s92l1_T) (x0 x1 x2 : Int) (h : Heap) : Prop := gJ [.int .i64, .int .i64, .int .i64] [(.int .i64 x0), (.int .i64 x1), (.int .i64 x2)] h (fun l h => ∃ n, s92l1_R (F n) l h)
theorem s92l1_go {F : s92l1_T} {x0 x1 x2 : Int} {h : Heap} (H : F x0 x1 x2 h) : s92l1_G F x0 x1 x2 h := gJ_plain rfl H
theorem s92l1_in {F : Nat → s92l1_T} {x0 x1 x2 : Int} {h : Heap} (n : Nat) (H : F n x0 x1 x2 h) : s92l1_E F x0 x1 x2 h := gJ_plain rfl ⟨n, H⟩

def s92c2 (Ψ : AVal → Heap → Prop) (L1 : s92l1_T) (a2 b2 w1 : Int) (t21 : Bool) (h : Heap) : Prop :=
  ifT t21 (
    retG (.bool false) h Ψ) (
    rg (w1 + 1) (
      L1 a2 b2 (w1 + 1) h))

def s92l1 (Ψ : AVal → Heap → Prop) : Nat → s92l1_T
  | 0, _, _, _, _ => False
  | n + 1, a1, b1, w, h =>
    callG prog 90 [(.int .i64 a1), (.int .i64 b1)] h fun v h_ =>
    tInt .i64 v fun v1 =>
    ifT (decide (w < v1)) (
      callG prog 20 [(.int .i64 a1), (.int .i64 w)] h_ fun v2 h_1 =>
      tBool v2 fun v3 =>
      ifT v3 (
        callG prog 20 [(.int .i64 b1), (.int .i64 w)] h_1 fun v4 h_2 =>
        tBool v4 fun v5 =>
        s92c2 Ψ (s92l1_G (s92l1 Ψ n)) a1 b1 w (!v5) h_2) (
        s92c2 Ψ (s92l1_G (s92l1 Ψ n)) a1 b1 w false h_1)) (
      retG (.bool true) h_ Ψ)

def s92 (Ψ : AVal → Heap → Prop) (a : Int) (b : Int) (h : Heap) : Prop :=
  s92l1_E (s92l1 Ψ) a b 0 h

def s92_A (Ψ : AVal → Heap → Prop) : Ann :=
  .seq (rA 1)
  (.seq (.seq (rA 1)
  (.block (.loop [(0, .int .i64), (1, .int .i64), (5, .int .i64)] (fun n l h => s92l1_R (s92l1 Ψ n) l h) (fun L1 =>
  .seq (.seq (rA 5)
  (.cond (.leaf)
  (.leaf)))
  (.seq (.block (.cut [(0, .int .i64), (1, .int .i64), (5, .int .i64), (21, .bool)] (fun l h => J.cons l fun v l => J.int .i64 v fun x0 => J.cons l fun v l => J.int .i64 v fun x1 => J.cons l fun v l => J.int .i64 v fun x2 => J.cons l fun v l => J.bool v fun x3 => J.nil l (s92c2 Ψ (fun y0 y1 y2 h => L1 [(.int .i64 y0), (.int .i64 y1), (.int .i64 y2)] h) x0 x1 x2 x3 h)) (.reg [⟨none, [(0, false), (1, false), (2, false), (3, false)]⟩, ⟨some (16, true), [(4, false), (5, false), (6, false), (7, false)]⟩, ⟨none, [(8, false)]⟩])
  (.cond (.seq (rA 1)
  (.leaf))
  (.leaf))))
  (rA 3))))))
  (.seq (rA 1)
  (.leaf)))

theorem s92_ok {Ψ : AVal → Heap → Prop} {a : Int} {b : Int} {h : Heap} (H : s92 Ψ a b h) : ACalls prog 92 [(.int .i64 a), (.int .i64 b)] h Ψ :=
  calls_of_evF func92 (by kernel_rfl) (by kernel_rfl) (by kernel_rfl)
    (Eq.mpr (by as_aux_lemma => kernel_rfl : oblF prog f92 (s92_A Ψ) Ψ = (True ∧ (True ∧ (∀ (h : Heap) (x0 x1 x2 : Int), ON (s92l1 Ψ 0 x0 x1 x2 h)) ∧ ∀ n1 : Nat, (∀ (h : Heap) (x0 x1 x2 : Int), OI (s92l1 Ψ (n1 + 1) x0 x1 x2 h)) ∧ ((True ∧ True ∧ True) ∧ ((True) ∧ (∀ (h : Heap) (x0 x1 x2 : Int) (x3 : Bool), OI (s92c2 Ψ (s92l1_G (s92l1 Ψ n1)) x0 x1 x2 x3 h)) ∧ ((True ∧ True) ∧ True)) ∧ True)) ∧ True ∧ True)) ⟨trivial, ⟨⟨trivial, ⟨fun _ _ _ _ H => H, fun _ => ⟨fun _ _ _ _ H => H, ⟨⟨trivial, ⟨trivial, trivial⟩⟩, ⟨⟨trivial, fun _ _ _ _ _ H => H, ⟨⟨trivial, trivial⟩, trivial⟩⟩, trivial⟩⟩⟩⟩⟩, ⟨trivial, trivial⟩⟩⟩)
    (Eq.mpr (by as_aux_lemma => kernel_rfl : evF prog f92 (s92_A Ψ) Ψ [(.int .i64 a), (.int .i64 b)] h = s92 Ψ a b h) H)

/- 94 dictum/force.order -/
abbrev s94l1_T := AVal → AVal → Int → Int → Heap → Prop
def s94l1_R (F : s94l1_T) (l : List AVal) (h : Heap) : Prop := J.cons l fun x0 l => J.cons l fun x1 l => J.cons l fun v l => J.int .i64 v fun x2 => J.cons l fun v l => J.int .i64 v fun x3 => J.nil l (F x0 x1 x2 x3 h)
def s94l1_G (F : s94l1_T) (x0 x1 : AVal) (x2 x3 : Int) (h : Heap) : Prop := gJ [.any, .any, .int .i64, .int .i64] [x0, x1, (.int .i64 x2), (.int .i64 x3)] h (s94l1_R F)
def s94l1_E (F : Nat → s94l1_T) (x0 x1 : AVal) (x2 x3 : Int) (h : Heap) : Prop := gJ [.any, .any, .int .i64, .int .i64] [x0, x1, (.int .i64 x2), (.int .i64 x3)] h (fun l h => ∃ n, s94l1_R (F n) l h)
theorem s94l1_go {F : s94l1_T} {x0 x1 : AVal} {x2 x3 : Int} {h : Heap} (H : F x0 x1 x2 x3 h) : s94l1_G F x0 x1 x2 x3 h := gJ_plain rfl H
theorem s94l1_in {F : Nat → s94l1_T} {x0 x1 : AVal} {x2 x3 : Int} {h : Heap} (n : Nat) (H : F n x0 x1 x2 x3 h) : s94l1_E F x0 x1 x2 x3 h := gJ_plain rfl ⟨n, H⟩

abbrev s94l2_T := AVal → AVal → Int → AVal → AVal → Int → Int → Heap → Prop
def s94l2_R (F : s94l2_T) (l : List AVal) (h : Heap) : Prop := J.cons l fun x0 l => J.cons l fun x1 l => J.cons l fun v l => J.int .i64 v fun x2 => J.cons l fun x3 l => J.cons l fun x4 l => J.cons l fun v l => J.int .i64 v fun x5 => J.cons l fun v l => J.int .i64 v fun x6 => J.nil l (F x0 x1 x2 x3 x4 x5 x6 h)
def s94l2_G (F : s94l2_T) (x0 x1 : AVal) (x2 : Int) (x3 x4 : AVal) (x5 x6 : Int) (h : Heap) : Prop := gJ [.any, .any, .int .i64, .any, .any, .int .i64, .int .i64] [x0, x1, (.int .i64 x2), x3, x4, (.int .i64 x5), (.int .i64 x6)] h (s94l2_R F)
def s94l2_E (F : Nat → s94l2_T) (x0 x1 : AVal) (x2 : Int) (x3 x4 : AVal) (x5 x6 : Int) (h : Heap) : Prop := gJ [.any, .any, .int .i64, .any, .any, .int .i64, .int .i64] [x0, x1, (.int .i64 x2), x3, x4, (.int .i64 x5), (.int .i64 x6)] h (fun l h => ∃ n, s94l2_R (F n) l h)
theorem s94l2_go {F : s94l2_T} {x0 x1 : AVal} {x2 : Int} {x3 x4 : AVal} {x5 x6 : Int} {h : Heap} (H : F x0 x1 x2 x3 x4 x5 x6 h) : s94l2_G F x0 x1 x2 x3 x4 x5 x6 h := gJ_plain rfl H
theorem s94l2_in {F : Nat → s94l2_T} {x0 x1 : AVal} {x2 : Int} {x3 x4 : AVal} {x5 x6 : Int} {h : Heap} (n : Nat) (H : F n x0 x1 x2 x3 x4 x5 x6 h) : s94l2_E F x0 x1 x2 x3 x4 x5 x6 h := gJ_plain rfl ⟨n, H⟩

abbrev s94l3_T := AVal → AVal → Int → AVal → AVal → Int → Int → AVal → Int → Int → Heap → Prop
def s94l3_R (F : s94l3_T) (l : List AVal) (h : Heap) : Prop := J.cons l fun x0 l => J.cons l fun x1 l => J.cons l fun v l => J.int .i64 v fun x2 => J.cons l fun x3 l => J.cons l fun x4 l => J.cons l fun v l => J.int .i64 v fun x5 => J.cons l fun v l => J.int .i64 v fun x6 => J.cons l fun x7 l => J.cons l fun v l => J.int .i64 v fun x8 => J.cons l fun v l => J.int .i64 v fun x9 => J.nil l (F x0 x1 x2 x3 x4 x5 x6 x7 x8 x9 h)
def s94l3_G (F : s94l3_T) (x0 x1 : AVal) (x2 : Int) (x3 x4 : AVal) (x5 x6 : Int) (x7 : AVal) (x8 x9 : Int) (h : Heap) : Prop := gJ [.any, .any, .int .i64, .any, .any, .int .i64, .int .i64, .any, .int .i64, .int .i64] [x0, x1, (.int .i64 x2), x3, x4, (.int .i64 x5), (.int .i64 x6), x7, (.int .i64 x8), (.int .i64 x9)] h (s94l3_R F)
def s94l3_E (F : Nat → s94l3_T) (x0 x1 : AVal) (x2 : Int) (x3 x4 : AVal) (x5 x6 : Int) (x7 : AVal) (x8 x9 : Int) (h : Heap) : Prop := gJ [.any, .any, .int .i64, .any, .any, .int .i64, .int .i64, .any, .int .i64, .int .i64] [x0, x1, (.int .i64 x2), x3, x4, (.int .i64 x5), (.int .i64 x6), x7, (.int .i64 x8), (.int .i64 x9)] h (fun l h => ∃ n, s94l3_R (F n) l h)
theorem s94l3_go {F : s94l3_T} {x0 x1 : AVal} {x2 : Int} {x3 x4 : AVal} {x5 x6 : Int} {x7 : AVal} {x8 x9 : Int} {h : Heap} (H : F x0 x1 x2 x3 x4 x5 x6 x7 x8 x9 h) : s94l3_G F x0 x1 x2 x3 x4 x5 x6 x7 x8 x9 h := gJ_plain rfl H
theorem s94l3_in {F : Nat → s94l3_T} {x0 x1 : AVal} {x2 : Int} {x3 x4 : AVal} {x5 x6 : Int} {x7 : AVal} {x8 x9 : Int} {h : Heap} (n : Nat) (H : F n x0 x1 x2 x3 x4 x5 x6 x7 x8 x9 h) : s94l3_E F x0 x1 x2 x3 x4 x5 x6 x7 x8 x9 h := gJ_plain rfl ⟨n, H⟩

def s94c4 (Ψ : AVal → Heap → Prop) (L1 : s94l1_T) (L2 : s94l2_T) (L3 : s94l3_T) (m3 out3 : AVal) (w2 : Int) (in_2 wait2 : AVal) (t16_3 t17_3 : Int) (t36_1 : AVal) (t37_1 t38_1 : Int) (h : Heap) : Prop :=
  rg (t38_1 + 1) (
    L3 m3 out3 w2 in_2 wait2 t16_3 t17_3 t36_1 t37_1 (t38_1 + 1) h)

def s94l3 (Ψ : AVal → Heap → Prop) (L1 : s94l1_T) (L2 : s94l2_T) : Nat → s94l3_T
  | 0, _, _, _, _, _, _, _, _, _, _, _ => False
  | n6 + 1, m2, out2, w1, in_1, wait1, t16_2, t17_2, t36, t37, t38, h =>
    ifT (decide (t38 < t37)) (
      ixS 1 t36 t38 fun p3 =>
      ld1 h p3 fun v5 =>
      tInt .i64 v5 fun v6 =>
      mapGet (.int .i64 0) h in_1 (.int .i64 v6) fun v7 b =>
      tInt .i64 v7 fun v8 =>
      ifT (v8 == 0) (
        mapGet (.int .i64 0) h in_1 (.int .i64 v6) fun v9 b1 =>
        tInt .i64 v9 fun v10 =>
        rg (v10 + 1) (
          mapPut h in_1 (.int .i64 v6) (.int .i64 (v10 + 1)) fun h_4 =>
          appC 1 8 h_4 wait1 (.lsl 1 [(.int .i64 v6)]) fun v11 h_5 =>
          s94c4 Ψ L1 L2 (s94l3_G (s94l3 Ψ L1 L2 n6)) m2 out2 w1 in_1 v11 t16_2 t17_2 t36 t37 t38 h_5)) (
        s94c4 Ψ L1 L2 (s94l3_G (s94l3 Ψ L1 L2 n6)) m2 out2 w1 in_1 wait1 t16_2 t17_2 t36 t37 t38 h)) (
      slX 1 wait1 1 none fun v12 =>
      L2 m2 out2 w1 in_1 v12 t16_2 t17_2 h)

abbrev s94l5_T := AVal → AVal → Int → AVal → Int → Int → Int → Int → Heap → Prop
def s94l5_R (F : s94l5_T) (l : List AVal) (h : Heap) : Prop := J.cons l fun x0 l => J.cons l fun x1 l => J.cons l fun v l => J.int .i64 v fun x2 => J.cons l fun x3 l => J.cons l fun v l => J.int .i64 v fun x4 => J.cons l fun v l => J.int .i64 v fun x5 => J.cons l fun v l => J.int .i64 v fun x6 => J.cons l fun v l => J.int .i64 v fun x7 => J.nil l (F x0 x1 x2 x3 x4 x5 x6 x7 h)
def s94l5_G (F : s94l5_T) (x0 x1 : AVal) (x2 : Int) (x3 : AVal) (x4 x5 x6 x7 : Int) (h : Heap) : Prop := gJ [.any, .any, .int .i64, .any, .int .i64, .int .i64, .int .i64, .int .i64] [x0, x1, (.int .i64 x2), x3, (.int .i64 x4), (.int .i64 x5), (.int .i64 x6), (.int .i64 x7)] h (s94l5_R F)
def s94l5_E (F : Nat → s94l5_T) (x0 x1 : AVal) (x2 : Int) (x3 : AVal) (x4 x5 x6 x7 : Int) (h : Heap) : Prop := gJ [.any, .any, .int .i64, .any, .int .i64, .int .i64, .int .i64, .int .i64] [x0, x1, (.int .i64 x2), x3, (.int .i64 x4), (.int .i64 x5), (.int .i64 x6), (.int .i64 x7)] h (fun l h => ∃ n, s94l5_R (F n) l h)
theorem s94l5_go {F : s94l5_T} {x0 x1 : AVal} {x2 : Int} {x3 : AVal} {x4 x5 x6 x7 : Int} {h : Heap} (H : F x0 x1 x2 x3 x4 x5 x6 x7 h) : s94l5_G F x0 x1 x2 x3 x4 x5 x6 x7 h := gJ_plain rfl H
theorem s94l5_in {F : Nat → s94l5_T} {x0 x1 : AVal} {x2 : Int} {x3 : AVal} {x4 x5 x6 x7 : Int} {h : Heap} (n : Nat) (H : F n x0 x1 x2 x3 x4 x5 x6 x7 h) : s94l5_E F x0 x1 x2 x3 x4 x5 x6 x7 h := gJ_plain rfl ⟨n, H⟩

def s94c6 (Ψ : AVal → Heap → Prop) (L1 : s94l1_T) (L5 : s94l5_T) (m5 out5 : AVal) (w4 : Int) (in_4 : AVal) (t16_5 t17_5 t57_1 t58_1 : Int) (h : Heap) : Prop :=
  rg (t58_1 + 1) (
    L5 m5 out5 w4 in_4 t16_5 t17_5 t57_1 (t58_1 + 1) h)

def s94l5 (Ψ : AVal → Heap → Prop) (L1 : s94l1_T) : Nat → s94l5_T
  | 0, _, _, _, _, _, _, _, _, _ => False
  | n9 + 1, m4, out4, w3, in_3, t16_4, t17_4, t57, t58, h =>
    ifT (decide (t58 < t57)) (
      mapGet (.int .i64 0) h in_3 (.int .i64 t58) fun v14 b2 =>
      tInt .i64 v14 fun v15 =>
      ifT (decide (0 < v15)) (
        ixS 1 out4 w3 fun p5 =>
        ld1 h p5 fun v16 =>
        appC 1 8 h v16 (.lsl 1 [(.int .i64 t58)]) fun v17 h_6 =>
        ixS 1 out4 w3 fun p6 =>
        chk (sc v17) (
          st true h_6 p6 [v17] fun h_7 =>
          s94c6 Ψ L1 (s94l5_G (s94l5 Ψ L1 n9)) m4 out4 w3 in_3 t16_4 t17_4 t57 t58 h_7)) (
        s94c6 Ψ L1 (s94l5_G (s94l5 Ψ L1 n9)) m4 out4 w3 in_3 t16_4 t17_4 t57 t58 h)) (
      rg (t17_4 + 1) (
        L1 m4 out4 t16_4 (t17_4 + 1) h))

def s94l2 (Ψ : AVal → Heap → Prop) (L1 : s94l1_T) : Nat → s94l2_T
  | 0, _, _, _, _, _, _, _, _ => False
  | n3 + 1, m1, out1, w, in_, wait, t16_1, t17_1, h =>
    lenN wait fun n4 =>
    ifT (decide (0 < n4)) (
      addOff m1 0 fun p =>
      ld1 h p fun v1 =>
      ixS 1 wait 0 fun p1 =>
      ld1 h p1 fun v2 =>
      tInt .i64 v2 fun v3 =>
      ixS 1 v1 v3 fun p2 =>
      ld1 h p2 fun v4 =>
      lenN v4 fun n5 =>
      s94l3_E (s94l3 Ψ L1 (s94l2_G (s94l2 Ψ L1 n3))) m1 out1 w in_ wait t16_1 t17_1 v4 n5 0 h) (
      addOff m1 0 fun p4 =>
      ld1 h p4 fun v13 =>
      lenN v13 fun n8 =>
      s94l5_E (s94l5 Ψ L1) m1 out1 w in_ t16_1 t17_1 n8 0 h)

def s94l1 (Ψ : AVal → Heap → Prop) : Nat → s94l1_T
  | 0, _, _, _, _, _ => False
  | n2 + 1, m, out, t16, t17, h =>
    ifT (decide (t17 < t16)) (
      newMap h fun r h_1 =>
      mapPut h_1 (.mapr r) (.int .i64 t17) (.int .i64 1) fun h_2 =>
      Sym.newRow 1 [(.int .i64 t17)] h_2 fun r1 h_3 =>
      s94l2_E (s94l2 Ψ (s94l1_G (s94l1 Ψ n2))) m out t17 (.mapr r) (.sl r1 1 0 1) t16 t17 h_3) (
      retG out h Ψ)

def s94 (Ψ : AVal → Heap → Prop) (m_Up : AVal) (m_Val : AVal) (h : Heap) : Prop :=
  lenN m_Up fun n =>
  mkS false 1 24 .nilsl h n n fun v h_ =>
  lenN m_Up fun n1 =>
  s94l1_E (s94l1 Ψ) (.lptr [m_Up, m_Val]) v n1 0 h_

def s94_A (Ψ : AVal → Heap → Prop) : Ann :=
  .seq (.reg [⟨none, [(0, true), (1, false)]⟩])
  (.seq (rA 5)
  (.seq (.seq (rA 4)
  (.block (.loop [(1, .any), (3, .any), (16, .int .i64), (17, .int .i64)] (fun n l h => s94l1_R (s94l1 Ψ n) l h) (fun L1 =>
  .seq (rA 1)
  (.seq (.cond (.leaf)
  (.leaf))
  (.seq (.block (.seq (rA 2)
  (.seq (rA 5)
  (.seq (.seq (rA 3)
  (.block (.loop [(1, .any), (3, .any), (4, .int .i64), (5, .any), (6, .any), (16, .int .i64), (17, .int .i64)] (fun n l h => s94l2_R (s94l2 Ψ (fun y0 y1 y2 y3 h => L1 [y0, y1, (.int .i64 y2), (.int .i64 y3)] h) n) l h) (fun L2 =>
  .seq (.seq (rA 3)
  (.cond (.leaf)
  (.leaf)))
  (.seq (.block (.seq (.draw [(0, false), (1, false), (2, false), (3, false), (4, false), (5, false), (6, false), (7, false), (8, false)] [0, 1, 0, 4, 12, 31, 63, 127, 0])
  (.block (.loop [(1, .any), (3, .any), (4, .int .i64), (5, .any), (6, .any), (16, .int .i64), (17, .int .i64), (36, .any), (37, .int .i64), (38, .int .i64)] (fun n l h => s94l3_R (s94l3 Ψ (fun y0 y1 y2 y3 h => L1 [y0, y1, (.int .i64 y2), (.int .i64 y3)] h) (fun y0 y1 y2 y3 y4 y5 y6 h => L2 [y0, y1, (.int .i64 y2), y3, y4, (.int .i64 y5), (.int .i64 y6)] h) n) l h) (fun L3 =>
  .seq (rA 1)
  (.seq (.cond (.leaf)
  (.leaf))
  (.cut [(1, .any), (3, .any), (4, .int .i64), (5, .any), (6, .any), (16, .int .i64), (17, .int .i64), (36, .any), (37, .int .i64), (38, .int .i64)] (fun l h => J.cons l fun x0 l => J.cons l fun x1 l => J.cons l fun v l => J.int .i64 v fun x2 => J.cons l fun x3 l => J.cons l fun x4 l => J.cons l fun v l => J.int .i64 v fun x5 => J.cons l fun v l => J.int .i64 v fun x6 => J.cons l fun x7 l => J.cons l fun v l => J.int .i64 v fun x8 => J.cons l fun v l => J.int .i64 v fun x9 => J.nil l (s94c4 Ψ (fun y0 y1 y2 y3 h => L1 [y0, y1, (.int .i64 y2), (.int .i64 y3)] h) (fun y0 y1 y2 y3 y4 y5 y6 h => L2 [y0, y1, (.int .i64 y2), y3, y4, (.int .i64 y5), (.int .i64 y6)] h) (fun y0 y1 y2 y3 y4 y5 y6 y7 y8 y9 h => L3 [y0, y1, (.int .i64 y2), y3, y4, (.int .i64 y5), (.int .i64 y6), y7, (.int .i64 y8), (.int .i64 y9)] h) x0 x1 x2 x3 x4 x5 x6 x7 x8 x9 h)) (.block (.seq (rA 3)
  (.seq (rA 4)
  (.cond (.seq (rA 5)
  (.reg [⟨none, [(0, false), (1, false), (2, true), (3, false), (4, false)]⟩]))
  (.leaf)))))
  (rA 2))))))))
  (rA 3))))))
  (.seq (rA 4)
  (.block (.loop [(1, .any), (3, .any), (4, .int .i64), (5, .any), (16, .int .i64), (17, .int .i64), (57, .int .i64), (58, .int .i64)] (fun n l h => s94l5_R (s94l5 Ψ (fun y0 y1 y2 y3 h => L1 [y0, y1, (.int .i64 y2), (.int .i64 y3)] h) n) l h) (fun L5 =>
  .seq (rA 1)
  (.seq (.cond (.leaf)
  (.leaf))
  (.cut [(1, .any), (3, .any), (4, .int .i64), (5, .any), (16, .int .i64), (17, .int .i64), (57, .int .i64), (58, .int .i64)] (fun l h => J.cons l fun x0 l => J.cons l fun x1 l => J.cons l fun v l => J.int .i64 v fun x2 => J.cons l fun x3 l => J.cons l fun v l => J.int .i64 v fun x4 => J.cons l fun v l => J.int .i64 v fun x5 => J.cons l fun v l => J.int .i64 v fun x6 => J.cons l fun v l => J.int .i64 v fun x7 => J.nil l (s94c6 Ψ (fun y0 y1 y2 y3 h => L1 [y0, y1, (.int .i64 y2), (.int .i64 y3)] h) (fun y0 y1 y2 y3 y4 y5 y6 y7 h => L5 [y0, y1, (.int .i64 y2), y3, (.int .i64 y4), (.int .i64 y5), (.int .i64 y6), (.int .i64 y7)] h) x0 x1 x2 x3 x4 x5 x6 x7 h)) (.block (.seq (rA 2)
  (.seq (rA 4)
  (.cond (.reg [⟨none, [(0, false), (1, false), (2, false), (3, false), (4, false), (5, false), (6, false), (7, true), (8, false), (9, false), (10, false)]⟩])
  (.leaf)))))
  (rA 2)))))))))))
  (rA 2)))))))
  (.seq (rA 2)
  (.leaf))))

theorem s94_ok {Ψ : AVal → Heap → Prop} {m_Up : AVal} {m_Val : AVal} {h : Heap} (H : s94 Ψ m_Up m_Val h) : ACalls prog 94 [(.agg [m_Up, m_Val])] h Ψ :=
  calls_of_evF func94 (by kernel_rfl) (by kernel_rfl) (by kernel_rfl)
    (Eq.mpr (by as_aux_lemma => kernel_rfl : oblF prog f94 (s94_A Ψ) Ψ = (True ∧ True ∧ (True ∧ (∀ (h : Heap) (x0 x1 : AVal) (x2 x3 : Int), ON (s94l1 Ψ 0 x0 x1 x2 x3 h)) ∧ ∀ n1 : Nat, (∀ (h : Heap) (x0 x1 : AVal) (x2 x3 : Int), OI (s94l1 Ψ (n1 + 1) x0 x1 x2 x3 h)) ∧ (True ∧ (True ∧ True) ∧ (True ∧ True ∧ (True ∧ (∀ (h : Heap) (x0 x1 : AVal) (x2 : Int) (x3 x4 : AVal) (x5 x6 : Int), ON (s94l2 Ψ (s94l1_G (s94l1 Ψ n1)) 0 x0 x1 x2 x3 x4 x5 x6 h)) ∧ ∀ n2 : Nat, (∀ (h : Heap) (x0 x1 : AVal) (x2 : Int) (x3 x4 : AVal) (x5 x6 : Int), OI (s94l2 Ψ (s94l1_G (s94l1 Ψ n1)) (n2 + 1) x0 x1 x2 x3 x4 x5 x6 h)) ∧ ((True ∧ True ∧ True) ∧ (True ∧ (∀ (h : Heap) (x0 x1 : AVal) (x2 : Int) (x3 x4 : AVal) (x5 x6 : Int) (x7 : AVal) (x8 x9 : Int), ON (s94l3 Ψ (s94l1_G (s94l1 Ψ n1)) (s94l2_G (s94l2 Ψ (s94l1_G (s94l1 Ψ n1)) n2)) 0 x0 x1 x2 x3 x4 x5 x6 x7 x8 x9 h)) ∧ ∀ n3 : Nat, (∀ (h : Heap) (x0 x1 : AVal) (x2 : Int) (x3 x4 : AVal) (x5 x6 : Int) (x7 : AVal) (x8 x9 : Int), OI (s94l3 Ψ (s94l1_G (s94l1 Ψ n1)) (s94l2_G (s94l2 Ψ (s94l1_G (s94l1 Ψ n1)) n2)) (n3 + 1) x0 x1 x2 x3 x4 x5 x6 x7 x8 x9 h)) ∧ (True ∧ (True ∧ True) ∧ (True ∧ True ∧ (True ∧ True) ∧ True) ∧ (∀ (h : Heap) (x0 x1 : AVal) (x2 : Int) (x3 x4 : AVal) (x5 x6 : Int) (x7 : AVal) (x8 x9 : Int), OI (s94c4 Ψ (s94l1_G (s94l1 Ψ n1)) (s94l2_G (s94l2 Ψ (s94l1_G (s94l1 Ψ n1)) n2)) (s94l3_G (s94l3 Ψ (s94l1_G (s94l1 Ψ n1)) (s94l2_G (s94l2 Ψ (s94l1_G (s94l1 Ψ n1)) n2)) n3)) x0 x1 x2 x3 x4 x5 x6 x7 x8 x9 h)) ∧ (True))) ∧ True)) ∧ True ∧ (∀ (h : Heap) (x0 x1 : AVal) (x2 : Int) (x3 : AVal) (x4 x5 x6 x7 : Int), ON (s94l5 Ψ (s94l1_G (s94l1 Ψ n1)) 0 x0 x1 x2 x3 x4 x5 x6 x7 h)) ∧ ∀ n5 : Nat, (∀ (h : Heap) (x0 x1 : AVal) (x2 : Int) (x3 : AVal) (x4 x5 x6 x7 : Int), OI (s94l5 Ψ (s94l1_G (s94l1 Ψ n1)) (n5 + 1) x0 x1 x2 x3 x4 x5 x6 x7 h)) ∧ (True ∧ (True ∧ True) ∧ (True ∧ True ∧ True ∧ True) ∧ (∀ (h : Heap) (x0 x1 : AVal) (x2 : Int) (x3 : AVal) (x4 x5 x6 x7 : Int), OI (s94c6 Ψ (s94l1_G (s94l1 Ψ n1)) (s94l5_G (s94l5 Ψ (s94l1_G (s94l1 Ψ n1)) n5)) x0 x1 x2 x3 x4 x5 x6 x7 h)) ∧ (True))) ∧ True)) ∧ True ∧ True)) ⟨trivial, ⟨trivial, ⟨⟨trivial, ⟨fun _ _ _ _ _ H => H, fun _ => ⟨fun _ _ _ _ _ H => H, ⟨trivial, ⟨⟨trivial, trivial⟩, ⟨⟨trivial, ⟨trivial, ⟨⟨trivial, ⟨fun _ _ _ _ _ _ _ _ H => H, fun _ => ⟨fun _ _ _ _ _ _ _ _ H => H, ⟨⟨trivial, ⟨trivial, trivial⟩⟩, ⟨⟨trivial, ⟨fun _ _ _ _ _ _ _ _ _ _ _ H => H, fun _ => ⟨fun _ _ _ _ _ _ _ _ _ _ _ H => H, ⟨trivial, ⟨⟨trivial, trivial⟩, ⟨⟨trivial, ⟨trivial, ⟨⟨trivial, trivial⟩, trivial⟩⟩⟩, fun _ _ _ _ _ _ _ _ _ _ _ H => H, trivial⟩⟩⟩⟩⟩⟩, trivial⟩⟩⟩⟩⟩, ⟨trivial, ⟨fun _ _ _ _ _ _ _ _ _ H => H, fun _ => ⟨fun _ _ _ _ _ _ _ _ _ H => H, ⟨trivial, ⟨⟨trivial, trivial⟩, ⟨⟨trivial, ⟨trivial, ⟨trivial, trivial⟩⟩⟩, fun _ _ _ _ _ _ _ _ _ H => H, trivial⟩⟩⟩⟩⟩⟩⟩⟩⟩, trivial⟩⟩⟩⟩⟩⟩, ⟨trivial, trivial⟩⟩⟩⟩)
    (Eq.mpr (by as_aux_lemma => kernel_rfl : evF prog f94 (s94_A Ψ) Ψ [(.agg [m_Up, m_Val])] h = s94 Ψ m_Up m_Val h) H)

/- 96 slices.ContainsFunc[[]int,int] -/
def s96 (Ψ : AVal → Heap → Prop) (s : AVal) (f : AVal) (h : Heap) : Prop :=
  callG prog 109 [s, f] h fun v h_ =>
  tInt .i64 v fun v1 =>
  retG (.bool (decide (0 ≤ v1))) h_ Ψ

def s96_A (Ψ : AVal → Heap → Prop) : Ann :=
  .seq (rA 1)
  (.seq (rA 5)
  (.leaf))

theorem s96_ok {Ψ : AVal → Heap → Prop} {s : AVal} {f : AVal} {h : Heap} (H : s96 Ψ s f h) : ACalls prog 96 [s, f] h Ψ :=
  calls_of_evF func96 (by kernel_rfl) (by kernel_rfl) (by kernel_rfl)
    (Eq.mpr (by as_aux_lemma => kernel_rfl : oblF prog f96 (s96_A Ψ) Ψ = (True ∧ True ∧ True)) ⟨trivial, ⟨trivial, trivial⟩⟩)
    (Eq.mpr (by as_aux_lemma => kernel_rfl : evF prog f96 (s96_A Ψ) Ψ [s, f] h = s96 Ψ s f h) H)

/- 98 (*dictum/dictumref03.T).Put -/
def s98c1 (Ψ : AVal → Heap → Prop) (t1 n : AVal) (h : Heap) : Prop :=
  ldN 4 h n fun l_ =>
  tCons l_ fun v l_1 =>
  tInt .i64 v fun v1 =>
  tCons l_1 fun v2 l_2 =>
  tStr v2 fun v3 =>
  tCons l_2 fun v4 l_3 =>
  tInt .i64 v4 fun v5 =>
  tCons l_3 fun v6 l_4 =>
  tInt .i64 v6 fun v7 =>
  tNil l_4 (
    callG prog 110 [t1, (.agg [(.int .i64 v1), (.str v3), (.int .i64 v5), (.int .i64 v7)])] h fun v8 h_ =>
    tTup v8 fun l_5 =>
    tCons l_5 fun v9 l_6 =>
    tInt .i64 v9 fun v10 =>
    tCons l_6 fun v11 l_7 =>
    tBool v11 fun v12 =>
    tNil l_7 (
      ifT v12 (
        retG (.tuple [(.int .i64 v10), (.int .i64 0)]) h_ Ψ) (
        nilCheckA t1 fun p =>
        addOff p 0 fun p1 =>
        ld1 h_ p1 fun v13 =>
        lenN v13 fun n1 =>
        ifT (decide (1024 ≤ n1)) (
          retG (.tuple [(.int .i64 0), (.int .i64 30)]) h_ Ψ) (
          nilCheckA t1 fun p2 =>
          addOff p2 0 fun p3 =>
          ld1 h_ p3 fun v14 =>
          ldN 4 h_ n fun l_8 =>
          tCons l_8 fun v15 l_9 =>
          tInt .i64 v15 fun v16 =>
          tCons l_9 fun v17 l_10 =>
          tStr v17 fun v18 =>
          tCons l_10 fun v19 l_11 =>
          tInt .i64 v19 fun v20 =>
          tCons l_11 fun v21 l_12 =>
          tInt .i64 v21 fun v22 =>
          tNil l_12 (
            (ld1 h_ p3 fun v23 =>
            v23 = v14) ∧
            appC 4 40 h_ v14 (.lsl 4 [(.agg [(.int .i64 v16), (.str v18), (.int .i64 v20), (.int .i64 v22)])]) fun v24 h_1 =>
            nilCheckA t1 fun p4 =>
            addOff p4 0 fun p5 =>
            chk (sc v24) (
              st true h_1 p5 [v24] fun h_2 =>
              nilCheckA t1 fun p6 =>
              addOff p6 0 fun p7 =>
              ld1 h_2 p7 fun v25 =>
              lenN v25 fun n2 =>
              rg (n2 - 1) (
                retG (.tuple [(.int .i64 (n2 - 1)), (.int .i64 0)]) h_2 Ψ)))))))

def s98c2 (Ψ : AVal → Heap → Prop) (t2 n3 : AVal) (t19 : Bool) (h : Heap) : Prop :=
  ifT t19 (
    retG (.tuple [(.int .i64 0), (.int .i64 31)]) h Ψ) (
    addOff n3 1 fun p8 =>
    ld1 h p8 fun v26 =>
    tStr v26 fun v27 =>
    callG prog 28 [(.str v27)] h fun v28 h_3 =>
    tBool v28 fun v29 =>
    ifT (!v29) (
      retG (.tuple [(.int .i64 0), (.int .i64 32)]) h_3 Ψ) (
      s98c1 Ψ t2 n3 h_3))

def s98c3 (Ψ : AVal → Heap → Prop) (t3 n4 : AVal) (t38 : Bool) (h : Heap) : Prop :=
  ifT t38 (
    retG (.tuple [(.int .i64 0), (.int .i64 31)]) h Ψ) (
    s98c1 Ψ t3 n4 h)

def s98c5 (Ψ : AVal → Heap → Prop) (t5 n6 : AVal) (t59 : Bool) (h : Heap) : Prop :=
  ifT t59 (
    retG (.tuple [(.int .i64 0), (.int .i64 31)]) h Ψ) (
    s98c1 Ψ t5 n6 h)

def s98c4 (Ψ : AVal → Heap → Prop) (t4 n5 : AVal) (t39 : Bool) (h : Heap) : Prop :=
  ifT t39 (
    addOff n5 1 fun p9 =>
    ld1 h p9 fun v30 =>
    tStr v30 fun v31 =>
    ifT (!strEq v31 (ByteArray.mk #[])) (
      s98c5 Ψ t4 n5 true h) (
      addOff n5 2 fun p10 =>
      ld1 h p10 fun v32 =>
      tInt .i64 v32 fun v33 =>
      callG prog 50 [t4, (.int .i64 v33)] h fun v34 h_4 =>
      tBool v34 fun v35 =>
      ifT (!v35) (
        s98c5 Ψ t4 n5 true h_4) (
        addOff n5 3 fun p11 =>
        ld1 h_4 p11 fun v36 =>
        tInt .i64 v36 fun v37 =>
        callG prog 50 [t4, (.int .i64 v37)] h_4 fun v38 h_5 =>
        tBool v38 fun v39 =>
        s98c5 Ψ t4 n5 (!v39) h_5))) (
    retG (.tuple [(.int .i64 0), (.int .i64 31)]) h Ψ)

def s98 (Ψ : AVal → Heap → Prop) (t : AVal) (n_Kind : Int) (n_Name : ByteArray) (n_L : Int) (n_R : Int) (h : Heap) : Prop :=
  ifT (n_Kind == 1) (
    ifT (n_L != 0) (
      s98c2 Ψ t (.lptr [(.int .i64 n_Kind), (.str n_Name), (.int .i64 n_L), (.int .i64 n_R)]) true h) (
      s98c2 Ψ t (.lptr [(.int .i64 n_Kind), (.str n_Name), (.int .i64 n_L), (.int .i64 n_R)]) (n_R != 0) h)) (
    ifT (n_Kind == 2) (
      ifT (!strEq n_Name (ByteArray.mk #[])) (
        s98c3 Ψ t (.lptr [(.int .i64 n_Kind), (.str n_Name), (.int .i64 n_L), (.int .i64 n_R)]) true h) (
        ifT (n_L != 0) (
          s98c3 Ψ t (.lptr [(.int .i64 n_Kind), (.str n_Name), (.int .i64 n_L), (.int .i64 n_R)]) true h) (
          s98c3 Ψ t (.lptr [(.int .i64 n_Kind), (.str n_Name), (.int .i64 n_L), (.int .i64 n_R)]) (n_R != 0) h))) (
      ifT (n_Kind == 3) (
        s98c4 Ψ t (.lptr [(.int .i64 n_Kind), (.str n_Name), (.int .i64 n_L), (.int .i64 n_R)]) (n_Kind == 3) h) (
        ifT (n_Kind == 4) (
          s98c4 Ψ t (.lptr [(.int .i64 n_Kind), (.str n_Name), (.int .i64 n_L), (.int .i64 n_R)]) (n_Kind == 4) h) (
          s98c4 Ψ t (.lptr [(.int .i64 n_Kind), (.str n_Name), (.int .i64 n_L), (.int .i64 n_R)]) (n_Kind == 5) h))))

def s98_A (Ψ : AVal → Heap → Prop) : Ann :=
  .seq (.reg [⟨none, [(0, true), (1, false), (2, false)]⟩])
  (.cut [(0, .any), (3, .any)] (fun l h => J.cons l fun x0 l => J.cons l fun x1 l => J.nil l (s98c1 Ψ x0 x1 h)) (.seq (rA 2)
  (.block (.seq (rA 2)
  (.cond (.seq (.cut [(0, .any), (3, .any), (19, .bool)] (fun l h => J.cons l fun x0 l => J.cons l fun x1 l => J.cons l fun v l => J.bool v fun x2 => J.nil l (s98c2 Ψ x0 x1 x2 h)) (.reg [⟨none, [(0, false), (1, false), (2, false), (3, false)]⟩, ⟨some (15, false), [(4, false), (5, false), (6, false)]⟩, ⟨none, [(7, false)]⟩])
  (.cond (.seq (rA 2)
  (.leaf))
  (.leaf)))
  (.seq (rA 4)
  (.cond (.seq (rA 2)
  (.leaf))
  (.leaf))))
  (.seq (rA 2)
  (.cond (.cut [(0, .any), (3, .any), (38, .bool)] (fun l h => J.cons l fun x0 l => J.cons l fun x1 l => J.cons l fun v l => J.bool v fun x2 => J.nil l (s98c3 Ψ x0 x1 x2 h)) (.reg [⟨none, [(0, false), (1, false), (2, false), (3, false)]⟩, ⟨some (29, false), [(4, false), (5, false), (6, false)]⟩, ⟨none, [(7, false), (8, false)]⟩, ⟨some (34, false), [(9, false), (10, false), (11, false)]⟩, ⟨none, [(12, false)]⟩])
  (.cond (.seq (rA 2)
  (.leaf))
  (.leaf)))
  (.cut [(0, .any), (3, .any), (39, .bool)] (fun l h => J.cons l fun x0 l => J.cons l fun x1 l => J.cons l fun v l => J.bool v fun x2 => J.nil l (s98c4 Ψ x0 x1 x2 h)) (.seq (rA 2)
  (.cond (.leaf)
  (.seq (rA 2)
  (.cond (.leaf)
  (rA 2)))))
  (.cond (.cut [(0, .any), (3, .any), (59, .bool)] (fun l h => J.cons l fun x0 l => J.cons l fun x1 l => J.cons l fun v l => J.bool v fun x2 => J.nil l (s98c5 Ψ x0 x1 x2 h)) (.reg [⟨none, [(0, false), (1, false), (2, false), (3, false)]⟩, ⟨some (46, false), [(4, false), (5, false), (6, false), (7, false), (8, false)]⟩, ⟨none, [(9, false), (10, false)]⟩, ⟨some (53, false), [(11, false), (12, false), (13, false), (14, false), (15, false)]⟩, ⟨none, [(16, false)]⟩])
  (.cond (.seq (rA 2)
  (.leaf))
  (.leaf)))
  (.seq (rA 2)
  (.leaf))))))))))
  (.seq (rA 8)
  (.seq (.seq (rA 1)
  (.cond (.seq (rA 3)
  (.leaf))
  (.leaf)))
  (.seq (.seq (rA 6)
  (.cond (.seq (rA 2)
  (.leaf))
  (.leaf)))
  (.seq (.draw [(0, false), (1, false), (2, false), (3, false), (4, false), (5, false), (6, true), (7, false), (8, false), (9, false), (10, false)] [0, 0, 2, 6, 14, 0, 32, 126, 255, 511, 1023])
  (.seq (rA 8)
  (.leaf)))))))

theorem s98_ok {Ψ : AVal → Heap → Prop} {t : AVal} {n_Kind : Int} {n_Name : ByteArray} {n_L : Int} {n_R : Int} {h : Heap} (H : s98 Ψ t n_Kind n_Name n_L n_R h) : ACalls prog 98 [t, (.agg [(.int .i64 n_Kind), (.str n_Name), (.int .i64 n_L), (.int .i64 n_R)])] h Ψ :=
  calls_of_evF func98 (by kernel_rfl) (by kernel_rfl) (by kernel_rfl)
    (Eq.mpr (by as_aux_lemma => kernel_rfl : oblF prog f98 (s98_A Ψ) Ψ = (True ∧ (True ∧ True ∧ (((True) ∧ (∀ (h : Heap) (x0 x1 : AVal) (x2 : Bool), OI (s98c2 Ψ x0 x1 x2 h)) ∧ ((True ∧ True) ∧ True)) ∧ True ∧ (True ∧ True) ∧ True) ∧ True ∧ ((True) ∧ (∀ (h : Heap) (x0 x1 : AVal) (x2 : Bool), OI (s98c3 Ψ x0 x1 x2 h)) ∧ ((True ∧ True) ∧ True)) ∧ (True ∧ True ∧ True ∧ True ∧ True) ∧ (∀ (h : Heap) (x0 x1 : AVal) (x2 : Bool), OI (s98c4 Ψ x0 x1 x2 h)) ∧ (((True) ∧ (∀ (h : Heap) (x0 x1 : AVal) (x2 : Bool), OI (s98c5 Ψ x0 x1 x2 h)) ∧ ((True ∧ True) ∧ True)) ∧ True ∧ True)) ∧ (∀ (h : Heap) (x0 x1 : AVal), OI (s98c1 Ψ x0 x1 h)) ∧ (True ∧ (True ∧ (True ∧ True) ∧ True) ∧ (True ∧ (True ∧ True) ∧ True) ∧ True ∧ True ∧ True))) ⟨trivial, ⟨⟨trivial, ⟨trivial, ⟨⟨⟨trivial, fun _ _ _ _ H => H, ⟨⟨trivial, trivial⟩, trivial⟩⟩, ⟨trivial, ⟨⟨trivial, trivial⟩, trivial⟩⟩⟩, ⟨trivial, ⟨⟨trivial, fun _ _ _ _ H => H, ⟨⟨trivial, trivial⟩, trivial⟩⟩, ⟨⟨trivial, ⟨trivial, ⟨trivial, ⟨trivial, trivial⟩⟩⟩⟩, fun _ _ _ _ H => H, ⟨⟨trivial, fun _ _ _ _ H => H, ⟨⟨trivial, trivial⟩, trivial⟩⟩, ⟨trivial, trivial⟩⟩⟩⟩⟩⟩⟩⟩, fun _ _ _ H => H, ⟨trivial, ⟨⟨trivial, ⟨⟨trivial, trivial⟩, trivial⟩⟩, ⟨⟨trivial, ⟨⟨trivial, trivial⟩, trivial⟩⟩, ⟨trivial, ⟨trivial, trivial⟩⟩⟩⟩⟩⟩⟩)
    (Eq.mpr (by as_aux_lemma => kernel_rfl : evF prog f98 (s98_A Ψ) Ψ [t, (.agg [(.int .i64 n_Kind), (.str n_Name), (.int .i64 n_L), (.int .i64 n_R)])] h = s98 Ψ t n_Kind n_Name n_L n_R h) H)

/- 100 slices.Clone[[]dictum/api.Node,dictum/api.Node] -/
def s100 (Ψ : AVal → Heap → Prop) (s : AVal) (h : Heap) : Prop :=
  nilS s fun b =>
  ifT b (
    retG .nilsl h Ψ) (
    Sym.newRow 4 [] h fun r h_ =>
    appC 4 40 h_ (.sl r 4 0 0) s fun v h_1 =>
    retG v h_1 Ψ)

def s100_A (Ψ : AVal → Heap → Prop) : Ann :=
  .seq (rA 1)
  (.seq (.seq (rA 2)
  (.cond (.seq (rA 1)
  (.leaf))
  (.leaf)))
  (.seq (rA 4)
  (.leaf)))

theorem s100_ok {Ψ : AVal → Heap → Prop} {s : AVal} {h : Heap} (H : s100 Ψ s h) : ACalls prog 100 [s] h Ψ :=
  calls_of_evF func100 (by kernel_rfl) (by kernel_rfl) (by kernel_rfl)
    (Eq.mpr (by as_aux_lemma => kernel_rfl : oblF prog f100 (s100_A Ψ) Ψ = (True ∧ (True ∧ (True ∧ True) ∧ True) ∧ True ∧ True)) ⟨trivial, ⟨⟨trivial, ⟨⟨trivial, trivial⟩, trivial⟩⟩, ⟨trivial, trivial⟩⟩⟩)
    (Eq.mpr (by as_aux_lemma => kernel_rfl : evF prog f100 (s100_A Ψ) Ψ [s] h = s100 Ψ s h) H)

/- 102 math/bits.Len -/
def s102 (Ψ : AVal → Heap → Prop) (x : Int) (h : Heap) : Prop :=
  callG prog 122 [(.int .u64 x)] h fun v h_ =>
  tInt .i64 v fun v1 =>
  retG (.int .i64 v1) h_ Ψ

def s102_A (Ψ : AVal → Heap → Prop) : Ann :=
  .seq (rA 1)
  (.seq (.cond (.seq (rA 4)
  (.leaf))
  (.leaf))
  (.seq (rA 3)
  (.leaf)))

theorem s102_ok {Ψ : AVal → Heap → Prop} {x : Int} {h : Heap} (H : s102 Ψ x h) : ACalls prog 102 [(.int .u64 x)] h Ψ :=
  calls_of_evF func102 (by kernel_rfl) (by kernel_rfl) (by kernel_rfl)
    (Eq.mpr (by as_aux_lemma => kernel_rfl : oblF prog f102 (s102_A Ψ) Ψ = (True ∧ ((True ∧ True) ∧ True) ∧ True ∧ True)) ⟨trivial, ⟨⟨⟨trivial, trivial⟩, trivial⟩, ⟨trivial, trivial⟩⟩⟩)
    (Eq.mpr (by as_aux_lemma => kernel_rfl : evF prog f102 (s102_A Ψ) Ψ [(.int .u64 x)] h = s102 Ψ x h) H)

/- 107 dictum/worlds.asked -/
abbrev s107l1_T := AVal → AVal → AVal → Int → Int → Heap → Prop
def s107l1_R (F : s107l1_T) (l : List AVal) (h : Heap) : Prop := J.cons l fun x0 l => J.cons l fun x1 l => J.cons l fun x2 l => J.cons l fun v l => J.int .i64 v fun x3 => J.cons l fun v l => J.int .i64 v fun x4 => J.nil l (F x0 x1 x2 x3 x4 h)
def s107l1_G (F : s107l1_T) (x0 x1 x2 : AVal) (x3 x4 : Int) (h : Heap) : Prop := gJ [.any, .any, .any, .int .i64, .int .i64] [x0, x1, x2, (.int .i64 x3), (.int .i64 x4)] h (s107l1_R F)
def s107l1_E (F : Nat → s107l1_T) (x0 x1 x2 : AVal) (x3 x4 : Int) (h : Heap) : Prop := gJ [.any, .any, .any, .int .i64, .int .i64] [x0, x1, x2, (.int .i64 x3), (.int .i64 x4)] h (fun l h => ∃ n, s107l1_R (F n) l h)
theorem s107l1_go {F : s107l1_T} {x0 x1 x2 : AVal} {x3 x4 : Int} {h : Heap} (H : F x0 x1 x2 x3 x4 h) : s107l1_G F x0 x1 x2 x3 x4 h := gJ_plain rfl H
theorem s107l1_in {F : Nat → s107l1_T} {x0 x1 x2 : AVal} {x3 x4 : Int} {h : Heap} (n : Nat) (H : F n x0 x1 x2 x3 x4 h) : s107l1_E F x0 x1 x2 x3 x4 h := gJ_plain rfl ⟨n, H⟩

def s107c2 (Ψ : AVal → Heap → Prop) (L1 : s107l1_T) (m1 leq1 t17_1 : AVal) (t18_1 t19_1 : Int) (t31 : Bool) (h : Heap) : Prop :=
  ifT t31 (
    retG (.tuple [.nilfunc, (.int .i64 2)]) h Ψ) (
    rg (t19_1 + 1) (
      L1 m1 leq1 t17_1 t18_1 (t19_1 + 1) h))

def s107l1 (Ψ : AVal → Heap → Prop) : Nat → s107l1_T
  | 0, _, _, _, _, _, _ => False
  | n1 + 1, m, leq, t17, t18, t19, h =>
    ifT (decide (t19 < t18)) (
      ixS 1 t17 t19 fun p =>
      ld1 h p fun v4 =>
      tInt .i64 v4 fun v5 =>
      ifT (decide (v5 < 0)) (
        s107c2 Ψ (s107l1_G (s107l1 Ψ n1)) m leq t17 t18 t19 true h) (
        addOff m 0 fun p1 =>
        ld1 h p1 fun v6 =>
        lenN v6 fun n2 =>
        s107c2 Ψ (s107l1_G (s107l1 Ψ n1)) m leq t17 t18 t19 (decide (n2 ≤ v5)) h)) (
      retG (.tuple [leq, (.int .i64 0)]) h Ψ)

def s107 (Ψ : AVal → Heap → Prop) (m_Up : AVal) (m_Val : AVal) (worlds : AVal) (h : Heap) : Prop :=
  callG prog 133 [(.agg [m_Up, m_Val])] h fun v h_ =>
  tTup v fun l_ =>
  tCons l_ fun v1 l_1 =>
  tCons l_1 fun v2 l_2 =>
  tBool v2 fun v3 =>
  tNil l_2 (
    ifT (!v3) (
      retG (.tuple [.nilfunc, (.int .i64 170)]) h_ Ψ) (
      lenN worlds fun n =>
      s107l1_E (s107l1 Ψ) (.lptr [m_Up, m_Val]) v1 worlds n 0 h_))

def s107_A (Ψ : AVal → Heap → Prop) : Ann :=
  .seq (.reg [⟨none, [(0, true), (1, false), (2, false)]⟩])
  (.seq (rA 7)
  (.seq (.seq (rA 2)
  (.cond (.seq (rA 2)
  (.leaf))
  (.leaf)))
  (.seq (.seq (rA 3)
  (.block (.loop [(2, .any), (6, .any), (17, .any), (18, .int .i64), (19, .int .i64)] (fun n l h => s107l1_R (s107l1 Ψ n) l h) (fun L1 =>
  .seq (rA 1)
  (.seq (.cond (.leaf)
  (.leaf))
  (.seq (.block (.seq (rA 3)
  (.cut [(2, .any), (6, .any), (17, .any), (18, .int .i64), (19, .int .i64), (31, .bool)] (fun l h => J.cons l fun x0 l => J.cons l fun x1 l => J.cons l fun x2 l => J.cons l fun v l => J.int .i64 v fun x3 => J.cons l fun v l => J.int .i64 v fun x4 => J.cons l fun v l => J.bool v fun x5 => J.nil l (s107c2 Ψ (fun y0 y1 y2 y3 y4 h => L1 [y0, y1, y2, (.int .i64 y3), (.int .i64 y4)] h) x0 x1 x2 x3 x4 x5 h)) (.reg [⟨none, [(0, false), (1, false), (2, false)]⟩, ⟨some (25, false), [(3, false), (4, false), (5, false), (6, false), (7, false)]⟩, ⟨none, [(8, false)]⟩])
  (.cond (.seq (rA 2)
  (.leaf))
  (.leaf)))))
  (rA 2)))))))
  (.seq (rA 3)
  (.leaf)))))

theorem s107_ok {Ψ : AVal → Heap → Prop} {m_Up : AVal} {m_Val : AVal} {worlds : AVal} {h : Heap} (H : s107 Ψ m_Up m_Val worlds h) : ACalls prog 107 [(.agg [m_Up, m_Val]), worlds] h Ψ :=
  calls_of_evF func107 (by kernel_rfl) (by kernel_rfl) (by kernel_rfl)
    (Eq.mpr (by as_aux_lemma => kernel_rfl : oblF prog f107 (s107_A Ψ) Ψ = (True ∧ True ∧ (True ∧ (True ∧ True) ∧ True) ∧ (True ∧ (∀ (h : Heap) (x0 x1 x2 : AVal) (x3 x4 : Int), ON (s107l1 Ψ 0 x0 x1 x2 x3 x4 h)) ∧ ∀ n1 : Nat, (∀ (h : Heap) (x0 x1 x2 : AVal) (x3 x4 : Int), OI (s107l1 Ψ (n1 + 1) x0 x1 x2 x3 x4 h)) ∧ (True ∧ (True ∧ True) ∧ (True ∧ (True) ∧ (∀ (h : Heap) (x0 x1 x2 : AVal) (x3 x4 : Int) (x5 : Bool), OI (s107c2 Ψ (s107l1_G (s107l1 Ψ n1)) x0 x1 x2 x3 x4 x5 h)) ∧ ((True ∧ True) ∧ True)) ∧ True)) ∧ True ∧ True)) ⟨trivial, ⟨trivial, ⟨⟨trivial, ⟨⟨trivial, trivial⟩, trivial⟩⟩, ⟨⟨trivial, ⟨fun _ _ _ _ _ _ H => H, fun _ => ⟨fun _ _ _ _ _ _ H => H, ⟨trivial, ⟨⟨trivial, trivial⟩, ⟨⟨trivial, ⟨trivial, fun _ _ _ _ _ _ _ H => H, ⟨⟨trivial, trivial⟩, trivial⟩⟩⟩, trivial⟩⟩⟩⟩⟩⟩, ⟨trivial, trivial⟩⟩⟩⟩⟩)
    (Eq.mpr (by as_aux_lemma => kernel_rfl : evF prog f107 (s107_A Ψ) Ψ [(.agg [m_Up, m_Val]), worlds] h = s107 Ψ m_Up m_Val worlds h) H)

/- 109 slices.IndexFunc[[]int,int] -/
abbrev s109l1_T := AVal → AVal → Int → Int → Heap → Prop
def s109l1_R (F : s109l1_T) (l : List AVal) (h : Heap) : Prop := J.cons l fun x0 l => J.cons l fun x1 l => J.cons l fun v l => J.int .i64 v fun x2 => J.cons l fun v l => J.int .i64 v fun x3 => J.nil l (F x0 x1 x2 x3 h)
def s109l1_G (F : s109l1_T) (x0 x1 : AVal) (x2 x3 : Int) (h : Heap) : Prop := gJ [.any, .any, .int .i64, .int .i64] [x0, x1, (.int .i64 x2), (.int .i64 x3)] h (s109l1_R F)
def s109l1_E (F : Nat → s109l1_T) (x0 x1 : AVal) (x2 x3 : Int) (h : Heap) : Prop := gJ [.any, .any, .int .i64, .int .i64] [x0, x1, (.int .i64 x2), (.int .i64 x3)] h (fun l h => ∃ n, s109l1_R (F n) l h)
theorem s109l1_go {F : s109l1_T} {x0 x1 : AVal} {x2 x3 : Int} {h : Heap} (H : F x0 x1 x2 x3 h) : s109l1_G F x0 x1 x2 x3 h := gJ_plain rfl H
theorem s109l1_in {F : Nat → s109l1_T} {x0 x1 : AVal} {x2 x3 : Int} {h : Heap} (n : Nat) (H : F n x0 x1 x2 x3 h) : s109l1_E F x0 x1 x2 x3 h := gJ_plain rfl ⟨n, H⟩

def s109l1 (Ψ : AVal → Heap → Prop) : Nat → s109l1_T
  | 0, _, _, _, _, _ => False
  | n1 + 1, s1, f1, t7, t8, h =>
    ifT (decide (t8 < t7)) (
      ixS 1 s1 t8 fun p =>
      ld1 h p fun v =>
      tInt .i64 v fun v1 =>
      callV prog f1 [(.int .i64 v1)] h fun v2 h_ =>
      tBool v2 fun v3 =>
      ifT v3 (
        retG (.int .i64 t8) h_ Ψ) (
        rg (t8 + 1) (
          s109l1_G (s109l1 Ψ n1) s1 f1 t7 (t8 + 1) h_))) (
      retG (.int .i64 (-1)) h Ψ)

def s109 (Ψ : AVal → Heap → Prop) (s : AVal) (f : AVal) (h : Heap) : Prop :=
  lenN s fun n =>
  s109l1_E (s109l1 Ψ) s f n 0 h

def s109_A (Ψ : AVal → Heap → Prop) : Ann :=
  .seq (rA 1)
  (.seq (.seq (rA 3)
  (.block (.loop [(0, .any), (1, .any), (7, .int .i64), (8, .int .i64)] (fun n l h => s109l1_R (s109l1 Ψ n) l h) (fun L1 =>
  .seq (rA 1)
  (.seq (.cond (.leaf)
  (.leaf))
  (.seq (.block (.seq (rA 2)
  (.seq (rA 6)
  (.cond (.seq (rA 2)
  (.leaf))
  (.leaf)))))
  (rA 2)))))))
  (.seq (rA 1)
  (.leaf)))

theorem s109_ok {Ψ : AVal → Heap → Prop} {s : AVal} {f : AVal} {h : Heap} (H : s109 Ψ s f h) : ACalls prog 109 [s, f] h Ψ :=
  calls_of_evF func109 (by kernel_rfl) (by kernel_rfl) (by kernel_rfl)
    (Eq.mpr (by as_aux_lemma => kernel_rfl : oblF prog f109 (s109_A Ψ) Ψ = (True ∧ (True ∧ (∀ (h : Heap) (x0 x1 : AVal) (x2 x3 : Int), ON (s109l1 Ψ 0 x0 x1 x2 x3 h)) ∧ ∀ n1 : Nat, (∀ (h : Heap) (x0 x1 : AVal) (x2 x3 : Int), OI (s109l1 Ψ (n1 + 1) x0 x1 x2 x3 h)) ∧ (True ∧ (True ∧ True) ∧ (True ∧ True ∧ (True ∧ True) ∧ True) ∧ True)) ∧ True ∧ True)) ⟨trivial, ⟨⟨trivial, ⟨fun _ _ _ _ _ H => H, fun _ => ⟨fun _ _ _ _ _ H => H, ⟨trivial, ⟨⟨trivial, trivial⟩, ⟨⟨trivial, ⟨trivial, ⟨⟨trivial, trivial⟩, trivial⟩⟩⟩, trivial⟩⟩⟩⟩⟩⟩, ⟨trivial, trivial⟩⟩⟩)
    (Eq.mpr (by as_aux_lemma => kernel_rfl : evF prog f109 (s109_A Ψ) Ψ [s, f] h = s109 Ψ s f h) H)

/- 111 (*dictum/formula.Table).fits -/
def s111c1 (Ψ : AVal → Heap → Prop) (h : Heap) : Prop :=
  retG (.int .i64 0) h Ψ

def s111c2 (Ψ : AVal → Heap → Prop) (n : AVal) (t16 : Bool) (h : Heap) : Prop :=
  ifT t16 (
    retG (.int .i64 31) h Ψ) (
    addOff n 1 fun p =>
    ld1 h p fun v =>
    tStr v fun v1 =>
    callG prog 24 [(.str v1)] h fun v2 h_ =>
    tBool v2 fun v3 =>
    ifT (!v3) (
      retG (.int .i64 32) h_ Ψ) (
      s111c1 Ψ h_))

def s111c4 (Ψ : AVal → Heap → Prop) (t46 : Bool) (h : Heap) : Prop :=
  ifT t46 (
    retG (.int .i64 31) h Ψ) (
    s111c1 Ψ h)

def s111c3 (Ψ : AVal → Heap → Prop) (t1 n1 : AVal) (t26 : Bool) (h : Heap) : Prop :=
  ifT t26 (
    addOff n1 1 fun p1 =>
    ld1 h p1 fun v4 =>
    tStr v4 fun v5 =>
    ifT (!strEq v5 (ByteArray.mk #[])) (
      s111c4 Ψ true h) (
      addOff n1 2 fun p2 =>
      ld1 h p2 fun v6 =>
      tInt .i64 v6 fun v7 =>
      callG prog 75 [t1, (.int .i64 v7)] h fun v8 h_1 =>
      tBool v8 fun v9 =>
      ifT (!v9) (
        s111c4 Ψ true h_1) (
        addOff n1 3 fun p3 =>
        ld1 h_1 p3 fun v10 =>
        tInt .i64 v10 fun v11 =>
        callG prog 75 [t1, (.int .i64 v11)] h_1 fun v12 h_2 =>
        tBool v12 fun v13 =>
        s111c4 Ψ (!v13) h_2))) (
    retG (.int .i64 31) h Ψ)

def s111 (Ψ : AVal → Heap → Prop) (t : AVal) (n_Kind : Int) (n_Name : ByteArray) (n_L : Int) (n_R : Int) (h : Heap) : Prop :=
  ifT (n_Kind == 1) (
    ifT (n_L != 0) (
      s111c2 Ψ (.lptr [(.int .i64 n_Kind), (.str n_Name), (.int .i64 n_L), (.int .i64 n_R)]) true h) (
      s111c2 Ψ (.lptr [(.int .i64 n_Kind), (.str n_Name), (.int .i64 n_L), (.int .i64 n_R)]) (n_R != 0) h)) (
    ifT (n_Kind == 2) (
      eqQ prog 54 (.agg [(.int .i64 n_Kind), (.str n_Name), (.int .i64 n_L), (.int .i64 n_R)]) (.agg [(.int .i64 2), (.str (ByteArray.mk #[])), (.int .i64 0), (.int .i64 0)]) fun b =>
      ifT (!b) (
        retG (.int .i64 31) h Ψ) (
        s111c1 Ψ h)) (
      ifT (n_Kind == 3) (
        s111c3 Ψ t (.lptr [(.int .i64 n_Kind), (.str n_Name), (.int .i64 n_L), (.int .i64 n_R)]) (n_Kind == 3) h) (
        ifT (n_Kind == 4) (
          s111c3 Ψ t (.lptr [(.int .i64 n_Kind), (.str n_Name), (.int .i64 n_L), (.int .i64 n_R)]) (n_Kind == 4) h) (
          s111c3 Ψ t (.lptr [(.int .i64 n_Kind), (.str n_Name), (.int .i64 n_L), (.int .i64 n_R)]) (n_Kind == 5) h))))

def s111_A (Ψ : AVal → Heap → Prop) : Ann :=
  .seq (.reg [⟨none, [(0, true), (1, false)]⟩])
  (.cut [] (fun l h => J.nil l (s111c1 Ψ h)) (.seq (rA 2)
  (.block (.seq (rA 2)
  (.cond (.seq (.cut [(3, .any), (16, .bool)] (fun l h => J.cons l fun x0 l => J.cons l fun v l => J.bool v fun x1 => J.nil l (s111c2 Ψ x0 x1 h)) (.reg [⟨none, [(0, false), (1, false), (2, false), (3, false)]⟩, ⟨some (12, false), [(4, false), (5, false), (6, false)]⟩, ⟨none, [(7, false)]⟩])
  (.cond (.seq (rA 1)
  (.leaf))
  (.leaf)))
  (.seq (rA 4)
  (.cond (.seq (rA 1)
  (.leaf))
  (.leaf))))
  (.seq (rA 2)
  (.cond (.seq (rA 3)
  (.cond (.seq (rA 1)
  (.leaf))
  (.leaf)))
  (.cut [(0, .any), (3, .any), (26, .bool)] (fun l h => J.cons l fun x0 l => J.cons l fun x1 l => J.cons l fun v l => J.bool v fun x2 => J.nil l (s111c3 Ψ x0 x1 x2 h)) (.seq (rA 2)
  (.cond (.leaf)
  (.seq (rA 2)
  (.cond (.leaf)
  (rA 2)))))
  (.cond (.cut [(46, .bool)] (fun l h => J.cons l fun v l => J.bool v fun x0 => J.nil l (s111c4 Ψ x0 h)) (.reg [⟨none, [(0, false), (1, false), (2, false), (3, false)]⟩, ⟨some (33, false), [(4, false), (5, false), (6, false), (7, false), (8, false)]⟩, ⟨none, [(9, false), (10, false)]⟩, ⟨some (40, false), [(11, false), (12, false), (13, false), (14, false), (15, false)]⟩, ⟨none, [(16, false)]⟩])
  (.cond (.seq (rA 1)
  (.leaf))
  (.leaf)))
  (.seq (rA 1)
  (.leaf))))))))))
  (.seq (rA 1)
  (.leaf)))

theorem s111_ok {Ψ : AVal → Heap → Prop} {t : AVal} {n_Kind : Int} {n_Name : ByteArray} {n_L : Int} {n_R : Int} {h : Heap} (H : s111 Ψ t n_Kind n_Name n_L n_R h) : ACalls prog 111 [t, (.agg [(.int .i64 n_Kind), (.str n_Name), (.int .i64 n_L), (.int .i64 n_R)])] h Ψ :=
  calls_of_evF func111 (by kernel_rfl) (by kernel_rfl) (by kernel_rfl)
    (Eq.mpr (by as_aux_lemma => kernel_rfl : oblF prog f111 (s111_A Ψ) Ψ = (True ∧ (True ∧ True ∧ (((True) ∧ (∀ (h : Heap) (x0 : AVal) (x1 : Bool), OI (s111c2 Ψ x0 x1 h)) ∧ ((True ∧ True) ∧ True)) ∧ True ∧ (True ∧ True) ∧ True) ∧ True ∧ (True ∧ (True ∧ True) ∧ True) ∧ (True ∧ True ∧ True ∧ True ∧ True) ∧ (∀ (h : Heap) (x0 x1 : AVal) (x2 : Bool), OI (s111c3 Ψ x0 x1 x2 h)) ∧ (((True) ∧ (∀ (h : Heap) (x0 : Bool), OI (s111c4 Ψ x0 h)) ∧ ((True ∧ True) ∧ True)) ∧ True ∧ True)) ∧ (∀ (h : Heap), OI (s111c1 Ψ h)) ∧ (True ∧ True))) ⟨trivial, ⟨⟨trivial, ⟨trivial, ⟨⟨⟨trivial, fun _ _ _ H => H, ⟨⟨trivial, trivial⟩, trivial⟩⟩, ⟨trivial, ⟨⟨trivial, trivial⟩, trivial⟩⟩⟩, ⟨trivial, ⟨⟨trivial, ⟨⟨trivial, trivial⟩, trivial⟩⟩, ⟨⟨trivial, ⟨trivial, ⟨trivial, ⟨trivial, trivial⟩⟩⟩⟩, fun _ _ _ _ H => H, ⟨⟨trivial, fun _ _ H => H, ⟨⟨trivial, trivial⟩, trivial⟩⟩, ⟨trivial, trivial⟩⟩⟩⟩⟩⟩⟩⟩, fun _ H => H, ⟨trivial, trivial⟩⟩⟩)
    (Eq.mpr (by as_aux_lemma => kernel_rfl : evF prog f111 (s111_A Ψ) Ψ [t, (.agg [(.int .i64 n_Kind), (.str n_Name), (.int .i64 n_L), (.int .i64 n_R)])] h = s111 Ψ t n_Kind n_Name n_L n_R h) H)

/- 122 math/bits.Len64 -/
def s122c3 (Ψ : AVal → Heap → Prop) (x3 n2 : Int) (h : Heap) : Prop :=
  ((0 : Int) ≤ (IntKind.u8.wrap x3) ∧ (IntKind.u8.wrap x3) < ((ByteArray.mk #[0, 1, 2, 2, 3, 3, 3, 3, 4, 4, 4, 4, 4, 4, 4, 4, 5, 5, 5, 5, 5, 5, 5, 5, 5, 5, 5, 5, 5, 5, 5, 5, 6, 6, 6, 6, 6, 6, 6, 6, 6, 6, 6, 6, 6, 6, 6, 6, 6, 6, 6, 6, 6, 6, 6, 6, 6, 6, 6, 6, 6, 6, 6, 6, 7, 7, 7, 7, 7, 7, 7, 7, 7, 7, 7, 7, 7, 7, 7, 7, 7, 7, 7, 7, 7, 7, 7, 7, 7, 7, 7, 7, 7, 7, 7, 7, 7, 7, 7, 7, 7, 7, 7, 7, 7, 7, 7, 7, 7, 7, 7, 7, 7, 7, 7, 7, 7, 7, 7, 7, 7, 7, 7, 7, 7, 7, 7, 7, 8, 8, 8, 8, 8, 8, 8, 8, 8, 8, 8, 8, 8, 8, 8, 8, 8, 8, 8, 8, 8, 8, 8, 8, 8, 8, 8, 8, 8, 8, 8, 8, 8, 8, 8, 8, 8, 8, 8, 8, 8, 8, 8, 8, 8, 8, 8, 8, 8, 8, 8, 8, 8, 8, 8, 8, 8, 8, 8, 8, 8, 8, 8, 8, 8, 8, 8, 8, 8, 8, 8, 8, 8, 8, 8, 8, 8, 8, 8, 8, 8, 8, 8, 8, 8, 8, 8, 8, 8, 8, 8, 8, 8, 8, 8, 8, 8, 8, 8, 8, 8, 8, 8, 8, 8, 8, 8, 8, 8, 8, 8, 8, 8, 8, 8, 8, 8, 8, 8, 8, 8, 8, 8, 8, 8, 8, 8, 8]).size : Int)) ∧
  rg (btA (ByteArray.mk #[0, 1, 2, 2, 3, 3, 3, 3, 4, 4, 4, 4, 4, 4, 4, 4, 5, 5, 5, 5, 5, 5, 5, 5, 5, 5, 5, 5, 5, 5, 5, 5, 6, 6, 6, 6, 6, 6, 6, 6, 6, 6, 6, 6, 6, 6, 6, 6, 6, 6, 6, 6, 6, 6, 6, 6, 6, 6, 6, 6, 6, 6, 6, 6, 7, 7, 7, 7, 7, 7, 7, 7, 7, 7, 7, 7, 7, 7, 7, 7, 7, 7, 7, 7, 7, 7, 7, 7, 7, 7, 7, 7, 7, 7, 7, 7, 7, 7, 7, 7, 7, 7, 7, 7, 7, 7, 7, 7, 7, 7, 7, 7, 7, 7, 7, 7, 7, 7, 7, 7, 7, 7, 7, 7, 7, 7, 7, 7, 8, 8, 8, 8, 8, 8, 8, 8, 8, 8, 8, 8, 8, 8, 8, 8, 8, 8, 8, 8, 8, 8, 8, 8, 8, 8, 8, 8, 8, 8, 8, 8, 8, 8, 8, 8, 8, 8, 8, 8, 8, 8, 8, 8, 8, 8, 8, 8, 8, 8, 8, 8, 8, 8, 8, 8, 8, 8, 8, 8, 8, 8, 8, 8, 8, 8, 8, 8, 8, 8, 8, 8, 8, 8, 8, 8, 8, 8, 8, 8, 8, 8, 8, 8, 8, 8, 8, 8, 8, 8, 8, 8, 8, 8, 8, 8, 8, 8, 8, 8, 8, 8, 8, 8, 8, 8, 8, 8, 8, 8, 8, 8, 8, 8, 8, 8, 8, 8, 8, 8, 8, 8, 8, 8, 8, 8, 8, 8]) (IntKind.u8.wrap x3)) (
    rg (n2 + (btA (ByteArray.mk #[0, 1, 2, 2, 3, 3, 3, 3, 4, 4, 4, 4, 4, 4, 4, 4, 5, 5, 5, 5, 5, 5, 5, 5, 5, 5, 5, 5, 5, 5, 5, 5, 6, 6, 6, 6, 6, 6, 6, 6, 6, 6, 6, 6, 6, 6, 6, 6, 6, 6, 6, 6, 6, 6, 6, 6, 6, 6, 6, 6, 6, 6, 6, 6, 7, 7, 7, 7, 7, 7, 7, 7, 7, 7, 7, 7, 7, 7, 7, 7, 7, 7, 7, 7, 7, 7, 7, 7, 7, 7, 7, 7, 7, 7, 7, 7, 7, 7, 7, 7, 7, 7, 7, 7, 7, 7, 7, 7, 7, 7, 7, 7, 7, 7, 7, 7, 7, 7, 7, 7, 7, 7, 7, 7, 7, 7, 7, 7, 8, 8, 8, 8, 8, 8, 8, 8, 8, 8, 8, 8, 8, 8, 8, 8, 8, 8, 8, 8, 8, 8, 8, 8, 8, 8, 8, 8, 8, 8, 8, 8, 8, 8, 8, 8, 8, 8, 8, 8, 8, 8, 8, 8, 8, 8, 8, 8, 8, 8, 8, 8, 8, 8, 8, 8, 8, 8, 8, 8, 8, 8, 8, 8, 8, 8, 8, 8, 8, 8, 8, 8, 8, 8, 8, 8, 8, 8, 8, 8, 8, 8, 8, 8, 8, 8, 8, 8, 8, 8, 8, 8, 8, 8, 8, 8, 8, 8, 8, 8, 8, 8, 8, 8, 8, 8, 8, 8, 8, 8, 8, 8, 8, 8, 8, 8, 8, 8, 8, 8, 8, 8, 8, 8, 8, 8, 8, 8]) (IntKind.u8.wrap x3))) (
      retG (.int .i64 (n2 + (btA (ByteArray.mk #[0, 1, 2, 2, 3, 3, 3, 3, 4, 4, 4, 4, 4, 4, 4, 4, 5, 5, 5, 5, 5, 5, 5, 5, 5, 5, 5, 5, 5, 5, 5, 5, 6, 6, 6, 6, 6, 6, 6, 6, 6, 6, 6, 6, 6, 6, 6, 6, 6, 6, 6, 6, 6, 6, 6, 6, 6, 6, 6, 6, 6, 6, 6, 6, 7, 7, 7, 7, 7, 7, 7, 7, 7, 7, 7, 7, 7, 7, 7, 7, 7, 7, 7, 7, 7, 7, 7, 7, 7, 7, 7, 7, 7, 7, 7, 7, 7, 7, 7, 7, 7, 7, 7, 7, 7, 7, 7, 7, 7, 7, 7, 7, 7, 7, 7, 7, 7, 7, 7, 7, 7, 7, 7, 7, 7, 7, 7, 7, 8, 8, 8, 8, 8, 8, 8, 8, 8, 8, 8, 8, 8, 8, 8, 8, 8, 8, 8, 8, 8, 8, 8, 8, 8, 8, 8, 8, 8, 8, 8, 8, 8, 8, 8, 8, 8, 8, 8, 8, 8, 8, 8, 8, 8, 8, 8, 8, 8, 8, 8, 8, 8, 8, 8, 8, 8, 8, 8, 8, 8, 8, 8, 8, 8, 8, 8, 8, 8, 8, 8, 8, 8, 8, 8, 8, 8, 8, 8, 8, 8, 8, 8, 8, 8, 8, 8, 8, 8, 8, 8, 8, 8, 8, 8, 8, 8, 8, 8, 8, 8, 8, 8, 8, 8, 8, 8, 8, 8, 8, 8, 8, 8, 8, 8, 8, 8, 8, 8, 8, 8, 8, 8, 8, 8, 8, 8, 8]) (IntKind.u8.wrap x3)))) h Ψ))

def s122c2 (Ψ : AVal → Heap → Prop) (x2 n1 : Int) (h : Heap) : Prop :=
  ifT (decide (256 ≤ x2)) (
    (0 : Int) ≤ 8 ∧
    rg (n1 + 8) (
      s122c3 Ψ (Int.fdiv x2 (2 ^ (min (Int.toNat 8) (IntKind.u64.bits)))) (n1 + 8) h)) (
    s122c3 Ψ x2 n1 h)

def s122c1 (Ψ : AVal → Heap → Prop) (x1 n : Int) (h : Heap) : Prop :=
  ifT (decide (65536 ≤ x1)) (
    (0 : Int) ≤ 16 ∧
    rg (n + 16) (
      s122c2 Ψ (Int.fdiv x1 (2 ^ (min (Int.toNat 16) (IntKind.u64.bits)))) (n + 16) h)) (
    s122c2 Ψ x1 n h)

def s122 (Ψ : AVal → Heap → Prop) (x : Int) (h : Heap) : Prop :=
  ifT (decide (4294967296 ≤ x)) (
    (0 : Int) ≤ 32 ∧
    s122c1 Ψ (Int.fdiv x (2 ^ (min (Int.toNat 32) (IntKind.u64.bits)))) 32 h) (
    s122c1 Ψ x 0 h)

def s122_A (Ψ : AVal → Heap → Prop) : Ann :=
  .seq (rA 1)
  (.cut [(0, .int .u64), (2, .int .i64)] (fun l h => J.cons l fun v l => J.int .u64 v fun x0 => J.cons l fun v l => J.int .i64 v fun x1 => J.nil l (s122c1 Ψ x0 x1 h)) (.seq (rA 2)
  (.cond (.seq (rA 3)
  (rA 1))
  (.leaf)))
  (.cut [(0, .int .u64), (2, .int .i64)] (fun l h => J.cons l fun v l => J.int .u64 v fun x0 => J.cons l fun v l => J.int .i64 v fun x1 => J.nil l (s122c2 Ψ x0 x1 h)) (.seq (rA 2)
  (.cond (.seq (rA 3)
  (rA 3))
  (.leaf)))
  (.cut [(0, .int .u64), (2, .int .i64)] (fun l h => J.cons l fun v l => J.int .u64 v fun x0 => J.cons l fun v l => J.int .i64 v fun x1 => J.nil l (s122c3 Ψ x0 x1 h)) (.seq (rA 2)
  (.cond (.seq (rA 3)
  (rA 3))
  (.leaf)))
  (.seq (rA 7)
  (.leaf)))))

theorem s122_ok {Ψ : AVal → Heap → Prop} {x : Int} {h : Heap} (H : s122 Ψ x h) : ACalls prog 122 [(.int .u64 x)] h Ψ :=
  calls_of_evF func122 (by kernel_rfl) (by kernel_rfl) (by kernel_rfl)
    (Eq.mpr (by as_aux_lemma => kernel_rfl : oblF prog f122 (s122_A Ψ) Ψ = (True ∧ (True ∧ (True ∧ True) ∧ True) ∧ (∀ (h : Heap) (x0 x1 : Int), OI (s122c1 Ψ x0 x1 h)) ∧ ((True ∧ (True ∧ True) ∧ True) ∧ (∀ (h : Heap) (x0 x1 : Int), OI (s122c2 Ψ x0 x1 h)) ∧ ((True ∧ (True ∧ True) ∧ True) ∧ (∀ (h : Heap) (x0 x1 : Int), OI (s122c3 Ψ x0 x1 h)) ∧ (True ∧ True))))) ⟨trivial, ⟨⟨trivial, ⟨⟨trivial, trivial⟩, trivial⟩⟩, fun _ _ _ H => H, ⟨⟨trivial, ⟨⟨trivial, trivial⟩, trivial⟩⟩, fun _ _ _ H => H, ⟨⟨trivial, ⟨⟨trivial, trivial⟩, trivial⟩⟩, fun _ _ _ H => H, ⟨trivial, trivial⟩⟩⟩⟩⟩)
    (Eq.mpr (by as_aux_lemma => kernel_rfl : evF prog f122 (s122_A Ψ) Ψ [(.int .u64 x)] h = s122 Ψ x h) H)

/- 133 dictum/worlds.looked -/
abbrev s133l2_T := AVal → Int → AVal → AVal → Int → Int → Heap → Prop
def s133l2_R (F : s133l2_T) (l : List AVal) (h : Heap) : Prop := J.cons l fun x0 l => J.cons l fun v l => J.int .i64 v fun x1 => J.cons l fun x2 l => J.cons l fun x3 l => J.cons l fun v l => J.int .i64 v fun x4 => J.cons l fun v l => J.int .i64 v fun x5 => J.nil l (F x0 x1 x2 x3 x4 x5 h)
def s133l2_G (F : s133l2_T) (x0 : AVal) (x1 : Int) (x2 x3 : AVal) (x4 x5 : Int) (h : Heap) : Prop := gJ [.any, .int .i64, .any, .any, .int .i64, .int .i64] [x0, (.int .i64 x1), x2, x3, (.int .i64 x4), (.int .i64 x5)] h (s133l2_R F)
def s133l2_E (F : Nat → s133l2_T) (x0 : AVal) (x1 : Int) (x2 x3 : AVal) (x4 x5 : Int) (h : Heap) : Prop := gJ [.any, .int .i64, .any, .any, .int .i64, .int .i64] [x0, (.int .i64 x1), x2, x3, (.int .i64 x4), (.int .i64 x5)] h (fun l h => ∃ n, s133l2_R (F n) l h)
theorem s133l2_go {F : s133l2_T} {x0 : AVal} {x1 : Int} {x2 x3 : AVal} {x4 x5 : Int} {h : Heap} (H : F x0 x1 x2 x3 x4 x5 h) : s133l2_G F x0 x1 x2 x3 x4 x5 h := gJ_plain rfl H
theorem s133l2_in {F : Nat → s133l2_T} {x0 : AVal} {x1 : Int} {x2 x3 : AVal} {x4 x5 : Int} {h : Heap} (n : Nat) (H : F n x0 x1 x2 x3 x4 x5 h) : s133l2_E F x0 x1 x2 x3 x4 x5 h := gJ_plain rfl ⟨n, H⟩

abbrev s133l3_T := AVal → Int → AVal → Int → AVal → AVal → Int → Int → Int → Int → Heap → Prop
def s133l3_R (F : s133l3_T) (l : List AVal) (h : Heap) : Prop := J.cons l fun x0 l => J.cons l fun v l => J.int .i64 v fun x1 => J.cons l fun x2 l => J.cons l fun v l => J.int .i64 v fun x3 => J.cons l fun x4 l => J.cons l fun x5 l => J.cons l fun v l => J.int .i64 v fun x6 => J.cons l fun v l => J.int .i64 v fun x7 => J.cons l fun v l => J.int .i64 v fun x8 => J.cons l fun v l => J.int .i64 v fun x9 => J.nil l (F x0 x1 x2 x3 x4 x5 x6 x7 x8 x9 h)
def s133l3_G (F : s133l3_T) (x0 : AVal) (x1 : Int) (x2 : AVal) (x3 : Int) (x4 x5 : AVal) (x6 x7 x8 x9 : Int) (h : Heap) : Prop := gJ [.any, .int .i64, .any, .int .i64, .any, .any, .int .i64, .int .i64, .int .i64, .int .i64] [x0, (.int .i64 x1), x2, (.int .i64 x3), x4, x5, (.int .i64 x6), (.int .i64 x7), (.int .i64 x8), (.int .i64 x9)] h (s133l3_R F)
def s133l3_E (F : Nat → s133l3_T) (x0 : AVal) (x1 : Int) (x2 : AVal) (x3 : Int) (x4 x5 : AVal) (x6 x7 x8 x9 : Int) (h : Heap) : Prop := gJ [.any, .int .i64, .any, .int .i64, .any, .any, .int .i64, .int .i64, .int .i64, .int .i64] [x0, (.int .i64 x1), x2, (.int .i64 x3), x4, x5, (.int .i64 x6), (.int .i64 x7), (.int .i64 x8), (.int .i64 x9)] h (fun l h => ∃ n, s133l3_R (F n) l h)
theorem s133l3_go {F : s133l3_T} {x0 : AVal} {x1 : Int} {x2 : AVal} {x3 : Int} {x4 x5 : AVal} {x6 x7 x8 x9 : Int} {h : Heap} (H : F x0 x1 x2 x3 x4 x5 x6 x7 x8 x9 h) : s133l3_G F x0 x1 x2 x3 x4 x5 x6 x7 x8 x9 h := gJ_plain rfl H
theorem s133l3_in {F : Nat → s133l3_T} {x0 : AVal} {x1 : Int} {x2 : AVal} {x3 : Int} {x4 x5 : AVal} {x6 x7 x8 x9 : Int} {h : Heap} (n : Nat) (H : F n x0 x1 x2 x3 x4 x5 x6 x7 x8 x9 h) : s133l3_E F x0 x1 x2 x3 x4 x5 x6 x7 x8 x9 h := gJ_plain rfl ⟨n, H⟩

def s133c4 (Ψ : AVal → Heap → Prop) (L2 : s133l2_T) (L3 : s133l3_T) (m3 : AVal) (n7 : Int) (leq2 : AVal) (a1 : Int) (l_7 t34_2 : AVal) (t35_2 t36_2 t44_1 t45_1 : Int) (h : Heap) : Prop :=
  rg (t45_1 + 1) (
    L3 m3 n7 leq2 a1 l_7 t34_2 t35_2 t36_2 t44_1 (t45_1 + 1) h)

def s133c6 (Ψ : AVal → Heap → Prop) (L2 : s133l2_T) (L3 : s133l3_T) (m5 : AVal) (n9 : Int) (leq4 : AVal) (a3 : Int) (l_9 t34_4 : AVal) (t35_4 t36_4 t44_3 t45_3 : Int) (t66 : Bool) (h : Heap) : Prop :=
  ifT t66 (
    retG (.tuple [.nilfunc, (.bool false)]) h Ψ) (
    s133c4 Ψ L2 L3 m5 n9 leq4 a3 l_9 t34_4 t35_4 t36_4 t44_3 t45_3 h)

def s133c5 (Ψ : AVal → Heap → Prop) (L2 : s133l2_T) (L3 : s133l3_T) (m4 : AVal) (n8 : Int) (leq3 : AVal) (a2 : Int) (l_8 b t34_3 : AVal) (t35_3 t36_3 t44_2 t45_2 : Int) (t57 : Bool) (h : Heap) : Prop :=
  ifT t57 (
    s133c4 Ψ L2 L3 m4 n8 leq3 a2 l_8 t34_3 t35_3 t36_3 t44_2 t45_2 h) (
    ld1 h b fun v10 =>
    tInt .i64 v10 fun v11 =>
    callV prog leq3 [(.int .i64 v11), (.int .i64 a2)] h fun v12 h_4 =>
    tBool v12 fun v13 =>
    ifT v13 (
      s133c6 Ψ L2 L3 m4 n8 leq3 a2 l_8 t34_3 t35_3 t36_3 t44_2 t45_2 true h_4) (
      callG prog 146 [l_8, (.func (.func 147) [] [m4, b])] h_4 fun v14 h_5 =>
      tBool v14 fun v15 =>
      s133c6 Ψ L2 L3 m4 n8 leq3 a2 l_8 t34_3 t35_3 t36_3 t44_2 t45_2 v15 h_5))

def s133l3 (Ψ : AVal → Heap → Prop) (L2 : s133l2_T) : Nat → s133l3_T
  | 0, _, _, _, _, _, _, _, _, _, _, _ => False
  | n6 + 1, m2, n5, leq1, a, l_6, t34_1, t35_1, t36_1, t44, t45, h =>
    ifT (decide (t45 < t44)) (
      Sym.newRow 1 [(.int .i64 0)] h fun r h_2 =>
      st true h_2 (.ptr r 0 0) [(.int .i64 t45)] fun h_3 =>
      ld1 h_3 (.ptr r 0 0) fun v16 =>
      tInt .i64 v16 fun v17 =>
      ifT (a == v17) (
        s133c5 Ψ L2 (s133l3_G (s133l3 Ψ L2 n6)) m2 n5 leq1 a l_6 (.ptr r 0 0) t34_1 t35_1 t36_1 t44 t45 true h_3) (
        ld1 h_3 (.ptr r 0 0) fun v18 =>
        tInt .i64 v18 fun v19 =>
        callV prog leq1 [(.int .i64 a), (.int .i64 v19)] h_3 fun v20 h_6 =>
        tBool v20 fun v21 =>
        s133c5 Ψ L2 (s133l3_G (s133l3 Ψ L2 n6)) m2 n5 leq1 a l_6 (.ptr r 0 0) t34_1 t35_1 t36_1 t44 t45 (!v21) h_6)) (
      rg (t36_1 + 1) (
        L2 m2 n5 leq1 t34_1 t35_1 (t36_1 + 1) h))

def s133l2 (Ψ : AVal → Heap → Prop) : Nat → s133l2_T
  | 0, _, _, _, _, _, _, _ => False
  | n4 + 1, m1, n3, leq, t34, t35, t36, h =>
    ifT (decide (t36 < t35)) (
      ixS 1 t34 t36 fun p1 =>
      ld1 h p1 fun v7 =>
      callG prog 145 [v7] h fun v8 h_1 =>
      tBool v8 fun v9 =>
      ifT (!v9) (
        retG (.tuple [.nilfunc, (.bool false)]) h_1 Ψ) (
        s133l3_E (s133l3 Ψ (s133l2_G (s133l2 Ψ n4))) m1 n3 leq t36 v7 t34 t35 t36 n3 0 h_1)) (
      retG (.tuple [leq, (.bool true)]) h Ψ)

def s133c1 (Ψ : AVal → Heap → Prop) (m : AVal) (n1 : Int) (t25 : Bool) (h : Heap) : Prop :=
  ifT t25 (
    retG (.tuple [.nilfunc, (.bool false)]) h Ψ) (
    ldN 2 h m fun l_ =>
    tCons l_ fun v l_1 =>
    tCons l_1 fun v1 l_2 =>
    tNil l_2 (
      callG prog 144 [(.agg [v, v1])] h fun v2 h_ =>
      tTup v2 fun l_3 =>
      tCons l_3 fun v3 l_4 =>
      tCons l_4 fun v4 l_5 =>
      tBool v4 fun v5 =>
      tNil l_5 (
        ifT (!v5) (
          retG (.tuple [.nilfunc, (.bool false)]) h_ Ψ) (
          addOff m 1 fun p =>
          ld1 h_ p fun v6 =>
          lenN v6 fun n2 =>
          s133l2_E (s133l2 Ψ) m n1 v3 v6 n2 0 h_))))

def s133 (Ψ : AVal → Heap → Prop) (m_Up : AVal) (m_Val : AVal) (h : Heap) : Prop :=
  lenN m_Up fun n =>
  ifT (decide (n < 1)) (
    s133c1 Ψ (.lptr [m_Up, m_Val]) n true h) (
    ifT (decide (512 < n)) (
      s133c1 Ψ (.lptr [m_Up, m_Val]) n true h) (
      lenN m_Val fun n12 =>
      s133c1 Ψ (.lptr [m_Up, m_Val]) n (n12 != n) h))

def s133_A (Ψ : AVal → Heap → Prop) : Ann :=
  .seq (.reg [⟨none, [(0, true), (1, false), (2, false)]⟩])
  (.seq (rA 4)
  (.seq (.cut [(1, .any), (4, .int .i64), (25, .bool)] (fun l h => J.cons l fun x0 l => J.cons l fun v l => J.int .i64 v fun x1 => J.cons l fun v l => J.bool v fun x2 => J.nil l (s133c1 Ψ x0 x1 x2 h)) (.reg [⟨none, [(0, false), (1, false), (2, false)]⟩, ⟨some (15, false), [(3, false), (4, false)]⟩, ⟨none, [(5, false), (6, false)]⟩, ⟨some (19, false), [(7, false), (8, false), (9, false), (10, false), (11, false)]⟩, ⟨none, [(12, false)]⟩])
  (.cond (.seq (rA 2)
  (.leaf))
  (.leaf)))
  (.seq (rA 7)
  (.seq (.seq (rA 2)
  (.cond (.seq (rA 2)
  (.leaf))
  (.leaf)))
  (.seq (.seq (rA 4)
  (.block (.loop [(1, .any), (4, .int .i64), (5, .any), (34, .any), (35, .int .i64), (36, .int .i64)] (fun n l h => s133l2_R (s133l2 Ψ n) l h) (fun L2 =>
  .seq (rA 1)
  (.seq (.cond (.leaf)
  (.leaf))
  (.seq (.block (.seq (rA 5)
  (.seq (.seq (rA 3)
  (.cond (.seq (rA 2)
  (.leaf))
  (.leaf)))
  (.seq (rA 2)
  (.block (.loop [(1, .any), (4, .int .i64), (5, .any), (7, .int .i64), (8, .any), (34, .any), (35, .int .i64), (36, .int .i64), (44, .int .i64), (45, .int .i64)] (fun n l h => s133l3_R (s133l3 Ψ (fun y0 y1 y2 y3 y4 y5 h => L2 [y0, (.int .i64 y1), y2, y3, (.int .i64 y4), (.int .i64 y5)] h) n) l h) (fun L3 =>
  .seq (rA 1)
  (.seq (.cond (.leaf)
  (.leaf))
  (.cut [(1, .any), (4, .int .i64), (5, .any), (7, .int .i64), (8, .any), (34, .any), (35, .int .i64), (36, .int .i64), (44, .int .i64), (45, .int .i64)] (fun l h => J.cons l fun x0 l => J.cons l fun v l => J.int .i64 v fun x1 => J.cons l fun x2 l => J.cons l fun v l => J.int .i64 v fun x3 => J.cons l fun x4 l => J.cons l fun x5 l => J.cons l fun v l => J.int .i64 v fun x6 => J.cons l fun v l => J.int .i64 v fun x7 => J.cons l fun v l => J.int .i64 v fun x8 => J.cons l fun v l => J.int .i64 v fun x9 => J.nil l (s133c4 Ψ (fun y0 y1 y2 y3 y4 y5 h => L2 [y0, (.int .i64 y1), y2, y3, (.int .i64 y4), (.int .i64 y5)] h) (fun y0 y1 y2 y3 y4 y5 y6 y7 y8 y9 h => L3 [y0, (.int .i64 y1), y2, (.int .i64 y3), y4, y5, (.int .i64 y6), (.int .i64 y7), (.int .i64 y8), (.int .i64 y9)] h) x0 x1 x2 x3 x4 x5 x6 x7 x8 x9 h)) (.block (.seq (rA 3)
  (.seq (.cut [(1, .any), (4, .int .i64), (5, .any), (7, .int .i64), (8, .any), (9, .any), (34, .any), (35, .int .i64), (36, .int .i64), (44, .int .i64), (45, .int .i64), (57, .bool)] (fun l h => J.cons l fun x0 l => J.cons l fun v l => J.int .i64 v fun x1 => J.cons l fun x2 l => J.cons l fun v l => J.int .i64 v fun x3 => J.cons l fun x4 l => J.cons l fun x5 l => J.cons l fun x6 l => J.cons l fun v l => J.int .i64 v fun x7 => J.cons l fun v l => J.int .i64 v fun x8 => J.cons l fun v l => J.int .i64 v fun x9 => J.cons l fun v l => J.int .i64 v fun x10 => J.cons l fun v l => J.bool v fun x11 => J.nil l (s133c5 Ψ (fun y0 y1 y2 y3 y4 y5 h => L2 [y0, (.int .i64 y1), y2, y3, (.int .i64 y4), (.int .i64 y5)] h) (fun y0 y1 y2 y3 y4 y5 y6 y7 y8 y9 h => L3 [y0, (.int .i64 y1), y2, (.int .i64 y3), y4, y5, (.int .i64 y6), (.int .i64 y7), (.int .i64 y8), (.int .i64 y9)] h) x0 x1 x2 x3 x4 x5 x6 x7 x8 x9 x10 x11 h)) (.reg [⟨none, [(0, false), (1, false), (2, false), (3, false)]⟩, ⟨some (51, false), [(4, false), (5, false), (6, false), (7, false), (8, false)]⟩, ⟨none, [(9, false)]⟩])
  (.cond (.leaf)
  (.leaf)))
  (.cut [(1, .any), (4, .int .i64), (5, .any), (7, .int .i64), (8, .any), (34, .any), (35, .int .i64), (36, .int .i64), (44, .int .i64), (45, .int .i64), (66, .bool)] (fun l h => J.cons l fun x0 l => J.cons l fun v l => J.int .i64 v fun x1 => J.cons l fun x2 l => J.cons l fun v l => J.int .i64 v fun x3 => J.cons l fun x4 l => J.cons l fun x5 l => J.cons l fun v l => J.int .i64 v fun x6 => J.cons l fun v l => J.int .i64 v fun x7 => J.cons l fun v l => J.int .i64 v fun x8 => J.cons l fun v l => J.int .i64 v fun x9 => J.cons l fun v l => J.bool v fun x10 => J.nil l (s133c6 Ψ (fun y0 y1 y2 y3 y4 y5 h => L2 [y0, (.int .i64 y1), y2, y3, (.int .i64 y4), (.int .i64 y5)] h) (fun y0 y1 y2 y3 y4 y5 y6 y7 y8 y9 h => L3 [y0, (.int .i64 y1), y2, (.int .i64 y3), y4, y5, (.int .i64 y6), (.int .i64 y7), (.int .i64 y8), (.int .i64 y9)] h) x0 x1 x2 x3 x4 x5 x6 x7 x8 x9 x10 h)) (.reg [⟨none, [(0, false), (1, false), (2, false), (3, false), (4, false)]⟩, ⟨some (62, false), [(5, false), (6, false), (7, false)]⟩, ⟨none, [(8, false)]⟩])
  (.cond (.seq (rA 2)
  (.leaf))
  (.leaf))))))
  (rA 2))))))))))
  (rA 2)))))))
  (.seq (rA 3)
  (.leaf)))))))

theorem s133_ok {Ψ : AVal → Heap → Prop} {m_Up : AVal} {m_Val : AVal} {h : Heap} (H : s133 Ψ m_Up m_Val h) : ACalls prog 133 [(.agg [m_Up, m_Val])] h Ψ :=
  calls_of_evF func133 (by kernel_rfl) (by kernel_rfl) (by kernel_rfl)
    (Eq.mpr (by as_aux_lemma => kernel_rfl : oblF prog f133 (s133_A Ψ) Ψ = (True ∧ True ∧ ((True) ∧ (∀ (h : Heap) (x0 : AVal) (x1 : Int) (x2 : Bool), OI (s133c1 Ψ x0 x1 x2 h)) ∧ ((True ∧ True) ∧ True)) ∧ True ∧ (True ∧ (True ∧ True) ∧ True) ∧ (True ∧ (∀ (h : Heap) (x0 : AVal) (x1 : Int) (x2 x3 : AVal) (x4 x5 : Int), ON (s133l2 Ψ 0 x0 x1 x2 x3 x4 x5 h)) ∧ ∀ n2 : Nat, (∀ (h : Heap) (x0 : AVal) (x1 : Int) (x2 x3 : AVal) (x4 x5 : Int), OI (s133l2 Ψ (n2 + 1) x0 x1 x2 x3 x4 x5 h)) ∧ (True ∧ (True ∧ True) ∧ (True ∧ (True ∧ (True ∧ True) ∧ True) ∧ True ∧ (∀ (h : Heap) (x0 : AVal) (x1 : Int) (x2 : AVal) (x3 : Int) (x4 x5 : AVal) (x6 x7 x8 x9 : Int), ON (s133l3 Ψ (s133l2_G (s133l2 Ψ n2)) 0 x0 x1 x2 x3 x4 x5 x6 x7 x8 x9 h)) ∧ ∀ n3 : Nat, (∀ (h : Heap) (x0 : AVal) (x1 : Int) (x2 : AVal) (x3 : Int) (x4 x5 : AVal) (x6 x7 x8 x9 : Int), OI (s133l3 Ψ (s133l2_G (s133l2 Ψ n2)) (n3 + 1) x0 x1 x2 x3 x4 x5 x6 x7 x8 x9 h)) ∧ (True ∧ (True ∧ True) ∧ (True ∧ ((True) ∧ (∀ (h : Heap) (x0 : AVal) (x1 : Int) (x2 : AVal) (x3 : Int) (x4 x5 x6 : AVal) (x7 x8 x9 x10 : Int) (x11 : Bool), OI (s133c5 Ψ (s133l2_G (s133l2 Ψ n2)) (s133l3_G (s133l3 Ψ (s133l2_G (s133l2 Ψ n2)) n3)) x0 x1 x2 x3 x4 x5 x6 x7 x8 x9 x10 x11 h)) ∧ (True ∧ True)) ∧ (True) ∧ (∀ (h : Heap) (x0 : AVal) (x1 : Int) (x2 : AVal) (x3 : Int) (x4 x5 : AVal) (x6 x7 x8 x9 : Int) (x10 : Bool), OI (s133c6 Ψ (s133l2_G (s133l2 Ψ n2)) (s133l3_G (s133l3 Ψ (s133l2_G (s133l2 Ψ n2)) n3)) x0 x1 x2 x3 x4 x5 x6 x7 x8 x9 x10 h)) ∧ ((True ∧ True) ∧ True)) ∧ (∀ (h : Heap) (x0 : AVal) (x1 : Int) (x2 : AVal) (x3 : Int) (x4 x5 : AVal) (x6 x7 x8 x9 : Int), OI (s133c4 Ψ (s133l2_G (s133l2 Ψ n2)) (s133l3_G (s133l3 Ψ (s133l2_G (s133l2 Ψ n2)) n3)) x0 x1 x2 x3 x4 x5 x6 x7 x8 x9 h)) ∧ (True))) ∧ True)) ∧ True ∧ True)) ⟨trivial, ⟨trivial, ⟨⟨trivial, fun _ _ _ _ H => H, ⟨⟨trivial, trivial⟩, trivial⟩⟩, ⟨trivial, ⟨⟨trivial, ⟨⟨trivial, trivial⟩, trivial⟩⟩, ⟨⟨trivial, ⟨fun _ _ _ _ _ _ _ H => H, fun _ => ⟨fun _ _ _ _ _ _ _ H => H, ⟨trivial, ⟨⟨trivial, trivial⟩, ⟨⟨trivial, ⟨⟨trivial, ⟨⟨trivial, trivial⟩, trivial⟩⟩, ⟨trivial, ⟨fun _ _ _ _ _ _ _ _ _ _ _ H => H, fun _ => ⟨fun _ _ _ _ _ _ _ _ _ _ _ H => H, ⟨trivial, ⟨⟨trivial, trivial⟩, ⟨⟨trivial, ⟨⟨trivial, fun _ _ _ _ _ _ _ _ _ _ _ _ _ H => H, ⟨trivial, trivial⟩⟩, ⟨trivial, fun _ _ _ _ _ _ _ _ _ _ _ _ H => H, ⟨⟨trivial, trivial⟩, trivial⟩⟩⟩⟩, fun _ _ _ _ _ _ _ _ _ _ _ H => H, trivial⟩⟩⟩⟩⟩⟩⟩⟩, trivial⟩⟩⟩⟩⟩⟩, ⟨trivial, trivial⟩⟩⟩⟩⟩⟩⟩)
    (Eq.mpr (by as_aux_lemma => kernel_rfl : evF prog f133 (s133_A Ψ) Ψ [(.agg [m_Up, m_Val])] h = s133 Ψ m_Up m_Val h) H)

/- 145 dictum/worlds.rising -/
abbrev s145l1_T := AVal → AVal → Int → Int → Heap → Prop
def s145l1_R (F : s145l1_T) (l : List AVal) (h : Heap) : Prop := J.cons l fun x0 l => J.cons l fun x1 l => J.cons l fun v l => J.int .i64 v fun x2 => J.cons l fun v l => J.int .i64 v fun x3 => J.nil l (F x0 x1 x2 x3 h)
def s145l1_G (F : s145l1_T) (x0 x1 : AVal) (x2 x3 : Int) (h : Heap) : Prop := gJ [.any, .any, .int .i64, .int .i64] [x0, x1, (.int .i64 x2), (.int .i64 x3)] h (s145l1_R F)
def s145l1_E (F : Nat → s145l1_T) (x0 x1 : AVal) (x2 x3 : Int) (h : Heap) : Prop := gJ [.any, .any, .int .i64, .int .i64] [x0, x1, (.int .i64 x2), (.int .i64 x3)] h (fun l h => ∃ n, s145l1_R (F n) l h)
theorem s145l1_go {F : s145l1_T} {x0 x1 : AVal} {x2 x3 : Int} {h : Heap} (H : F x0 x1 x2 x3 h) : s145l1_G F x0 x1 x2 x3 h := gJ_plain rfl H
theorem s145l1_in {F : Nat → s145l1_T} {x0 x1 : AVal} {x2 x3 : Int} {h : Heap} (n : Nat) (H : F n x0 x1 x2 x3 h) : s145l1_E F x0 x1 x2 x3 h := gJ_plain rfl ⟨n, H⟩

def s145c2 (Ψ : AVal → Heap → Prop) (L1 : s145l1_T) (l_2 t5_1 : AVal) (t6_1 t7_1 : Int) (t27 : Bool) (h : Heap) : Prop :=
  ifT t27 (
    retG (.bool false) h Ψ) (
    rg (t7_1 + 1) (
      L1 l_2 t5_1 t6_1 (t7_1 + 1) h))

def s145l1 (Ψ : AVal → Heap → Prop) : Nat → s145l1_T
  | 0, _, _, _, _, _ => False
  | n1 + 1, l_1, t5, t6, t7, h =>
    ifT (decide (t7 < t6)) (
      ixS 1 t5 t7 fun p =>
      ld1 h p fun v =>
      tStr v fun v1 =>
      callG prog 24 [(.str v1)] h fun v2 h_ =>
      tBool v2 fun v3 =>
      ifT (!v3) (
        s145c2 Ψ (s145l1_G (s145l1 Ψ n1)) l_1 t5 t6 t7 true h_) (
        ifT (decide (0 < t7)) (
          rg (t7 - 1) (
            ixS 1 l_1 (t7 - 1) fun p1 =>
            ld1 h_ p1 fun v4 =>
            tStr v4 fun v5 =>
            s145c2 Ψ (s145l1_G (s145l1 Ψ n1)) l_1 t5 t6 t7 (!strLt v5 v1) h_)) (
          s145c2 Ψ (s145l1_G (s145l1 Ψ n1)) l_1 t5 t6 t7 false h_))) (
      retG (.bool true) h Ψ)

def s145 (Ψ : AVal → Heap → Prop) (l_ : AVal) (h : Heap) : Prop :=
  lenN l_ fun n =>
  s145l1_E (s145l1 Ψ) l_ l_ n 0 h

def s145_A (Ψ : AVal → Heap → Prop) : Ann :=
  .seq (rA 1)
  (.seq (.seq (rA 3)
  (.block (.loop [(0, .any), (5, .any), (6, .int .i64), (7, .int .i64)] (fun n l h => s145l1_R (s145l1 Ψ n) l h) (fun L1 =>
  .seq (rA 1)
  (.seq (.cond (.leaf)
  (.leaf))
  (.seq (.block (.seq (rA 5)
  (.cut [(0, .any), (5, .any), (6, .int .i64), (7, .int .i64), (27, .bool)] (fun l h => J.cons l fun x0 l => J.cons l fun x1 l => J.cons l fun v l => J.int .i64 v fun x2 => J.cons l fun v l => J.int .i64 v fun x3 => J.cons l fun v l => J.bool v fun x4 => J.nil l (s145c2 Ψ (fun y0 y1 y2 y3 h => L1 [y0, y1, (.int .i64 y2), (.int .i64 y3)] h) x0 x1 x2 x3 x4 h)) (.reg [⟨none, [(0, false), (1, false), (2, false), (3, false)]⟩, ⟨some (15, false), [(4, false), (5, false), (6, false)]⟩, ⟨some (18, true), [(7, false), (8, false), (9, false), (10, false), (11, false), (12, false), (13, false)]⟩, ⟨some (15, false), [(14, false)]⟩, ⟨none, [(15, false)]⟩])
  (.cond (.seq (rA 1)
  (.leaf))
  (.leaf)))))
  (rA 2)))))))
  (.seq (rA 1)
  (.leaf)))

theorem s145_ok {Ψ : AVal → Heap → Prop} {l_ : AVal} {h : Heap} (H : s145 Ψ l_ h) : ACalls prog 145 [l_] h Ψ :=
  calls_of_evF func145 (by kernel_rfl) (by kernel_rfl) (by kernel_rfl)
    (Eq.mpr (by as_aux_lemma => kernel_rfl : oblF prog f145 (s145_A Ψ) Ψ = (True ∧ (True ∧ (∀ (h : Heap) (x0 x1 : AVal) (x2 x3 : Int), ON (s145l1 Ψ 0 x0 x1 x2 x3 h)) ∧ ∀ n1 : Nat, (∀ (h : Heap) (x0 x1 : AVal) (x2 x3 : Int), OI (s145l1 Ψ (n1 + 1) x0 x1 x2 x3 h)) ∧ (True ∧ (True ∧ True) ∧ (True ∧ (True) ∧ (∀ (h : Heap) (x0 x1 : AVal) (x2 x3 : Int) (x4 : Bool), OI (s145c2 Ψ (s145l1_G (s145l1 Ψ n1)) x0 x1 x2 x3 x4 h)) ∧ ((True ∧ True) ∧ True)) ∧ True)) ∧ True ∧ True)) ⟨trivial, ⟨⟨trivial, ⟨fun _ _ _ _ _ H => H, fun _ => ⟨fun _ _ _ _ _ H => H, ⟨trivial, ⟨⟨trivial, trivial⟩, ⟨⟨trivial, ⟨trivial, fun _ _ _ _ _ _ H => H, ⟨⟨trivial, trivial⟩, trivial⟩⟩⟩, trivial⟩⟩⟩⟩⟩⟩, ⟨trivial, trivial⟩⟩⟩)
    (Eq.mpr (by as_aux_lemma => kernel_rfl : evF prog f145 (s145_A Ψ) Ψ [l_] h = s145 Ψ l_ h) H)

/- 147 dictum/worlds.looked$1 -/
def s147 (Ψ : AVal → Heap → Prop) (s : ByteArray) (c0 : AVal) (c1 : AVal) (h : Heap) : Prop :=
  addOff c0 1 fun p =>
  ld1 h p fun v =>
  ld1 h c1 fun v1 =>
  tInt .i64 v1 fun v2 =>
  ixS 1 v v2 fun p1 =>
  ld1 h p1 fun v3 =>
  callG prog 95 [v3, (.str s)] h fun v4 h_ =>
  tBool v4 fun v5 =>
  retG (.bool (!v5)) h_ Ψ

def s147_A (Ψ : AVal → Heap → Prop) : Ann :=
  .seq (rA 1)
  (.seq (rA 9)
  (.leaf))

theorem s147_ok {Ψ : AVal → Heap → Prop} {s : ByteArray} {c0 : AVal} {c1 : AVal} {h : Heap} (H : s147 Ψ s c0 c1 h) : ACalls prog 147 [(.str s), c0, c1] h Ψ :=
  calls_of_evF func147 (by kernel_rfl) (by kernel_rfl) (by kernel_rfl)
    (Eq.mpr (by as_aux_lemma => kernel_rfl : oblF prog f147 (s147_A Ψ) Ψ = (True ∧ True ∧ True)) ⟨trivial, ⟨trivial, trivial⟩⟩)
    (Eq.mpr (by as_aux_lemma => kernel_rfl : evF prog f147 (s147_A Ψ) Ψ [(.str s), c0, c1] h = s147 Ψ s c0 c1 h) H)

/- 151 slices.IndexFunc[[]string,string] -/
abbrev s151l1_T := AVal → AVal → Int → Int → Heap → Prop
def s151l1_R (F : s151l1_T) (l : List AVal) (h : Heap) : Prop := J.cons l fun x0 l => J.cons l fun x1 l => J.cons l fun v l => J.int .i64 v fun x2 => J.cons l fun v l => J.int .i64 v fun x3 => J.nil l (F x0 x1 x2 x3 h)
def s151l1_G (F : s151l1_T) (x0 x1 : AVal) (x2 x3 : Int) (h : Heap) : Prop := gJ [.any, .any, .int .i64, .int .i64] [x0, x1, (.int .i64 x2), (.int .i64 x3)] h (s151l1_R F)
def s151l1_E (F : Nat → s151l1_T) (x0 x1 : AVal) (x2 x3 : Int) (h : Heap) : Prop := gJ [.any, .any, .int .i64, .int .i64] [x0, x1, (.int .i64 x2), (.int .i64 x3)] h (fun l h => ∃ n, s151l1_R (F n) l h)
theorem s151l1_go {F : s151l1_T} {x0 x1 : AVal} {x2 x3 : Int} {h : Heap} (H : F x0 x1 x2 x3 h) : s151l1_G F x0 x1 x2 x3 h := gJ_plain rfl H
theorem s151l1_in {F : Nat → s151l1_T} {x0 x1 : AVal} {x2 x3 : Int} {h : Heap} (n : Nat) (H : F n x0 x1 x2 x3 h) : s151l1_E F x0 x1 x2 x3 h := gJ_plain rfl ⟨n, H⟩

def s151l1 (Ψ : AVal → Heap → Prop) : Nat → s151l1_T
  | 0, _, _, _, _, _ => False
  | n1 + 1, s1, f1, t7, t8, h =>
    ifT (decide (t8 < t7)) (
      ixS 1 s1 t8 fun p =>
      ld1 h p fun v =>
      tStr v fun v1 =>
      callV prog f1 [(.str v1)] h fun v2 h_ =>
      tBool v2 fun v3 =>
      ifT v3 (
        retG (.int .i64 t8) h_ Ψ) (
        rg (t8 + 1) (
          s151l1_G (s151l1 Ψ n1) s1 f1 t7 (t8 + 1) h_))) (
      retG (.int .i64 (-1)) h Ψ)

def s151 (Ψ : AVal → Heap → Prop) (s : AVal) (f : AVal) (h : Heap) : Prop :=
  lenN s fun n =>
  s151l1_E (s151l1 Ψ) s f n 0 h

def s151_A (Ψ : AVal → Heap → Prop) : Ann :=
  .seq (rA 1)
  (.seq (.seq (rA 3)
  (.block (.loop [(0, .any), (1, .any), (7, .int .i64), (8, .int .i64)] (fun n l h => s151l1_R (s151l1 Ψ n) l h) (fun L1 =>
  .seq (rA 1)
  (.seq (.cond (.leaf)
  (.leaf))
  (.seq (.block (.seq (rA 2)
  (.seq (rA 6)
  (.cond (.seq (rA 2)
  (.leaf))
  (.leaf)))))
  (rA 2)))))))
  (.seq (rA 1)
  (.leaf)))

theorem s151_ok {Ψ : AVal → Heap → Prop} {s : AVal} {f : AVal} {h : Heap} (H : s151 Ψ s f h) : ACalls prog 151 [s, f] h Ψ :=
  calls_of_evF func151 (by kernel_rfl) (by kernel_rfl) (by kernel_rfl)
    (Eq.mpr (by as_aux_lemma => kernel_rfl : oblF prog f151 (s151_A Ψ) Ψ = (True ∧ (True ∧ (∀ (h : Heap) (x0 x1 : AVal) (x2 x3 : Int), ON (s151l1 Ψ 0 x0 x1 x2 x3 h)) ∧ ∀ n1 : Nat, (∀ (h : Heap) (x0 x1 : AVal) (x2 x3 : Int), OI (s151l1 Ψ (n1 + 1) x0 x1 x2 x3 h)) ∧ (True ∧ (True ∧ True) ∧ (True ∧ True ∧ (True ∧ True) ∧ True) ∧ True)) ∧ True ∧ True)) ⟨trivial, ⟨⟨trivial, ⟨fun _ _ _ _ _ H => H, fun _ => ⟨fun _ _ _ _ _ H => H, ⟨trivial, ⟨⟨trivial, trivial⟩, ⟨⟨trivial, ⟨trivial, ⟨⟨trivial, trivial⟩, trivial⟩⟩⟩, trivial⟩⟩⟩⟩⟩⟩, ⟨trivial, trivial⟩⟩⟩)
    (Eq.mpr (by as_aux_lemma => kernel_rfl : evF prog f151 (s151_A Ψ) Ψ [s, f] h = s151 Ψ s f h) H)

end Go.Proofs.YtobpfhmjdoekfaaGreat

/- The functions that the proof meets, each as a text that Lean has checked against the program. No condition. -/
import Derived.Test.YtljglglbfcgjpaaM3
import Derived.Test.YtljglglbfcgjpaaChecked
namespace Go.Proofs.Ytljglglbfcgjpaa
open Go Go.Sym Go.Proofs.Try
set_option maxRecDepth 100000
set_option linter.unusedVariables false

/- 4 dictum/dictumlaw23.HeytingResiduates -/
def s4c2 (Ψ : AVal → Heap → Prop) (a1 : AVal) (q r m i : Int) (t89 : Bool) (h : Heap) : Prop :=
  ifT t89 (
    retG (.bool false) h Ψ) (
    addOff a1 0 fun p1 =>
    ld1 h p1 fun v18 =>
    ixS 1 v18 m fun p2 =>
    ld1 h p2 fun v19 =>
    ixS 1 v19 q fun p3 =>
    ld1 h p3 fun v20 =>
    tBool v20 fun v21 =>
    addOff a1 0 fun p4 =>
    ld1 h p4 fun v22 =>
    ixS 1 v22 r fun p5 =>
    ld1 h p5 fun v23 =>
    ixS 1 v23 i fun p6 =>
    ld1 h p6 fun v24 =>
    tBool v24 fun v25 =>
    eqQ prog 4 (.bool v21) (.bool v25) fun b =>
    ifT b (
      callG prog 7 [] h fun v26 h_4 =>
      tBool v26 fun v27 =>
      retG (.bool v27) h_4 Ψ) (
      retG (.bool false) h Ψ))

def s4c1 (Ψ : AVal → Heap → Prop) (x1 y1 z1 : Int) (a : AVal) (t24 : Bool) (h : Heap) : Prop :=
  ifT t24 (
    ldN 1 h a fun l_ =>
    tCons l_ fun v l_1 =>
    tNil l_1 (
      callG prog 10 [(.agg [v])] h fun v1 h_ =>
      tInt .i64 v1 fun v2 =>
      ifT (v2 != 0) (
        callG prog 7 [] h_ fun v3 h_1 =>
        tBool v3 fun v4 =>
        retG (.bool v4) h_1 Ψ) (
        retG (.bool false) h_ Ψ))) (
    addOff a 0 fun p =>
    ld1 h p fun v5 =>
    lenN v5 fun n =>
    (IntKind.u64.wrap n) ≠ (0 : Int) ∧
    rg (Int.tmod (IntKind.u64.wrap x1) (IntKind.u64.wrap n)) (
      (IntKind.u64.wrap n) ≠ (0 : Int) ∧
      rg (Int.tmod (IntKind.u64.wrap y1) (IntKind.u64.wrap n)) (
        (IntKind.u64.wrap n) ≠ (0 : Int) ∧
        rg (Int.tmod (IntKind.u64.wrap z1) (IntKind.u64.wrap n)) (
          ldN 1 h a fun l_2 =>
          tCons l_2 fun v6 l_3 =>
          tNil l_3 (
            callG prog 12 [(.agg [v6]), (.int .i64 (Int.tmod (IntKind.u64.wrap z1) (IntKind.u64.wrap n))), (.int .i64 (Int.tmod (IntKind.u64.wrap x1) (IntKind.u64.wrap n)))] h fun v7 h_2 =>
            tTup v7 fun l_4 =>
            tCons l_4 fun v8 l_5 =>
            tInt .i64 v8 fun v9 =>
            tCons l_5 fun v10 l_6 =>
            tInt .i64 v10 fun v11 =>
            tNil l_6 (
              ldN 1 h_2 a fun l_7 =>
              tCons l_7 fun v12 l_8 =>
              tNil l_8 (
                callG prog 13 [(.agg [v12]), (.int .i64 (Int.tmod (IntKind.u64.wrap x1) (IntKind.u64.wrap n))), (.int .i64 (Int.tmod (IntKind.u64.wrap y1) (IntKind.u64.wrap n)))] h_2 fun v13 h_3 =>
                tTup v13 fun l_9 =>
                tCons l_9 fun v14 l_10 =>
                tInt .i64 v14 fun v15 =>
                tCons l_10 fun v16 l_11 =>
                tInt .i64 v16 fun v17 =>
                tNil l_11 (
                  ifT (v11 != 0) (
                    s4c2 Ψ a (Int.tmod (IntKind.u64.wrap y1) (IntKind.u64.wrap n)) (Int.tmod (IntKind.u64.wrap z1) (IntKind.u64.wrap n)) v9 v15 true h_3) (
                    ifT (v17 != 0) (
                      s4c2 Ψ a (Int.tmod (IntKind.u64.wrap y1) (IntKind.u64.wrap n)) (Int.tmod (IntKind.u64.wrap z1) (IntKind.u64.wrap n)) v9 v15 true h_3) (
                      ifT (decide (v9 < 0)) (
                        s4c2 Ψ a (Int.tmod (IntKind.u64.wrap y1) (IntKind.u64.wrap n)) (Int.tmod (IntKind.u64.wrap z1) (IntKind.u64.wrap n)) v9 v15 true h_3) (
                        rg (IntKind.u64.wrap n) (
                          ifT (decide ((IntKind.u64.wrap n) ≤ v9)) (
                            s4c2 Ψ a (Int.tmod (IntKind.u64.wrap y1) (IntKind.u64.wrap n)) (Int.tmod (IntKind.u64.wrap z1) (IntKind.u64.wrap n)) v9 v15 true h_3) (
                            ifT (decide (v15 < 0)) (
                              s4c2 Ψ a (Int.tmod (IntKind.u64.wrap y1) (IntKind.u64.wrap n)) (Int.tmod (IntKind.u64.wrap z1) (IntKind.u64.wrap n)) v9 v15 true h_3) (
                              rg (IntKind.u64.wrap n) (
                                s4c2 Ψ a (Int.tmod (IntKind.u64.wrap y1) (IntKind.u64.wrap n)) (Int.tmod (IntKind.u64.wrap z1) (IntKind.u64.wrap n)) v9 v15 (decide ((IntKind.u64.wrap n) ≤ v15)) h_3)))))))))))))))

def s4 (Ψ : AVal → Heap → Prop) (a_Leq : AVal) (x : Int) (y : Int) (z : Int) (h : Heap) : Prop :=
  callG prog 10 [(.agg [a_Leq])] h fun v28 h_5 =>
  tInt .i64 v28 fun v29 =>
  ifT (v29 != 0) (
    s4c1 Ψ x y z (.lptr [a_Leq]) true h_5) (
    callG prog 11 [(.agg [a_Leq])] h_5 fun v30 h_6 =>
    tInt .i64 v30 fun v31 =>
    s4c1 Ψ x y z (.lptr [a_Leq]) (v31 != 0) h_6)

def s4_A (Ψ : AVal → Heap → Prop) : Ann :=
  .seq (.reg [⟨none, [(0, true), (1, false)]⟩])
  (.seq (.cut [(1, .int .i64), (2, .int .i64), (3, .int .i64), (4, .any), (24, .bool)] (fun l h => J.cons l fun v l => J.int .i64 v fun x0 => J.cons l fun v l => J.int .i64 v fun x1 => J.cons l fun v l => J.int .i64 v fun x2 => J.cons l fun x3 l => J.cons l fun v l => J.bool v fun x4 => J.nil l (s4c1 Ψ x0 x1 x2 x3 x4 h)) (.reg [⟨none, [(0, false), (1, false), (2, false), (3, false)]⟩, ⟨some (20, false), [(4, false), (5, false), (6, false)]⟩, ⟨none, [(7, false)]⟩])
  (.cond (.seq (.reg [⟨none, [(0, false), (1, false), (2, false), (3, false)]⟩, ⟨some (28, true), [(4, false)]⟩, ⟨none, [(5, false), (6, false)]⟩])
  (.leaf))
  (.leaf)))
  (.seq (rA 5)
  (.seq (rA 6)
  (.seq (rA 6)
  (.seq (rA 6)
  (.seq (rA 9)
  (.seq (rA 9)
  (.seq (.cut [(4, .any), (11, .int .i64), (12, .int .i64), (13, .int .i64), (15, .int .i64), (89, .bool)] (fun l h => J.cons l fun x0 l => J.cons l fun v l => J.int .i64 v fun x1 => J.cons l fun v l => J.int .i64 v fun x2 => J.cons l fun v l => J.int .i64 v fun x3 => J.cons l fun v l => J.int .i64 v fun x4 => J.cons l fun v l => J.bool v fun x5 => J.nil l (s4c2 Ψ x0 x1 x2 x3 x4 x5 h)) (.reg [⟨none, [(0, false), (1, false), (2, false)]⟩, ⟨some (66, false), [(3, false), (4, false)]⟩, ⟨none, [(5, false), (6, false)]⟩, ⟨some (70, false), [(7, false), (8, false)]⟩, ⟨none, [(9, false), (10, false)]⟩, ⟨some (74, false), [(11, false), (12, false), (13, false), (14, false)]⟩, ⟨none, [(15, false), (16, false)]⟩, ⟨some (80, false), [(17, false), (18, false)]⟩, ⟨none, [(19, false), (20, false)]⟩, ⟨some (84, false), [(21, false), (22, false), (23, false), (24, false)]⟩, ⟨none, [(25, false)]⟩])
  (.cond (.seq (rA 1)
  (.leaf))
  (.leaf)))
  (.seq (.draw [(0, false), (1, false), (2, false), (3, false), (4, false), (5, false), (6, false), (7, false), (8, false), (9, false), (10, false), (11, false), (12, false), (13, false), (14, false), (15, false), (16, false), (17, false), (18, false), (19, false), (20, false)] [0, 1, 0, 7, 15, 0, 63, 127, 0, 256, 0, 1792, 3840, 0, 16128, 32512, 65535, 131071, 262143, 524287, 1048575])
  (.leaf))))))))))

theorem s4_ok {Ψ : AVal → Heap → Prop} {a_Leq : AVal} {x : Int} {y : Int} {z : Int} {h : Heap} (H : s4 Ψ a_Leq x y z h) : ACalls prog 4 [(.agg [a_Leq]), (.int .i64 x), (.int .i64 y), (.int .i64 z)] h Ψ :=
  calls_of_evF func4 (by kernel_rfl) (by kernel_rfl) (by kernel_rfl)
    (Eq.mpr (by as_aux_lemma => kernel_rfl : oblF prog f4 (s4_A Ψ) Ψ = (True ∧ ((True) ∧ (∀ (h : Heap) (x0 x1 x2 : Int) (x3 : AVal) (x4 : Bool), OI (s4c1 Ψ x0 x1 x2 x3 x4 h)) ∧ ((True ∧ True) ∧ True)) ∧ True ∧ True ∧ True ∧ True ∧ True ∧ True ∧ ((True) ∧ (∀ (h : Heap) (x0 : AVal) (x1 x2 x3 x4 : Int) (x5 : Bool), OI (s4c2 Ψ x0 x1 x2 x3 x4 x5 h)) ∧ ((True ∧ True) ∧ True)) ∧ True ∧ True)) ⟨trivial, ⟨⟨trivial, fun _ _ _ _ _ _ H => H, ⟨⟨trivial, trivial⟩, trivial⟩⟩, ⟨trivial, ⟨trivial, ⟨trivial, ⟨trivial, ⟨trivial, ⟨trivial, ⟨⟨trivial, fun _ _ _ _ _ _ _ H => H, ⟨⟨trivial, trivial⟩, trivial⟩⟩, ⟨trivial, trivial⟩⟩⟩⟩⟩⟩⟩⟩⟩⟩)
    (Eq.mpr (by as_aux_lemma => kernel_rfl : evF prog f4 (s4_A Ψ) Ψ [(.agg [a_Leq]), (.int .i64 x), (.int .i64 y), (.int .i64 z)] h = s4 Ψ a_Leq x y z h) H)

/- 6 dictum/heyting.Primes -/
abbrev s6l1_T := AVal → AVal → AVal → Int → Int → Heap → Prop
def s6l1_R (F : s6l1_T) (l : List AVal) (h : Heap) : Prop := J.cons l fun x0 l => J.cons l fun x1 l => J.cons l fun x2 l => J.cons l fun v l => J.int .i64 v fun x3 => J.cons l fun v l => J.int .i64 v fun x4 => J.nil l (F x0 x1 x2 x3 x4 h)
def s6l1_G (F : s6l1_T) (x0 x1 x2 : AVal) (x3 x4 : Int) (h : Heap) : Prop := gJ [.any, .any, .any, .int .i64, .int .i64] [x0, x1, x2, (.int .i64 x3), (.int .i64 x4)] h (s6l1_R F)
def s6l1_E (F : Nat → s6l1_T) (x0 x1 x2 : AVal) (x3 x4 : Int) (h : Heap) : Prop := gJ [.any, .any, .any, .int .i64, .int .i64] [x0, x1, x2, (.int .i64 x3), (.int .i64 x4)] h (fun l h => ∃ n, s6l1_R (F n) l h)
theorem s6l1_go {F : s6l1_T} {x0 x1 x2 : AVal} {x3 x4 : Int} {h : Heap} (H : F x0 x1 x2 x3 x4 h) : s6l1_G F x0 x1 x2 x3 x4 h := gJ_plain rfl H
theorem s6l1_in {F : Nat → s6l1_T} {x0 x1 x2 : AVal} {x3 x4 : Int} {h : Heap} (n : Nat) (H : F n x0 x1 x2 x3 x4 h) : s6l1_E F x0 x1 x2 x3 x4 h := gJ_plain rfl ⟨n, H⟩

abbrev s6l2_T := AVal → AVal → AVal → Int → Int → Int → Int → Int → Heap → Prop
def s6l2_R (F : s6l2_T) (l : List AVal) (h : Heap) : Prop := J.cons l fun x0 l => J.cons l fun x1 l => J.cons l fun x2 l => J.cons l fun v l => J.int .i64 v fun x3 => J.cons l fun v l => J.int .i64 v fun x4 => J.cons l fun v l => J.int .i64 v fun x5 => J.cons l fun v l => J.int .i64 v fun x6 => J.cons l fun v l => J.int .i64 v fun x7 => J.nil l (F x0 x1 x2 x3 x4 x5 x6 x7 h)
def s6l2_G (F : s6l2_T) (x0 x1 x2 : AVal) (x3 x4 x5 x6 x7 : Int) (h : Heap) : Prop := gJ [.any, .any, .any, .int .i64, .int .i64, .int .i64, .int .i64, .int .i64] [x0, x1, x2, (.int .i64 x3), (.int .i64 x4), (.int .i64 x5), (.int .i64 x6), (.int .i64 x7)] h (s6l2_R F)
def s6l2_E (F : Nat → s6l2_T) (x0 x1 x2 : AVal) (x3 x4 x5 x6 x7 : Int) (h : Heap) : Prop := gJ [.any, .any, .any, .int .i64, .int .i64, .int .i64, .int .i64, .int .i64] [x0, x1, x2, (.int .i64 x3), (.int .i64 x4), (.int .i64 x5), (.int .i64 x6), (.int .i64 x7)] h (fun l h => ∃ n, s6l2_R (F n) l h)
theorem s6l2_go {F : s6l2_T} {x0 x1 x2 : AVal} {x3 x4 x5 x6 x7 : Int} {h : Heap} (H : F x0 x1 x2 x3 x4 x5 x6 x7 h) : s6l2_G F x0 x1 x2 x3 x4 x5 x6 x7 h := gJ_plain rfl H
theorem s6l2_in {F : Nat → s6l2_T} {x0 x1 x2 : AVal} {x3 x4 x5 x6 x7 : Int} {h : Heap} (n : Nat) (H : F n x0 x1 x2 x3 x4 x5 x6 x7 h) : s6l2_E F x0 x1 x2 x3 x4 x5 x6 x7 h := gJ_plain rfl ⟨n, H⟩

def s6c3 (Ψ : AVal → Heap → Prop) (L1 : s6l1_T) (L2 : s6l2_T) (t2_2 l_17 split2 : AVal) (x1 t40_2 t41_2 t45_1 t46_1 : Int) (h : Heap) : Prop :=
  rg (t46_1 + 1) (
    L2 t2_2 l_17 split2 x1 t40_2 t41_2 t45_1 (t46_1 + 1) h)

def s6c4 (Ψ : AVal → Heap → Prop) (L1 : s6l1_T) (L2 : s6l2_T) (t2_3 l_24 split3 : AVal) (x2 z t40_3 t41_3 t45_2 t46_2 : Int) (t63 : Bool) (h : Heap) : Prop :=
  ifT t63 (
    mapPut h split3 (.int .i64 z) (.int .i64 1) fun h_9 =>
    s6c3 Ψ L1 L2 t2_3 l_24 split3 x2 t40_3 t41_3 t45_2 t46_2 h_9) (
    s6c3 Ψ L1 L2 t2_3 l_24 split3 x2 t40_3 t41_3 t45_2 t46_2 h)

def s6l2 (Ψ : AVal → Heap → Prop) (L1 : s6l1_T) : Nat → s6l2_T
  | 0, _, _, _, _, _, _, _, _, _ => False
  | n1 + 1, t2_1, l_16, split1, x, t40_1, t41_1, t45, t46, h =>
    ifT (decide (t46 < t45)) (
      ldN 2 h l_16 fun l_18 =>
      tCons l_18 fun v21 l_19 =>
      tInt .i64 v21 fun v22 =>
      tCons l_19 fun v23 l_20 =>
      tNil l_20 (
        callG prog 25 [(.agg [(.int .i64 v22), v23]), (.int .i64 x), (.int .i64 t46)] h fun v24 h_8 =>
        tTup v24 fun l_21 =>
        tCons l_21 fun v25 l_22 =>
        tInt .i64 v25 fun v26 =>
        tCons l_22 fun v27 l_23 =>
        tBool v27 fun v28 =>
        tNil l_23 (
          ifT (v26 != x) (
            s6c4 Ψ L1 (s6l2_G (s6l2 Ψ L1 n1)) t2_1 l_16 split1 x v26 t40_1 t41_1 t45 t46 (v26 != t46) h_8) (
            s6c4 Ψ L1 (s6l2_G (s6l2 Ψ L1 n1)) t2_1 l_16 split1 x v26 t40_1 t41_1 t45 t46 false h_8)))) (
      rg (t41_1 + 1) (
        L1 t2_1 l_16 split1 t40_1 (t41_1 + 1) h))

abbrev s6l5_T := AVal → AVal → AVal → AVal → Int → Int → Heap → Prop
def s6l5_R (F : s6l5_T) (l : List AVal) (h : Heap) : Prop := J.cons l fun x0 l => J.cons l fun x1 l => J.cons l fun x2 l => J.cons l fun x3 l => J.cons l fun v l => J.int .i64 v fun x4 => J.cons l fun v l => J.int .i64 v fun x5 => J.nil l (F x0 x1 x2 x3 x4 x5 h)
def s6l5_G (F : s6l5_T) (x0 x1 x2 x3 : AVal) (x4 x5 : Int) (h : Heap) : Prop := gJ [.any, .any, .any, .any, .int .i64, .int .i64] [x0, x1, x2, x3, (.int .i64 x4), (.int .i64 x5)] h (s6l5_R F)
def s6l5_E (F : Nat → s6l5_T) (x0 x1 x2 x3 : AVal) (x4 x5 : Int) (h : Heap) : Prop := gJ [.any, .any, .any, .any, .int .i64, .int .i64] [x0, x1, x2, x3, (.int .i64 x4), (.int .i64 x5)] h (fun l h => ∃ n, s6l5_R (F n) l h)
theorem s6l5_go {F : s6l5_T} {x0 x1 x2 x3 : AVal} {x4 x5 : Int} {h : Heap} (H : F x0 x1 x2 x3 x4 x5 h) : s6l5_G F x0 x1 x2 x3 x4 x5 h := gJ_plain rfl H
theorem s6l5_in {F : Nat → s6l5_T} {x0 x1 x2 x3 : AVal} {x4 x5 : Int} {h : Heap} (n : Nat) (H : F n x0 x1 x2 x3 x4 x5 h) : s6l5_E F x0 x1 x2 x3 x4 x5 h := gJ_plain rfl ⟨n, H⟩

def s6c6 (Ψ : AVal → Heap → Prop) (L5 : s6l5_T) (t2_5 l_26 split5 elems1 : AVal) (t69_1 t70_1 : Int) (h : Heap) : Prop :=
  rg (t70_1 + 1) (
    L5 t2_5 l_26 split5 elems1 t69_1 (t70_1 + 1) h)

abbrev s6l7_T := AVal → AVal → AVal → AVal → AVal → Int → Int → Heap → Prop
def s6l7_R (F : s6l7_T) (l : List AVal) (h : Heap) : Prop := J.cons l fun x0 l => J.cons l fun x1 l => J.cons l fun x2 l => J.cons l fun x3 l => J.cons l fun x4 l => J.cons l fun v l => J.int .i64 v fun x5 => J.cons l fun v l => J.int .i64 v fun x6 => J.nil l (F x0 x1 x2 x3 x4 x5 x6 h)
def s6l7_G (F : s6l7_T) (x0 x1 x2 x3 x4 : AVal) (x5 x6 : Int) (h : Heap) : Prop := gJ [.any, .any, .any, .any, .any, .int .i64, .int .i64] [x0, x1, x2, x3, x4, (.int .i64 x5), (.int .i64 x6)] h (s6l7_R F)
def s6l7_E (F : Nat → s6l7_T) (x0 x1 x2 x3 x4 : AVal) (x5 x6 : Int) (h : Heap) : Prop := gJ [.any, .any, .any, .any, .any, .int .i64, .int .i64] [x0, x1, x2, x3, x4, (.int .i64 x5), (.int .i64 x6)] h (fun l h => ∃ n, s6l7_R (F n) l h)
theorem s6l7_go {F : s6l7_T} {x0 x1 x2 x3 x4 : AVal} {x5 x6 : Int} {h : Heap} (H : F x0 x1 x2 x3 x4 x5 x6 h) : s6l7_G F x0 x1 x2 x3 x4 x5 x6 h := gJ_plain rfl H
theorem s6l7_in {F : Nat → s6l7_T} {x0 x1 x2 x3 x4 : AVal} {x5 x6 : Int} {h : Heap} (n : Nat) (H : F n x0 x1 x2 x3 x4 x5 x6 h) : s6l7_E F x0 x1 x2 x3 x4 x5 x6 h := gJ_plain rfl ⟨n, H⟩

abbrev s6l8_T := AVal → AVal → AVal → AVal → Int → Int → AVal → AVal → Int → Int → AVal → Int → Int → Heap → Prop
def s6l8_R (F : s6l8_T) (l : List AVal) (h : Heap) : Prop := J.cons l fun x0 l => J.cons l fun x1 l => J.cons l fun x2 l => J.cons l fun x3 l => J.cons l fun v l => J.int .i64 v fun x4 => J.cons l fun v l => J.int .i64 v fun x5 => J.cons l fun x6 l => J.cons l fun x7 l => J.cons l fun v l => J.int .i64 v fun x8 => J.cons l fun v l => J.int .i64 v fun x9 => J.cons l fun x10 l => J.cons l fun v l => J.int .i64 v fun x11 => J.cons l fun v l => J.int .i64 v fun x12 => J.nil l (F x0 x1 x2 x3 x4 x5 x6 x7 x8 x9 x10 x11 x12 h)
def s6l8_G (F : s6l8_T) (x0 x1 x2 x3 : AVal) (x4 x5 : Int) (x6 x7 : AVal) (x8 x9 : Int) (x10 : AVal) (x11 x12 : Int) (h : Heap) : Prop := gJ [.any, .any, .any, .any, .int .i64, .int .i64, .any, .any, .int .i64, .int .i64, .any, .int .i64, .int .i64] [x0, x1, x2, x3, (.int .i64 x4), (.int .i64 x5), x6, x7, (.int .i64 x8), (.int .i64 x9), x10, (.int .i64 x11), (.int .i64 x12)] h (s6l8_R F)
def s6l8_E (F : Nat → s6l8_T) (x0 x1 x2 x3 : AVal) (x4 x5 : Int) (x6 x7 : AVal) (x8 x9 : Int) (x10 : AVal) (x11 x12 : Int) (h : Heap) : Prop := gJ [.any, .any, .any, .any, .int .i64, .int .i64, .any, .any, .int .i64, .int .i64, .any, .int .i64, .int .i64] [x0, x1, x2, x3, (.int .i64 x4), (.int .i64 x5), x6, x7, (.int .i64 x8), (.int .i64 x9), x10, (.int .i64 x11), (.int .i64 x12)] h (fun l h => ∃ n, s6l8_R (F n) l h)
theorem s6l8_go {F : s6l8_T} {x0 x1 x2 x3 : AVal} {x4 x5 : Int} {x6 x7 : AVal} {x8 x9 : Int} {x10 : AVal} {x11 x12 : Int} {h : Heap} (H : F x0 x1 x2 x3 x4 x5 x6 x7 x8 x9 x10 x11 x12 h) : s6l8_G F x0 x1 x2 x3 x4 x5 x6 x7 x8 x9 x10 x11 x12 h := gJ_plain rfl H
theorem s6l8_in {F : Nat → s6l8_T} {x0 x1 x2 x3 : AVal} {x4 x5 : Int} {x6 x7 : AVal} {x8 x9 : Int} {x10 : AVal} {x11 x12 : Int} {h : Heap} (n : Nat) (H : F n x0 x1 x2 x3 x4 x5 x6 x7 x8 x9 x10 x11 x12 h) : s6l8_E F x0 x1 x2 x3 x4 x5 x6 x7 x8 x9 x10 x11 x12 h := gJ_plain rfl ⟨n, H⟩

def s6c9 (Ψ : AVal → Heap → Prop) (L7 : s6l7_T) (L8 : s6l8_T) (t2_8 l_32 elems4 m2 : AVal) (w1 x4 : Int) (up1 t86_2 : AVal) (t87_2 t88_2 : Int) (t93_1 : AVal) (t94_1 t95_1 : Int) (h : Heap) : Prop :=
  rg (t95_1 + 1) (
    L8 t2_8 l_32 elems4 m2 w1 x4 up1 t86_2 t87_2 t88_2 t93_1 t94_1 (t95_1 + 1) h)

def s6c10 (Ψ : AVal → Heap → Prop) (L7 : s6l7_T) (L8 : s6l8_T) (t2_9 l_33 elems5 m3 : AVal) (w2 x5 : Int) (up2 : AVal) (v40 : Int) (t86_3 : AVal) (t87_3 t88_3 : Int) (t93_2 : AVal) (t94_2 t95_2 : Int) (t109 : Bool) (h : Heap) : Prop :=
  ifT t109 (
    appC 1 8 h up2 (.lsl 1 [(.int .i64 v40)]) fun v41 h_13 =>
    s6c9 Ψ L7 L8 t2_9 l_33 elems5 m3 w2 x5 v41 t86_3 t87_3 t88_3 t93_2 t94_2 t95_2 h_13) (
    s6c9 Ψ L7 L8 t2_9 l_33 elems5 m3 w2 x5 up2 t86_3 t87_3 t88_3 t93_2 t94_2 t95_2 h)

def s6l8 (Ψ : AVal → Heap → Prop) (L7 : s6l7_T) : Nat → s6l8_T
  | 0, _, _, _, _, _, _, _, _, _, _, _, _, _, _ => False
  | n8 + 1, t2_7, l_31, elems3, m1, w, x3, up, t86_1, t87_1, t88_1, t93, t94, t95, h =>
    ifT (decide (t95 < t94)) (
      ixS 1 t93 t95 fun p3 =>
      ld1 h p3 fun v38 =>
      tInt .i64 v38 fun v39 =>
      ifT (t95 != w) (
        addOff l_31 1 fun p4 =>
        ld1 h p4 fun v42 =>
        callV prog v42 [(.int .i64 v39), (.int .i64 x3)] h fun v43 h_14 =>
        tBool v43 fun v44 =>
        s6c10 Ψ L7 (s6l8_G (s6l8 Ψ L7 n8)) t2_7 l_31 elems3 m1 w x3 up t95 t86_1 t87_1 t88_1 t93 t94 t95 v44 h_14) (
        s6c10 Ψ L7 (s6l8_G (s6l8 Ψ L7 n8)) t2_7 l_31 elems3 m1 w x3 up t95 t86_1 t87_1 t88_1 t93 t94 t95 false h)) (
      addOff m1 0 fun p5 =>
      ld1 h p5 fun v45 =>
      chk (sc up) (
        appC 1 24 h v45 (.lsl 1 [up]) fun v46 h_15 =>
        addOff m1 0 fun p6 =>
        chk (sc v46) (
          st true h_15 p6 [v46] fun h_16 =>
          addOff m1 1 fun p7 =>
          ld1 h_16 p7 fun v47 =>
          appC 1 24 h_16 v47 (.lsl 1 [.nilsl]) fun v48 h_17 =>
          addOff m1 1 fun p8 =>
          chk (sc v48) (
            st true h_17 p8 [v48] fun h_18 =>
            rg (t88_1 + 1) (
              L7 t2_7 l_31 elems3 m1 t86_1 t87_1 (t88_1 + 1) h_18)))))

def s6l7 (Ψ : AVal → Heap → Prop) : Nat → s6l7_T
  | 0, _, _, _, _, _, _, _, _ => False
  | n6 + 1, t2_6, l_30, elems2, m, t86, t87, t88, h =>
    ifT (decide (t88 < t87)) (
      ixS 1 t86 t88 fun p2 =>
      ld1 h p2 fun v36 =>
      tInt .i64 v36 fun v37 =>
      lenN elems2 fun n7 =>
      s6l8_E (s6l8 Ψ (s6l7_G (s6l7 Ψ n6))) t2_6 l_30 elems2 m t88 v37 .nilsl t86 t87 t88 elems2 n7 0 h) (
      ldN 2 h m fun l_34 =>
      tCons l_34 fun v49 l_35 =>
      tCons l_35 fun v50 l_36 =>
      tNil l_36 (
        callG prog 26 [(.agg [v49, v50])] h fun v51 h_19 =>
        tTup v51 fun l_37 =>
        tCons l_37 fun v52 l_38 =>
        tCons l_38 fun v53 l_39 =>
        tInt .i64 v53 fun v54 =>
        tNil l_39 (
          tAgg v52 fun l_40 =>
          tCons l_40 fun v55 l_41 =>
          tCons l_41 fun v56 l_42 =>
          tNil l_42 (
            st false h_19 m [v55, v56] fun h_20 =>
            ldN 2 h_20 m fun l_43 =>
            tCons l_43 fun v57 l_44 =>
            tCons l_44 fun v58 l_45 =>
            tNil l_45 (
              st false h_20 t2_6 [v57, v58] fun h_21 =>
              ldN 2 h_21 t2_6 fun l_46 =>
              tCons l_46 fun v59 l_47 =>
              tCons l_47 fun v60 l_48 =>
              tNil l_48 (
                retG (.tuple [(.agg [v59, v60]), elems2, (.int .i64 0)]) h_21 Ψ))))))

def s6l5 (Ψ : AVal → Heap → Prop) : Nat → s6l5_T
  | 0, _, _, _, _, _, _, _ => False
  | n3 + 1, t2_4, l_25, split4, elems, t69, t70, h =>
    ifT (decide (t70 < t69)) (
      mapGet (.int .i64 0) h split4 (.int .i64 t70) fun v31 b =>
      tInt .i64 v31 fun v32 =>
      ifT (v32 == 0) (
        appC 1 8 h elems (.lsl 1 [(.int .i64 t70)]) fun v33 h_10 =>
        s6c6 Ψ (s6l5_G (s6l5 Ψ n3)) t2_4 l_25 split4 v33 t69 t70 h_10) (
        s6c6 Ψ (s6l5_G (s6l5 Ψ n3)) t2_4 l_25 split4 elems t69 t70 h)) (
      lenN elems fun n4 =>
      ifT (n4 == 0) (
        st false h t2_4 [.nilsl, .nilsl] fun h_11 =>
        ldN 2 h_11 t2_4 fun l_27 =>
        tCons l_27 fun v34 l_28 =>
        tCons l_28 fun v35 l_29 =>
        tNil l_29 (
          retG (.tuple [(.agg [v34, v35]), .nilsl, (.int .i64 231)]) h_11 Ψ)) (
        Sym.newRow 2 [(.agg [.nilsl, .nilsl])] h fun r3 h_12 =>
        lenN elems fun n5 =>
        s6l7_E (s6l7 Ψ) t2_4 l_25 elems (.ptr r3 0 0) elems n5 0 h_12))

def s6l1 (Ψ : AVal → Heap → Prop) : Nat → s6l1_T
  | 0, _, _, _, _, _, _ => False
  | n + 1, t2, l_15, split, t40, t41, h =>
    ifT (decide (t41 < t40)) (
      addOff l_15 0 fun p =>
      ld1 h p fun v19 =>
      tInt .i64 v19 fun v20 =>
      s6l2_E (s6l2 Ψ (s6l1_G (s6l1 Ψ n))) t2 l_15 split t41 t40 t41 v20 0 h) (
      addOff l_15 0 fun p1 =>
      ld1 h p1 fun v29 =>
      tInt .i64 v29 fun v30 =>
      s6l5_E (s6l5 Ψ) t2 l_15 split .nilsl v30 0 h)

def s6 (Ψ : AVal → Heap → Prop) (a_Leq : AVal) (h : Heap) : Prop :=
  Sym.newRow 2 [(.agg [.nilsl, .nilsl])] h fun r h_ =>
  callG prog 23 [(.agg [a_Leq]), .nilsl] h_ fun v h_1 =>
  tTup v fun l_ =>
  tCons l_ fun v1 l_1 =>
  tCons l_1 fun v2 l_2 =>
  tInt .i64 v2 fun v3 =>
  tNil l_2 (
    tAgg v1 fun l_3 =>
    tCons l_3 fun v4 l_4 =>
    tInt .i64 v4 fun v5 =>
    tCons l_4 fun v6 l_5 =>
    tNil l_5 (
      Sym.newRow 2 [(.agg [(.int .i64 0), .nilfunc])] h_1 fun r1 h_2 =>
      st false h_2 (.ptr r1 0 0) [(.int .i64 v5), v6] fun h_3 =>
      ifT (v3 != 0) (
        st false h_3 (.ptr r 0 0) [.nilsl, .nilsl] fun h_4 =>
        ldN 2 h_4 (.ptr r 0 0) fun l_6 =>
        tCons l_6 fun v7 l_7 =>
        tCons l_7 fun v8 l_8 =>
        tNil l_8 (
          retG (.tuple [(.agg [v7, v8]), .nilsl, (.int .i64 v3)]) h_4 Ψ)) (
        ldN 2 h_3 (.ptr r1 0 0) fun l_9 =>
        tCons l_9 fun v9 l_10 =>
        tInt .i64 v9 fun v10 =>
        tCons l_10 fun v11 l_11 =>
        tNil l_11 (
          callG prog 24 [(.agg [(.int .i64 v10), v11])] h_3 fun v12 h_5 =>
          tTup v12 fun l_12 =>
          tCons l_12 fun v13 l_13 =>
          tInt .i64 v13 fun v14 =>
          tCons l_13 fun v15 l_14 =>
          tInt .i64 v15 fun v16 =>
          tNil l_14 (
            newMap h_5 fun r2 h_6 =>
            mapPut h_6 (.mapr r2) (.int .i64 v14) (.int .i64 1) fun h_7 =>
            ld1 h_7 (.ptr r1 0 0) fun v17 =>
            tInt .i64 v17 fun v18 =>
            s6l1_E (s6l1 Ψ) (.ptr r 0 0) (.ptr r1 0 0) (.mapr r2) v18 0 h_7)))))

def s6_A (Ψ : AVal → Heap → Prop) : Ann :=
  .seq (.reg [⟨none, [(0, true), (1, false), (2, false), (3, false)]⟩])
  (.seq (rA 8)
  (.seq (.seq (rA 2)
  (.cond (.seq (rA 5)
  (.leaf))
  (.leaf)))
  (.seq (rA 7)
  (.seq (rA 5)
  (.seq (.seq (rA 3)
  (.block (.loop [(2, .any), (5, .any), (9, .any), (40, .int .i64), (41, .int .i64)] (fun n l h => s6l1_R (s6l1 Ψ n) l h) (fun L1 =>
  .seq (rA 1)
  (.seq (.cond (.leaf)
  (.leaf))
  (.seq (.block (.seq (rA 2)
  (.seq (rA 3)
  (.block (.loop [(2, .any), (5, .any), (9, .any), (10, .int .i64), (40, .int .i64), (41, .int .i64), (45, .int .i64), (46, .int .i64)] (fun n l h => s6l2_R (s6l2 Ψ (fun y0 y1 y2 y3 y4 h => L1 [y0, y1, y2, (.int .i64 y3), (.int .i64 y4)] h) n) l h) (fun L2 =>
  .seq (rA 1)
  (.seq (.cond (.leaf)
  (.leaf))
  (.cut [(2, .any), (5, .any), (9, .any), (10, .int .i64), (40, .int .i64), (41, .int .i64), (45, .int .i64), (46, .int .i64)] (fun l h => J.cons l fun x0 l => J.cons l fun x1 l => J.cons l fun x2 l => J.cons l fun v l => J.int .i64 v fun x3 => J.cons l fun v l => J.int .i64 v fun x4 => J.cons l fun v l => J.int .i64 v fun x5 => J.cons l fun v l => J.int .i64 v fun x6 => J.cons l fun v l => J.int .i64 v fun x7 => J.nil l (s6c3 Ψ (fun y0 y1 y2 y3 y4 h => L1 [y0, y1, y2, (.int .i64 y3), (.int .i64 y4)] h) (fun y0 y1 y2 y3 y4 y5 y6 y7 h => L2 [y0, y1, y2, (.int .i64 y3), (.int .i64 y4), (.int .i64 y5), (.int .i64 y6), (.int .i64 y7)] h) x0 x1 x2 x3 x4 x5 x6 x7 h)) (.block (.seq (rA 2)
  (.seq (rA 9)
  (.cut [(2, .any), (5, .any), (9, .any), (10, .int .i64), (12, .int .i64), (40, .int .i64), (41, .int .i64), (45, .int .i64), (46, .int .i64), (63, .bool)] (fun l h => J.cons l fun x0 l => J.cons l fun x1 l => J.cons l fun x2 l => J.cons l fun v l => J.int .i64 v fun x3 => J.cons l fun v l => J.int .i64 v fun x4 => J.cons l fun v l => J.int .i64 v fun x5 => J.cons l fun v l => J.int .i64 v fun x6 => J.cons l fun v l => J.int .i64 v fun x7 => J.cons l fun v l => J.int .i64 v fun x8 => J.cons l fun v l => J.bool v fun x9 => J.nil l (s6c4 Ψ (fun y0 y1 y2 y3 y4 h => L1 [y0, y1, y2, (.int .i64 y3), (.int .i64 y4)] h) (fun y0 y1 y2 y3 y4 y5 y6 y7 h => L2 [y0, y1, y2, (.int .i64 y3), (.int .i64 y4), (.int .i64 y5), (.int .i64 y6), (.int .i64 y7)] h) x0 x1 x2 x3 x4 x5 x6 x7 x8 x9 h)) (.reg [⟨none, [(0, false), (1, false), (2, false), (3, false)]⟩, ⟨some (59, true), [(4, false), (5, false), (6, false)]⟩, ⟨none, [(7, false)]⟩])
  (.cond (rA 3)
  (.leaf))))))
  (rA 2)))))))))
  (rA 2)))))))
  (.seq (rA 1)
  (.seq (.seq (rA 3)
  (.block (.loop [(2, .any), (5, .any), (9, .any), (14, .any), (69, .int .i64), (70, .int .i64)] (fun n l h => s6l5_R (s6l5 Ψ n) l h) (fun L5 =>
  .seq (rA 1)
  (.seq (.cond (.leaf)
  (.leaf))
  (.cut [(2, .any), (5, .any), (9, .any), (14, .any), (69, .int .i64), (70, .int .i64)] (fun l h => J.cons l fun x0 l => J.cons l fun x1 l => J.cons l fun x2 l => J.cons l fun x3 l => J.cons l fun v l => J.int .i64 v fun x4 => J.cons l fun v l => J.int .i64 v fun x5 => J.nil l (s6c6 Ψ (fun y0 y1 y2 y3 y4 y5 h => L5 [y0, y1, y2, y3, (.int .i64 y4), (.int .i64 y5)] h) x0 x1 x2 x3 x4 x5 h)) (.block (.seq (rA 2)
  (.seq (rA 4)
  (.cond (.reg [⟨none, [(0, false), (1, false), (2, true), (3, false), (4, false)]⟩])
  (.leaf)))))
  (rA 2)))))))
  (.seq (.seq (rA 3)
  (.cond (.seq (rA 4)
  (.leaf))
  (.leaf)))
  (.seq (rA 1)
  (.seq (.seq (rA 3)
  (.block (.loop [(2, .any), (5, .any), (14, .any), (16, .any), (86, .any), (87, .int .i64), (88, .int .i64)] (fun n l h => s6l7_R (s6l7 Ψ n) l h) (fun L7 =>
  .seq (rA 1)
  (.seq (.cond (.leaf)
  (.leaf))
  (.seq (.block (.seq (rA 5)
  (.seq (rA 1)
  (.seq (.seq (rA 3)
  (.block (.loop [(2, .any), (5, .any), (14, .any), (16, .any), (17, .int .i64), (18, .int .i64), (19, .any), (86, .any), (87, .int .i64), (88, .int .i64), (93, .any), (94, .int .i64), (95, .int .i64)] (fun n l h => s6l8_R (s6l8 Ψ (fun y0 y1 y2 y3 y4 y5 y6 h => L7 [y0, y1, y2, y3, y4, (.int .i64 y5), (.int .i64 y6)] h) n) l h) (fun L8 =>
  .seq (rA 1)
  (.seq (.cond (.leaf)
  (.leaf))
  (.cut [(2, .any), (5, .any), (14, .any), (16, .any), (17, .int .i64), (18, .int .i64), (19, .any), (86, .any), (87, .int .i64), (88, .int .i64), (93, .any), (94, .int .i64), (95, .int .i64)] (fun l h => J.cons l fun x0 l => J.cons l fun x1 l => J.cons l fun x2 l => J.cons l fun x3 l => J.cons l fun v l => J.int .i64 v fun x4 => J.cons l fun v l => J.int .i64 v fun x5 => J.cons l fun x6 l => J.cons l fun x7 l => J.cons l fun v l => J.int .i64 v fun x8 => J.cons l fun v l => J.int .i64 v fun x9 => J.cons l fun x10 l => J.cons l fun v l => J.int .i64 v fun x11 => J.cons l fun v l => J.int .i64 v fun x12 => J.nil l (s6c9 Ψ (fun y0 y1 y2 y3 y4 y5 y6 h => L7 [y0, y1, y2, y3, y4, (.int .i64 y5), (.int .i64 y6)] h) (fun y0 y1 y2 y3 y4 y5 y6 y7 y8 y9 y10 y11 y12 h => L8 [y0, y1, y2, y3, (.int .i64 y4), (.int .i64 y5), y6, y7, (.int .i64 y8), (.int .i64 y9), y10, (.int .i64 y11), (.int .i64 y12)] h) x0 x1 x2 x3 x4 x5 x6 x7 x8 x9 x10 x11 x12 h)) (.block (.seq (rA 5)
  (.cut [(2, .any), (5, .any), (14, .any), (16, .any), (17, .int .i64), (18, .int .i64), (19, .any), (20, .int .i64), (86, .any), (87, .int .i64), (88, .int .i64), (93, .any), (94, .int .i64), (95, .int .i64), (109, .bool)] (fun l h => J.cons l fun x0 l => J.cons l fun x1 l => J.cons l fun x2 l => J.cons l fun x3 l => J.cons l fun v l => J.int .i64 v fun x4 => J.cons l fun v l => J.int .i64 v fun x5 => J.cons l fun x6 l => J.cons l fun v l => J.int .i64 v fun x7 => J.cons l fun x8 l => J.cons l fun v l => J.int .i64 v fun x9 => J.cons l fun v l => J.int .i64 v fun x10 => J.cons l fun x11 l => J.cons l fun v l => J.int .i64 v fun x12 => J.cons l fun v l => J.int .i64 v fun x13 => J.cons l fun v l => J.bool v fun x14 => J.nil l (s6c10 Ψ (fun y0 y1 y2 y3 y4 y5 y6 h => L7 [y0, y1, y2, y3, y4, (.int .i64 y5), (.int .i64 y6)] h) (fun y0 y1 y2 y3 y4 y5 y6 y7 y8 y9 y10 y11 y12 h => L8 [y0, y1, y2, y3, (.int .i64 y4), (.int .i64 y5), y6, y7, (.int .i64 y8), (.int .i64 y9), y10, (.int .i64 y11), (.int .i64 y12)] h) x0 x1 x2 x3 x4 x5 x6 x7 x8 x9 x10 x11 x12 x13 x14 h)) (.reg [⟨none, [(0, false), (1, false), (2, false), (3, false)]⟩, ⟨some (103, true), [(4, false), (5, false), (6, false), (7, false), (8, false)]⟩, ⟨none, [(9, false)]⟩])
  (.cond (.reg [⟨none, [(0, false), (1, false), (2, true), (3, false), (4, false)]⟩])
  (.leaf)))))
  (rA 2)))))))
  (.seq (.reg [⟨none, [(0, false), (1, false), (2, false), (3, true), (4, false), (5, false), (6, false)]⟩])
  (.reg [⟨none, [(0, false), (1, false), (2, true), (3, false), (4, false), (5, false)]⟩]))))))
  (rA 2)))))))
  (.seq (rA 6)
  (.seq (rA 5)
  (.leaf)))))))))))))

theorem s6_ok {Ψ : AVal → Heap → Prop} {a_Leq : AVal} {h : Heap} (H : s6 Ψ a_Leq h) : ACalls prog 6 [(.agg [a_Leq])] h Ψ :=
  calls_of_evF func6 (by kernel_rfl) (by kernel_rfl) (by kernel_rfl)
    (Eq.mpr (by as_aux_lemma => kernel_rfl : oblF prog f6 (s6_A Ψ) Ψ = (True ∧ True ∧ (True ∧ (True ∧ True) ∧ True) ∧ True ∧ True ∧ (True ∧ (∀ (h : Heap) (x0 x1 x2 : AVal) (x3 x4 : Int), ON (s6l1 Ψ 0 x0 x1 x2 x3 x4 h)) ∧ ∀ n1 : Nat, (∀ (h : Heap) (x0 x1 x2 : AVal) (x3 x4 : Int), OI (s6l1 Ψ (n1 + 1) x0 x1 x2 x3 x4 h)) ∧ (True ∧ (True ∧ True) ∧ (True ∧ True ∧ (∀ (h : Heap) (x0 x1 x2 : AVal) (x3 x4 x5 x6 x7 : Int), ON (s6l2 Ψ (s6l1_G (s6l1 Ψ n1)) 0 x0 x1 x2 x3 x4 x5 x6 x7 h)) ∧ ∀ n2 : Nat, (∀ (h : Heap) (x0 x1 x2 : AVal) (x3 x4 x5 x6 x7 : Int), OI (s6l2 Ψ (s6l1_G (s6l1 Ψ n1)) (n2 + 1) x0 x1 x2 x3 x4 x5 x6 x7 h)) ∧ (True ∧ (True ∧ True) ∧ (True ∧ True ∧ (True) ∧ (∀ (h : Heap) (x0 x1 x2 : AVal) (x3 x4 x5 x6 x7 x8 : Int) (x9 : Bool), OI (s6c4 Ψ (s6l1_G (s6l1 Ψ n1)) (s6l2_G (s6l2 Ψ (s6l1_G (s6l1 Ψ n1)) n2)) x0 x1 x2 x3 x4 x5 x6 x7 x8 x9 h)) ∧ (True ∧ True)) ∧ (∀ (h : Heap) (x0 x1 x2 : AVal) (x3 x4 x5 x6 x7 : Int), OI (s6c3 Ψ (s6l1_G (s6l1 Ψ n1)) (s6l2_G (s6l2 Ψ (s6l1_G (s6l1 Ψ n1)) n2)) x0 x1 x2 x3 x4 x5 x6 x7 h)) ∧ (True))) ∧ True)) ∧ True ∧ (True ∧ (∀ (h : Heap) (x0 x1 x2 x3 : AVal) (x4 x5 : Int), ON (s6l5 Ψ 0 x0 x1 x2 x3 x4 x5 h)) ∧ ∀ n5 : Nat, (∀ (h : Heap) (x0 x1 x2 x3 : AVal) (x4 x5 : Int), OI (s6l5 Ψ (n5 + 1) x0 x1 x2 x3 x4 x5 h)) ∧ (True ∧ (True ∧ True) ∧ (True ∧ True ∧ True ∧ True) ∧ (∀ (h : Heap) (x0 x1 x2 x3 : AVal) (x4 x5 : Int), OI (s6c6 Ψ (s6l5_G (s6l5 Ψ n5)) x0 x1 x2 x3 x4 x5 h)) ∧ (True))) ∧ (True ∧ (True ∧ True) ∧ True) ∧ True ∧ (True ∧ (∀ (h : Heap) (x0 x1 x2 x3 x4 : AVal) (x5 x6 : Int), ON (s6l7 Ψ 0 x0 x1 x2 x3 x4 x5 x6 h)) ∧ ∀ n7 : Nat, (∀ (h : Heap) (x0 x1 x2 x3 x4 : AVal) (x5 x6 : Int), OI (s6l7 Ψ (n7 + 1) x0 x1 x2 x3 x4 x5 x6 h)) ∧ (True ∧ (True ∧ True) ∧ (True ∧ True ∧ (True ∧ (∀ (h : Heap) (x0 x1 x2 x3 : AVal) (x4 x5 : Int) (x6 x7 : AVal) (x8 x9 : Int) (x10 : AVal) (x11 x12 : Int), ON (s6l8 Ψ (s6l7_G (s6l7 Ψ n7)) 0 x0 x1 x2 x3 x4 x5 x6 x7 x8 x9 x10 x11 x12 h)) ∧ ∀ n8 : Nat, (∀ (h : Heap) (x0 x1 x2 x3 : AVal) (x4 x5 : Int) (x6 x7 : AVal) (x8 x9 : Int) (x10 : AVal) (x11 x12 : Int), OI (s6l8 Ψ (s6l7_G (s6l7 Ψ n7)) (n8 + 1) x0 x1 x2 x3 x4 x5 x6 x7 x8 x9 x10 x11 x12 h)) ∧ (True ∧ (True ∧ True) ∧ (True ∧ (True) ∧ (∀ (h : Heap) (x0 x1 x2 x3 : AVal) (x4 x5 : Int) (x6 : AVal) (x7 : Int) (x8 : AVal) (x9 x10 : Int) (x11 : AVal) (x12 x13 : Int) (x14 : Bool), OI (s6c10 Ψ (s6l7_G (s6l7 Ψ n7)) (s6l8_G (s6l8 Ψ (s6l7_G (s6l7 Ψ n7)) n8)) x0 x1 x2 x3 x4 x5 x6 x7 x8 x9 x10 x11 x12 x13 x14 h)) ∧ (True ∧ True)) ∧ (∀ (h : Heap) (x0 x1 x2 x3 : AVal) (x4 x5 : Int) (x6 x7 : AVal) (x8 x9 : Int) (x10 : AVal) (x11 x12 : Int), OI (s6c9 Ψ (s6l7_G (s6l7 Ψ n7)) (s6l8_G (s6l8 Ψ (s6l7_G (s6l7 Ψ n7)) n8)) x0 x1 x2 x3 x4 x5 x6 x7 x8 x9 x10 x11 x12 h)) ∧ (True))) ∧ True ∧ True) ∧ True)) ∧ True ∧ True ∧ True)) ⟨trivial, ⟨trivial, ⟨⟨trivial, ⟨⟨trivial, trivial⟩, trivial⟩⟩, ⟨trivial, ⟨trivial, ⟨⟨trivial, ⟨fun _ _ _ _ _ _ H => H, fun _ => ⟨fun _ _ _ _ _ _ H => H, ⟨trivial, ⟨⟨trivial, trivial⟩, ⟨⟨trivial, ⟨trivial, ⟨fun _ _ _ _ _ _ _ _ _ H => H, fun _ => ⟨fun _ _ _ _ _ _ _ _ _ H => H, ⟨trivial, ⟨⟨trivial, trivial⟩, ⟨⟨trivial, ⟨trivial, ⟨trivial, fun _ _ _ _ _ _ _ _ _ _ _ H => H, ⟨trivial, trivial⟩⟩⟩⟩, fun _ _ _ _ _ _ _ _ _ H => H, trivial⟩⟩⟩⟩⟩⟩⟩, trivial⟩⟩⟩⟩⟩⟩, ⟨trivial, ⟨⟨trivial, ⟨fun _ _ _ _ _ _ _ H => H, fun _ => ⟨fun _ _ _ _ _ _ _ H => H, ⟨trivial, ⟨⟨trivial, trivial⟩, ⟨⟨trivial, ⟨trivial, ⟨trivial, trivial⟩⟩⟩, fun _ _ _ _ _ _ _ H => H, trivial⟩⟩⟩⟩⟩⟩, ⟨⟨trivial, ⟨⟨trivial, trivial⟩, trivial⟩⟩, ⟨trivial, ⟨⟨trivial, ⟨fun _ _ _ _ _ _ _ _ H => H, fun _ => ⟨fun _ _ _ _ _ _ _ _ H => H, ⟨trivial, ⟨⟨trivial, trivial⟩, ⟨⟨trivial, ⟨trivial, ⟨⟨trivial, ⟨fun _ _ _ _ _ _ _ _ _ _ _ _ _ _ H => H, fun _ => ⟨fun _ _ _ _ _ _ _ _ _ _ _ _ _ _ H => H, ⟨trivial, ⟨⟨trivial, trivial⟩, ⟨⟨trivial, ⟨trivial, fun _ _ _ _ _ _ _ _ _ _ _ _ _ _ _ _ H => H, ⟨trivial, trivial⟩⟩⟩, fun _ _ _ _ _ _ _ _ _ _ _ _ _ _ H => H, trivial⟩⟩⟩⟩⟩⟩, ⟨trivial, trivial⟩⟩⟩⟩, trivial⟩⟩⟩⟩⟩⟩, ⟨trivial, ⟨trivial, trivial⟩⟩⟩⟩⟩⟩⟩⟩⟩⟩⟩⟩⟩)
    (Eq.mpr (by as_aux_lemma => kernel_rfl : evF prog f6 (s6_A Ψ) Ψ [(.agg [a_Leq])] h = s6 Ψ a_Leq h) H)

/- 8 dictum/heyting.Ups -/
abbrev s8l1_T := AVal → AVal → AVal → AVal → AVal → Int → Int → Heap → Prop
def s8l1_R (F : s8l1_T) (l : List AVal) (h : Heap) : Prop := J.cons l fun x0 l => J.cons l fun x1 l => J.cons l fun x2 l => J.cons l fun x3 l => J.cons l fun x4 l => J.cons l fun v l => J.int .i64 v fun x5 => J.cons l fun v l => J.int .i64 v fun x6 => J.nil l (F x0 x1 x2 x3 x4 x5 x6 h)
def s8l1_G (F : s8l1_T) (x0 x1 x2 x3 x4 : AVal) (x5 x6 : Int) (h : Heap) : Prop := gJ [.any, .any, .any, .any, .any, .int .i64, .int .i64] [x0, x1, x2, x3, x4, (.int .i64 x5), (.int .i64 x6)] h (s8l1_R F)
def s8l1_E (F : Nat → s8l1_T) (x0 x1 x2 x3 x4 : AVal) (x5 x6 : Int) (h : Heap) : Prop := gJ [.any, .any, .any, .any, .any, .int .i64, .int .i64] [x0, x1, x2, x3, x4, (.int .i64 x5), (.int .i64 x6)] h (fun l h => ∃ n, s8l1_R (F n) l h)
theorem s8l1_go {F : s8l1_T} {x0 x1 x2 x3 x4 : AVal} {x5 x6 : Int} {h : Heap} (H : F x0 x1 x2 x3 x4 x5 x6 h) : s8l1_G F x0 x1 x2 x3 x4 x5 x6 h := gJ_plain rfl H
theorem s8l1_in {F : Nat → s8l1_T} {x0 x1 x2 x3 x4 : AVal} {x5 x6 : Int} {h : Heap} (n : Nat) (H : F n x0 x1 x2 x3 x4 x5 x6 h) : s8l1_E F x0 x1 x2 x3 x4 x5 x6 h := gJ_plain rfl ⟨n, H⟩

abbrev s8l2_T := AVal → AVal → AVal → AVal → ByteArray → AVal → AVal → Int → Int → Int → Int → Heap → Prop
def s8l2_R (F : s8l2_T) (l : List AVal) (h : Heap) : Prop := J.cons l fun x0 l => J.cons l fun x1 l => J.cons l fun x2 l => J.cons l fun x3 l => J.cons l fun v l => J.str v fun x4 => J.cons l fun x5 l => J.cons l fun x6 l => J.cons l fun v l => J.int .i64 v fun x7 => J.cons l fun v l => J.int .i64 v fun x8 => J.cons l fun v l => J.int .i64 v fun x9 => J.cons l fun v l => J.int .i64 v fun x10 => J.nil l (F x0 x1 x2 x3 x4 x5 x6 x7 x8 x9 x10 h)
def s8l2_G (F : s8l2_T) (x0 x1 x2 x3 : AVal) (x4 : ByteArray) (x5 x6 : AVal) (x7 x8 x9 x10 : Int) (h : Heap) : Prop := gJ [.any, .any, .any, .any, .str, .any, .any, .int .i64, .int .i64, .int .i64, .int .i64] [x0, x1, x2, x3, (.str x4), x5, x6, (.int .i64 x7), (.int .i64 x8), (.int .i64 x9), (.int .i64 x10)] h (s8l2_R F)
def s8l2_E (F : Nat → s8l2_T) (x0 x1 x2 x3 : AVal) (x4 : ByteArray) (x5 x6 : AVal) (x7 x8 x9 x10 : Int) (h : Heap) : Prop := gJ [.any, .any, .any, .any, .str, .any, .any, .int .i64, .int .i64, .int .i64, .int .i64] [x0, x1, x2, x3, (.str x4), x5, x6, (.int .i64 x7), (.int .i64 x8), (.int .i64 x9), (.int .i64 x10)] h (fun l h => ∃ n, s8l2_R (F n) l h)
theorem s8l2_go {F : s8l2_T} {x0 x1 x2 x3 : AVal} {x4 : ByteArray} {x5 x6 : AVal} {x7 x8 x9 x10 : Int} {h : Heap} (H : F x0 x1 x2 x3 x4 x5 x6 x7 x8 x9 x10 h) : s8l2_G F x0 x1 x2 x3 x4 x5 x6 x7 x8 x9 x10 h := gJ_plain rfl H
theorem s8l2_in {F : Nat → s8l2_T} {x0 x1 x2 x3 : AVal} {x4 : ByteArray} {x5 x6 : AVal} {x7 x8 x9 x10 : Int} {h : Heap} (n : Nat) (H : F n x0 x1 x2 x3 x4 x5 x6 x7 x8 x9 x10 h) : s8l2_E F x0 x1 x2 x3 x4 x5 x6 x7 x8 x9 x10 h := gJ_plain rfl ⟨n, H⟩

def s8c3 (Ψ : AVal → Heap → Prop) (L1 : s8l1_T) (L2 : s8l2_T) (t2_2 l_7 a2 sets2 : AVal) (x1 : ByteArray) (in_1 t25_2 : AVal) (t26_2 t27_2 t32_1 t33_1 : Int) (h : Heap) : Prop :=
  rg (t33_1 + 1) (
    L2 t2_2 l_7 a2 sets2 x1 in_1 t25_2 t26_2 t27_2 t32_1 (t33_1 + 1) h)

abbrev s8l4_T := AVal → AVal → AVal → AVal → AVal → AVal → AVal → Int → Int → AVal → Int → Int → Heap → Prop
def s8l4_R (F : s8l4_T) (l : List AVal) (h : Heap) : Prop := J.cons l fun x0 l => J.cons l fun x1 l => J.cons l fun x2 l => J.cons l fun x3 l => J.cons l fun x4 l => J.cons l fun x5 l => J.cons l fun x6 l => J.cons l fun v l => J.int .i64 v fun x7 => J.cons l fun v l => J.int .i64 v fun x8 => J.cons l fun x9 l => J.cons l fun v l => J.int .i64 v fun x10 => J.cons l fun v l => J.int .i64 v fun x11 => J.nil l (F x0 x1 x2 x3 x4 x5 x6 x7 x8 x9 x10 x11 h)
def s8l4_G (F : s8l4_T) (x0 x1 x2 x3 x4 x5 x6 : AVal) (x7 x8 : Int) (x9 : AVal) (x10 x11 : Int) (h : Heap) : Prop := gJ [.any, .any, .any, .any, .any, .any, .any, .int .i64, .int .i64, .any, .int .i64, .int .i64] [x0, x1, x2, x3, x4, x5, x6, (.int .i64 x7), (.int .i64 x8), x9, (.int .i64 x10), (.int .i64 x11)] h (s8l4_R F)
def s8l4_E (F : Nat → s8l4_T) (x0 x1 x2 x3 x4 x5 x6 : AVal) (x7 x8 : Int) (x9 : AVal) (x10 x11 : Int) (h : Heap) : Prop := gJ [.any, .any, .any, .any, .any, .any, .any, .int .i64, .int .i64, .any, .int .i64, .int .i64] [x0, x1, x2, x3, x4, x5, x6, (.int .i64 x7), (.int .i64 x8), x9, (.int .i64 x10), (.int .i64 x11)] h (fun l h => ∃ n, s8l4_R (F n) l h)
theorem s8l4_go {F : s8l4_T} {x0 x1 x2 x3 x4 x5 x6 : AVal} {x7 x8 : Int} {x9 : AVal} {x10 x11 : Int} {h : Heap} (H : F x0 x1 x2 x3 x4 x5 x6 x7 x8 x9 x10 x11 h) : s8l4_G F x0 x1 x2 x3 x4 x5 x6 x7 x8 x9 x10 x11 h := gJ_plain rfl H
theorem s8l4_in {F : Nat → s8l4_T} {x0 x1 x2 x3 x4 x5 x6 : AVal} {x7 x8 : Int} {x9 : AVal} {x10 x11 : Int} {h : Heap} (n : Nat) (H : F n x0 x1 x2 x3 x4 x5 x6 x7 x8 x9 x10 x11 h) : s8l4_E F x0 x1 x2 x3 x4 x5 x6 x7 x8 x9 x10 x11 h := gJ_plain rfl ⟨n, H⟩

def s8l4 (Ψ : AVal → Heap → Prop) (L1 : s8l1_T) : Nat → s8l4_T
  | 0, _, _, _, _, _, _, _, _, _, _, _, _, _ => False
  | n4 + 1, t2_3, l_8, a3, sets3, in_2, row, t25_3, t26_3, t27_3, t45, t46, t47, h =>
    ifT (decide (t47 < t46)) (
      ixS 1 t45 t47 fun p1 =>
      ld1 h p1 fun v8 =>
      tStr v8 fun v9 =>
      callG prog 29 [(.str v9), in_2] h fun v10 h_5 =>
      tStr v10 fun v11 =>
      appC 1 1 h_5 row (.lsl 1 [(.bool (strEq v11 v9))]) fun v12 h_6 =>
      rg (t47 + 1) (
        s8l4_G (s8l4 Ψ L1 n4) t2_3 l_8 a3 sets3 in_2 v12 t25_3 t26_3 t27_3 t45 t46 (t47 + 1) h_6)) (
      chk (sc in_2) (
        appC 1 24 h sets3 (.lsl 1 [in_2]) fun v13 h_7 =>
        addOff a3 0 fun p2 =>
        ld1 h_7 p2 fun v14 =>
        chk (sc row) (
          appC 1 24 h_7 v14 (.lsl 1 [row]) fun v15 h_8 =>
          addOff a3 0 fun p3 =>
          chk (sc v15) (
            st true h_8 p3 [v15] fun h_9 =>
            rg (t27_3 + 1) (
              L1 t2_3 l_8 a3 v13 t25_3 t26_3 (t27_3 + 1) h_9)))))

def s8l2 (Ψ : AVal → Heap → Prop) (L1 : s8l1_T) : Nat → s8l2_T
  | 0, _, _, _, _, _, _, _, _, _, _, _, _ => False
  | n2 + 1, t2_1, l_6, a1, sets1, x, in_, t25_1, t26_1, t27_1, t32, t33, h =>
    ifT (decide (t33 < t32)) (
      ((0 : Int) ≤ t33 ∧ t33 < (x.size : Int)) ∧
      ifT ((btA x t33) == 1) (
        appC 1 8 h in_ (.lsl 1 [(.int .i64 t33)]) fun v7 h_4 =>
        s8c3 Ψ L1 (s8l2_G (s8l2 Ψ L1 n2)) t2_1 l_6 a1 sets1 x v7 t25_1 t26_1 t27_1 t32 t33 h_4) (
        s8c3 Ψ L1 (s8l2_G (s8l2 Ψ L1 n2)) t2_1 l_6 a1 sets1 x in_ t25_1 t26_1 t27_1 t32 t33 h)) (
      lenN l_6 fun n3 =>
      s8l4_E (s8l4 Ψ L1) t2_1 l_6 a1 sets1 in_ .nilsl t25_1 t26_1 t27_1 l_6 n3 0 h)

def s8l1 (Ψ : AVal → Heap → Prop) : Nat → s8l1_T
  | 0, _, _, _, _, _, _, _, _ => False
  | n1 + 1, t2, l_5, a, sets, t25, t26, t27, h =>
    ifT (decide (t27 < t26)) (
      ixS 1 t25 t27 fun p =>
      ld1 h p fun v5 =>
      tStr v5 fun v6 =>
      s8l2_E (s8l2 Ψ (s8l1_G (s8l1 Ψ n1))) t2 l_5 a sets v6 .nilsl t25 t26 t27 (v6.size : Int) 0 h) (
      ldN 1 h a fun l_9 =>
      tCons l_9 fun v16 l_10 =>
      tNil l_10 (
        st false h t2 [v16] fun h_10 =>
        ldN 1 h_10 t2 fun l_11 =>
        tCons l_11 fun v17 l_12 =>
        tNil l_12 (
          retG (.tuple [(.agg [v17]), sets, (.int .i64 0)]) h_10 Ψ)))

def s8 (Ψ : AVal → Heap → Prop) (m_Up : AVal) (m_Val : AVal) (h : Heap) : Prop :=
  Sym.newRow 1 [(.agg [.nilsl])] h fun r h_ =>
  callG prog 28 [(.agg [m_Up, m_Val])] h_ fun v h_1 =>
  tTup v fun l_ =>
  tCons l_ fun v1 l_1 =>
  tCons l_1 fun v2 l_2 =>
  tInt .i64 v2 fun v3 =>
  tNil l_2 (
    ifT (v3 != 0) (
      st false h_1 (.ptr r 0 0) [.nilsl] fun h_2 =>
      ldN 1 h_2 (.ptr r 0 0) fun l_3 =>
      tCons l_3 fun v4 l_4 =>
      tNil l_4 (
        retG (.tuple [(.agg [v4]), .nilsl, (.int .i64 v3)]) h_2 Ψ)) (
      Sym.newRow 1 [(.agg [.nilsl])] h_1 fun r1 h_3 =>
      lenN v1 fun n =>
      s8l1_E (s8l1 Ψ) (.ptr r 0 0) v1 (.ptr r1 0 0) .nilsl v1 n 0 h_3))

def s8_A (Ψ : AVal → Heap → Prop) : Ann :=
  .seq (.reg [⟨none, [(0, true), (1, false), (2, false), (3, false)]⟩])
  (.seq (rA 7)
  (.seq (.seq (rA 2)
  (.cond (.seq (rA 5)
  (.leaf))
  (.leaf)))
  (.seq (rA 1)
  (.seq (rA 1)
  (.seq (.seq (rA 3)
  (.block (.loop [(2, .any), (5, .any), (7, .any), (8, .any), (25, .any), (26, .int .i64), (27, .int .i64)] (fun n l h => s8l1_R (s8l1 Ψ n) l h) (fun L1 =>
  .seq (rA 1)
  (.seq (.cond (.leaf)
  (.leaf))
  (.seq (.block (.seq (rA 3)
  (.seq (rA 1)
  (.seq (.seq (rA 3)
  (.block (.loop [(2, .any), (5, .any), (7, .any), (8, .any), (10, .str), (11, .any), (25, .any), (26, .int .i64), (27, .int .i64), (32, .int .i64), (33, .int .i64)] (fun n l h => s8l2_R (s8l2 Ψ (fun y0 y1 y2 y3 y4 y5 y6 h => L1 [y0, y1, y2, y3, y4, (.int .i64 y5), (.int .i64 y6)] h) n) l h) (fun L2 =>
  .seq (rA 1)
  (.seq (.cond (.leaf)
  (.leaf))
  (.cut [(2, .any), (5, .any), (7, .any), (8, .any), (10, .str), (11, .any), (25, .any), (26, .int .i64), (27, .int .i64), (32, .int .i64), (33, .int .i64)] (fun l h => J.cons l fun x0 l => J.cons l fun x1 l => J.cons l fun x2 l => J.cons l fun x3 l => J.cons l fun v l => J.str v fun x4 => J.cons l fun x5 l => J.cons l fun x6 l => J.cons l fun v l => J.int .i64 v fun x7 => J.cons l fun v l => J.int .i64 v fun x8 => J.cons l fun v l => J.int .i64 v fun x9 => J.cons l fun v l => J.int .i64 v fun x10 => J.nil l (s8c3 Ψ (fun y0 y1 y2 y3 y4 y5 y6 h => L1 [y0, y1, y2, y3, y4, (.int .i64 y5), (.int .i64 y6)] h) (fun y0 y1 y2 y3 y4 y5 y6 y7 y8 y9 y10 h => L2 [y0, y1, y2, y3, (.str y4), y5, y6, (.int .i64 y7), (.int .i64 y8), (.int .i64 y9), (.int .i64 y10)] h) x0 x1 x2 x3 x4 x5 x6 x7 x8 x9 x10 h)) (.block (.seq (rA 2)
  (.seq (rA 4)
  (.cond (.reg [⟨none, [(0, false), (1, false), (2, true), (3, false), (4, false)]⟩])
  (.leaf)))))
  (rA 2)))))))
  (.seq (rA 1)
  (.seq (.seq (rA 3)
  (.block (.loop [(2, .any), (5, .any), (7, .any), (8, .any), (11, .any), (13, .any), (25, .any), (26, .int .i64), (27, .int .i64), (45, .any), (46, .int .i64), (47, .int .i64)] (fun n l h => s8l4_R (s8l4 Ψ (fun y0 y1 y2 y3 y4 y5 y6 h => L1 [y0, y1, y2, y3, y4, (.int .i64 y5), (.int .i64 y6)] h) n) l h) (fun L4 =>
  .seq (rA 1)
  (.seq (.cond (.leaf)
  (.leaf))
  (.seq (.block (.seq (rA 3)
  (.reg [⟨none, [(0, false), (1, false), (2, false), (3, false), (4, false), (5, false), (6, true), (7, false), (8, false)]⟩])))
  (rA 2)))))))
  (.seq (.reg [⟨none, [(0, false), (1, false), (2, true), (3, false), (4, false)]⟩])
  (.reg [⟨none, [(0, false), (1, false), (2, false), (3, true), (4, false), (5, false), (6, false)]⟩]))))))))
  (rA 2)))))))
  (.seq (rA 5)
  (.leaf)))))))

theorem s8_ok {Ψ : AVal → Heap → Prop} {m_Up : AVal} {m_Val : AVal} {h : Heap} (H : s8 Ψ m_Up m_Val h) : ACalls prog 8 [(.agg [m_Up, m_Val])] h Ψ :=
  calls_of_evF func8 (by kernel_rfl) (by kernel_rfl) (by kernel_rfl)
    (Eq.mpr (by as_aux_lemma => kernel_rfl : oblF prog f8 (s8_A Ψ) Ψ = (True ∧ True ∧ (True ∧ (True ∧ True) ∧ True) ∧ True ∧ True ∧ (True ∧ (∀ (h : Heap) (x0 x1 x2 x3 x4 : AVal) (x5 x6 : Int), ON (s8l1 Ψ 0 x0 x1 x2 x3 x4 x5 x6 h)) ∧ ∀ n1 : Nat, (∀ (h : Heap) (x0 x1 x2 x3 x4 : AVal) (x5 x6 : Int), OI (s8l1 Ψ (n1 + 1) x0 x1 x2 x3 x4 x5 x6 h)) ∧ (True ∧ (True ∧ True) ∧ (True ∧ True ∧ (True ∧ (∀ (h : Heap) (x0 x1 x2 x3 : AVal) (x4 : ByteArray) (x5 x6 : AVal) (x7 x8 x9 x10 : Int), ON (s8l2 Ψ (s8l1_G (s8l1 Ψ n1)) 0 x0 x1 x2 x3 x4 x5 x6 x7 x8 x9 x10 h)) ∧ ∀ n2 : Nat, (∀ (h : Heap) (x0 x1 x2 x3 : AVal) (x4 : ByteArray) (x5 x6 : AVal) (x7 x8 x9 x10 : Int), OI (s8l2 Ψ (s8l1_G (s8l1 Ψ n1)) (n2 + 1) x0 x1 x2 x3 x4 x5 x6 x7 x8 x9 x10 h)) ∧ (True ∧ (True ∧ True) ∧ (True ∧ True ∧ True ∧ True) ∧ (∀ (h : Heap) (x0 x1 x2 x3 : AVal) (x4 : ByteArray) (x5 x6 : AVal) (x7 x8 x9 x10 : Int), OI (s8c3 Ψ (s8l1_G (s8l1 Ψ n1)) (s8l2_G (s8l2 Ψ (s8l1_G (s8l1 Ψ n1)) n2)) x0 x1 x2 x3 x4 x5 x6 x7 x8 x9 x10 h)) ∧ (True))) ∧ True ∧ (True ∧ (∀ (h : Heap) (x0 x1 x2 x3 x4 x5 x6 : AVal) (x7 x8 : Int) (x9 : AVal) (x10 x11 : Int), ON (s8l4 Ψ (s8l1_G (s8l1 Ψ n1)) 0 x0 x1 x2 x3 x4 x5 x6 x7 x8 x9 x10 x11 h)) ∧ ∀ n4 : Nat, (∀ (h : Heap) (x0 x1 x2 x3 x4 x5 x6 : AVal) (x7 x8 : Int) (x9 : AVal) (x10 x11 : Int), OI (s8l4 Ψ (s8l1_G (s8l1 Ψ n1)) (n4 + 1) x0 x1 x2 x3 x4 x5 x6 x7 x8 x9 x10 x11 h)) ∧ (True ∧ (True ∧ True) ∧ (True ∧ True) ∧ True)) ∧ True ∧ True) ∧ True)) ∧ True ∧ True)) ⟨trivial, ⟨trivial, ⟨⟨trivial, ⟨⟨trivial, trivial⟩, trivial⟩⟩, ⟨trivial, ⟨trivial, ⟨⟨trivial, ⟨fun _ _ _ _ _ _ _ _ H => H, fun _ => ⟨fun _ _ _ _ _ _ _ _ H => H, ⟨trivial, ⟨⟨trivial, trivial⟩, ⟨⟨trivial, ⟨trivial, ⟨⟨trivial, ⟨fun _ _ _ _ _ _ _ _ _ _ _ _ H => H, fun _ => ⟨fun _ _ _ _ _ _ _ _ _ _ _ _ H => H, ⟨trivial, ⟨⟨trivial, trivial⟩, ⟨⟨trivial, ⟨trivial, ⟨trivial, trivial⟩⟩⟩, fun _ _ _ _ _ _ _ _ _ _ _ _ H => H, trivial⟩⟩⟩⟩⟩⟩, ⟨trivial, ⟨⟨trivial, ⟨fun _ _ _ _ _ _ _ _ _ _ _ _ _ H => H, fun _ => ⟨fun _ _ _ _ _ _ _ _ _ _ _ _ _ H => H, ⟨trivial, ⟨⟨trivial, trivial⟩, ⟨⟨trivial, trivial⟩, trivial⟩⟩⟩⟩⟩⟩, ⟨trivial, trivial⟩⟩⟩⟩⟩⟩, trivial⟩⟩⟩⟩⟩⟩, ⟨trivial, trivial⟩⟩⟩⟩⟩⟩⟩)
    (Eq.mpr (by as_aux_lemma => kernel_rfl : evF prog f8 (s8_A Ψ) Ψ [(.agg [m_Up, m_Val])] h = s8 Ψ m_Up m_Val h) H)

/- 10 dictum/heyting.Check -/
def s10 (Ψ : AVal → Heap → Prop) (a_Leq : AVal) (h : Heap) : Prop :=
  callG prog 23 [(.agg [a_Leq]), .nilsl] h fun v h_ =>
  tTup v fun l_ =>
  tCons l_ fun v1 l_1 =>
  tCons l_1 fun v2 l_2 =>
  tInt .i64 v2 fun v3 =>
  tNil l_2 (
    tAgg v1 fun l_3 =>
    tCons l_3 fun v4 l_4 =>
    tInt .i64 v4 fun v5 =>
    tCons l_4 fun v6 l_5 =>
    tNil l_5 (
      Sym.newRow 2 [(.agg [(.int .i64 0), .nilfunc])] h_ fun r h_1 =>
      st false h_1 (.ptr r 0 0) [(.int .i64 v5), v6] fun h_2 =>
      retG (.int .i64 v3) h_2 Ψ))

def s10_A (Ψ : AVal → Heap → Prop) : Ann :=
  .seq (.reg [⟨none, [(0, true), (1, false)]⟩])
  (.seq (rA 8)
  (.seq (rA 2)
  (.leaf)))

theorem s10_ok {Ψ : AVal → Heap → Prop} {a_Leq : AVal} {h : Heap} (H : s10 Ψ a_Leq h) : ACalls prog 10 [(.agg [a_Leq])] h Ψ :=
  calls_of_evF func10 (by kernel_rfl) (by kernel_rfl) (by kernel_rfl)
    (Eq.mpr (by as_aux_lemma => kernel_rfl : oblF prog f10 (s10_A Ψ) Ψ = (True ∧ True ∧ True ∧ True)) ⟨trivial, ⟨trivial, ⟨trivial, trivial⟩⟩⟩)
    (Eq.mpr (by as_aux_lemma => kernel_rfl : evF prog f10 (s10_A Ψ) Ψ [(.agg [a_Leq])] h = s10 Ψ a_Leq h) H)

/- 12 dictum/heyting.Meet -/
def s12 (Ψ : AVal → Heap → Prop) (a_Leq : AVal) (x : Int) (y : Int) (h : Heap) : Prop :=
  callG prog 23 [(.agg [a_Leq]), (.lsl 1 [(.int .i64 x), (.int .i64 y)])] h fun v h_ =>
  tTup v fun l_ =>
  tCons l_ fun v1 l_1 =>
  tCons l_1 fun v2 l_2 =>
  tInt .i64 v2 fun v3 =>
  tNil l_2 (
    tAgg v1 fun l_3 =>
    tCons l_3 fun v4 l_4 =>
    tInt .i64 v4 fun v5 =>
    tCons l_4 fun v6 l_5 =>
    tNil l_5 (
      Sym.newRow 2 [(.agg [(.int .i64 0), .nilfunc])] h_ fun r h_1 =>
      st false h_1 (.ptr r 0 0) [(.int .i64 v5), v6] fun h_2 =>
      ifT (v3 != 0) (
        retG (.tuple [(.int .i64 0), (.int .i64 v3)]) h_2 Ψ) (
        ldN 2 h_2 (.ptr r 0 0) fun l_6 =>
        tCons l_6 fun v7 l_7 =>
        tInt .i64 v7 fun v8 =>
        tCons l_7 fun v9 l_8 =>
        tNil l_8 (
          callG prog 30 [(.agg [(.int .i64 v8), v9]), (.int .i64 x), (.int .i64 y)] h_2 fun v10 h_3 =>
          tTup v10 fun l_9 =>
          tCons l_9 fun v11 l_10 =>
          tInt .i64 v11 fun v12 =>
          tCons l_10 fun v13 l_11 =>
          tBool v13 fun v14 =>
          tNil l_11 (
            retG (.tuple [(.int .i64 v12), (.int .i64 0)]) h_3 Ψ)))))

def s12_A (Ψ : AVal → Heap → Prop) : Ann :=
  .seq (.reg [⟨none, [(0, true), (1, false), (2, false)]⟩])
  (.seq (.reg [⟨none, [(0, false), (1, false), (2, false), (3, true), (4, false), (5, false), (6, false), (7, false), (8, false), (9, false), (10, false)]⟩])
  (.seq (.seq (rA 2)
  (.cond (.seq (rA 3)
  (.leaf))
  (.leaf)))
  (.seq (rA 9)
  (.seq (rA 3)
  (.leaf)))))

theorem s12_ok {Ψ : AVal → Heap → Prop} {a_Leq : AVal} {x : Int} {y : Int} {h : Heap} (H : s12 Ψ a_Leq x y h) : ACalls prog 12 [(.agg [a_Leq]), (.int .i64 x), (.int .i64 y)] h Ψ :=
  calls_of_evF func12 (by kernel_rfl) (by kernel_rfl) (by kernel_rfl)
    (Eq.mpr (by as_aux_lemma => kernel_rfl : oblF prog f12 (s12_A Ψ) Ψ = (True ∧ True ∧ (True ∧ (True ∧ True) ∧ True) ∧ True ∧ True ∧ True)) ⟨trivial, ⟨trivial, ⟨⟨trivial, ⟨⟨trivial, trivial⟩, trivial⟩⟩, ⟨trivial, ⟨trivial, trivial⟩⟩⟩⟩⟩)
    (Eq.mpr (by as_aux_lemma => kernel_rfl : evF prog f12 (s12_A Ψ) Ψ [(.agg [a_Leq]), (.int .i64 x), (.int .i64 y)] h = s12 Ψ a_Leq x y h) H)

/- 14 dictum/dictumref23.Copy -/
abbrev s14l1_T := AVal → AVal → AVal → Int → Heap → Prop
def s14l1_R (F : s14l1_T) (l : List AVal) (h : Heap) : Prop := J.cons l fun x0 l => J.cons l fun x1 l => J.cons l fun x2 l => J.cons l fun v l => J.int .i64 v fun x3 => J.nil l (F x0 x1 x2 x3 h)
def s14l1_G (F : s14l1_T) (x0 x1 x2 : AVal) (x3 : Int) (h : Heap) : Prop := gJ [.any, .any, .any, .int .i64] [x0, x1, x2, (.int .i64 x3)] h (s14l1_R F)
def s14l1_E (F : Nat → s14l1_T) (x0 x1 x2 : AVal) (x3 : Int) (h : Heap) : Prop := gJ [.any, .any, .any, .int .i64] [x0, x1, x2, (.int .i64 x3)] h (fun l h => ∃ n, s14l1_R (F n) l h)
theorem s14l1_go {F : s14l1_T} {x0 x1 x2 : AVal} {x3 : Int} {h : Heap} (H : F x0 x1 x2 x3 h) : s14l1_G F x0 x1 x2 x3 h := gJ_plain rfl H
theorem s14l1_in {F : Nat → s14l1_T} {x0 x1 x2 : AVal} {x3 : Int} {h : Heap} (n : Nat) (H : F n x0 x1 x2 x3 h) : s14l1_E F x0 x1 x2 x3 h := gJ_plain rfl ⟨n, H⟩

def s14l1 (Ψ : AVal → Heap → Prop) : Nat → s14l1_T
  | 0, _, _, _, _, _ => False
  | n + 1, a, t2, out, x, h =>
    addOff a 0 fun p =>
    ld1 h p fun v =>
    lenN v fun n1 =>
    ifT (decide (x < n1)) (
      addOff out 0 fun p1 =>
      ld1 h p1 fun v1 =>
      addOff a 0 fun p2 =>
      ld1 h p2 fun v2 =>
      ixS 1 v2 x fun p3 =>
      ld1 h p3 fun v3 =>
      Sym.newRow 1 [] h fun r2 h_3 =>
      (ld1 h_3 p3 fun v4 =>
      v4 = v3) ∧
      (ld1 h_3 p2 fun v5 =>
      v5 = v2) ∧
      (ld1 h_3 p1 fun v6 =>
      v6 = v1) ∧
      appC 1 1 h_3 (.sl r2 1 0 0) v3 fun v7 h_4 =>
      (ld1 h_4 p1 fun v8 =>
      v8 = v1) ∧
      chk (sc v7) (
        (ld1 h_4 p1 fun v9 =>
        v9 = v1) ∧
        appC 1 24 h_4 v1 (.lsl 1 [v7]) fun v10 h_5 =>
        addOff out 0 fun p4 =>
        chk (sc v10) (
          st true h_5 p4 [v10] fun h_6 =>
          rg (x + 1) (
            s14l1_G (s14l1 Ψ n) a t2 out (x + 1) h_6)))) (
      ldN 1 h out fun l_ =>
      tCons l_ fun v11 l_1 =>
      tNil l_1 (
        st false h t2 [v11] fun h_7 =>
        ldN 1 h_7 t2 fun l_2 =>
        tCons l_2 fun v12 l_3 =>
        tNil l_3 (
          retG (.agg [v12]) h_7 Ψ)))

def s14 (Ψ : AVal → Heap → Prop) (a_Leq : AVal) (h : Heap) : Prop :=
  Sym.newRow 1 [(.agg [.nilsl])] h fun r h_ =>
  Sym.newRow 1 [(.agg [.nilsl])] h_ fun r1 h_1 =>
  st false h_1 (.ptr r1 0 0) [.nilsl] fun h_2 =>
  s14l1_E (s14l1 Ψ) (.lptr [a_Leq]) (.ptr r 0 0) (.ptr r1 0 0) 0 h_2

def s14_A (Ψ : AVal → Heap → Prop) : Ann :=
  .seq (.reg [⟨none, [(0, true), (1, false)]⟩])
  (.seq (rA 3)
  (.seq (.seq (rA 1)
  (.block (.loop [(1, .any), (2, .any), (3, .any), (4, .int .i64)] (fun n l h => s14l1_R (s14l1 Ψ n) l h) (fun L1 =>
  .seq (.seq (rA 5)
  (.cond (.leaf)
  (.leaf)))
  (.seq (.block (.draw [(0, false), (1, false), (3, false), (4, false), (5, false), (6, false), (7, false), (2, false), (8, false), (9, true), (10, false), (11, false), (12, false)] [0, 1, 0, 0, 8, 0, 56, 120, 252, 508, 1023, 2047, 4095]))
  (rA 3))))))
  (.seq (rA 2)
  (.leaf))))

theorem s14_ok {Ψ : AVal → Heap → Prop} {a_Leq : AVal} {h : Heap} (H : s14 Ψ a_Leq h) : ACalls prog 14 [(.agg [a_Leq])] h Ψ :=
  calls_of_evF func14 (by kernel_rfl) (by kernel_rfl) (by kernel_rfl)
    (Eq.mpr (by as_aux_lemma => kernel_rfl : oblF prog f14 (s14_A Ψ) Ψ = (True ∧ True ∧ (True ∧ (∀ (h : Heap) (x0 x1 x2 : AVal) (x3 : Int), ON (s14l1 Ψ 0 x0 x1 x2 x3 h)) ∧ ∀ n1 : Nat, (∀ (h : Heap) (x0 x1 x2 : AVal) (x3 : Int), OI (s14l1 Ψ (n1 + 1) x0 x1 x2 x3 h)) ∧ ((True ∧ True ∧ True) ∧ True ∧ True)) ∧ True ∧ True)) ⟨trivial, ⟨trivial, ⟨⟨trivial, ⟨fun _ _ _ _ _ H => H, fun _ => ⟨fun _ _ _ _ _ H => H, ⟨⟨trivial, ⟨trivial, trivial⟩⟩, ⟨trivial, trivial⟩⟩⟩⟩⟩, ⟨trivial, trivial⟩⟩⟩⟩)
    (Eq.mpr (by as_aux_lemma => kernel_rfl : evF prog f14 (s14_A Ψ) Ψ [(.agg [a_Leq])] h = s14 Ψ a_Leq h) H)

/- 16 dictum/dictumref23.Two -/
def s16c1 (Ψ : AVal → Heap → Prop) (k1 x1 y1 : Int) (h_1 : AVal) (t42 : Bool) (h : Heap) : Prop :=
  ifT t42 (
    retG (.tuple [(.int .i64 0), (.int .i64 2)]) h Ψ) (
    ifT (k1 == 3) (
      nilCheckA h_1 fun p =>
      addOff p 1 fun p1 =>
      ld1 h p1 fun v4 =>
      ixS 1 v4 x1 fun p2 =>
      ld1 h p2 fun v5 =>
      ixS 1 v5 y1 fun p3 =>
      ld1 h p3 fun v6 =>
      tInt .i64 v6 fun v7 =>
      retG (.tuple [(.int .i64 v7), (.int .i64 0)]) h Ψ) (
      ifT (k1 == 4) (
        nilCheckA h_1 fun p4 =>
        addOff p4 2 fun p5 =>
        ld1 h p5 fun v8 =>
        ixS 1 v8 x1 fun p6 =>
        ld1 h p6 fun v9 =>
        ixS 1 v9 y1 fun p7 =>
        ld1 h p7 fun v10 =>
        tInt .i64 v10 fun v11 =>
        retG (.tuple [(.int .i64 v11), (.int .i64 0)]) h Ψ) (
        callG prog 32 [h_1, (.int .i64 x1), (.int .i64 y1)] h fun v12 h_2 =>
        tInt .i64 v12 fun v13 =>
        retG (.tuple [(.int .i64 v13), (.int .i64 0)]) h_2 Ψ)))

def s16 (Ψ : AVal → Heap → Prop) (a_Leq : AVal) (k : Int) (x : Int) (y : Int) (h : Heap) : Prop :=
  callG prog 20 [(.agg [a_Leq])] h fun v h_ =>
  tTup v fun l_ =>
  tCons l_ fun v1 l_1 =>
  tCons l_1 fun v2 l_2 =>
  tBool v2 fun v3 =>
  tNil l_2 (
    ifT (!v3) (
      retG (.tuple [(.int .i64 0), (.int .i64 230)]) h_ Ψ) (
      ifT (decide (x < 0)) (
        s16c1 Ψ k x y v1 true h_) (
        nilCheckA v1 fun p8 =>
        addOff p8 0 fun p9 =>
        ld1 h_ p9 fun v14 =>
        lenN v14 fun n =>
        ifT (decide (n ≤ x)) (
          s16c1 Ψ k x y v1 true h_) (
          ifT (decide (y < 0)) (
            s16c1 Ψ k x y v1 true h_) (
            nilCheckA v1 fun p10 =>
            addOff p10 0 fun p11 =>
            ld1 h_ p11 fun v15 =>
            lenN v15 fun n1 =>
            s16c1 Ψ k x y v1 (decide (n1 ≤ y)) h_)))))

def s16_A (Ψ : AVal → Heap → Prop) : Ann :=
  .seq (.reg [⟨none, [(0, true), (1, false), (2, false)]⟩])
  (.seq (rA 7)
  (.seq (.seq (rA 2)
  (.cond (.seq (rA 2)
  (.leaf))
  (.leaf)))
  (.seq (.cut [(1, .int .i64), (2, .int .i64), (3, .int .i64), (10, .any), (42, .bool)] (fun l h => J.cons l fun v l => J.int .i64 v fun x0 => J.cons l fun v l => J.int .i64 v fun x1 => J.cons l fun v l => J.int .i64 v fun x2 => J.cons l fun x3 l => J.cons l fun v l => J.bool v fun x4 => J.nil l (s16c1 Ψ x0 x1 x2 x3 x4 h)) (.reg [⟨none, [(0, false), (1, false), (2, false)]⟩, ⟨some (21, false), [(3, false), (4, false), (5, false), (6, false), (7, false), (8, false), (9, false)]⟩, ⟨none, [(10, false), (11, false)]⟩, ⟨some (30, false), [(12, false), (13, false)]⟩, ⟨none, [(14, false), (15, false)]⟩, ⟨some (34, false), [(16, false), (17, false), (18, false), (19, false), (20, false), (21, false), (22, false)]⟩, ⟨none, [(23, false)]⟩])
  (.cond (.seq (rA 2)
  (.leaf))
  (.leaf)))
  (.seq (.seq (rA 1)
  (.block (.seq (rA 2)
  (.cond (.seq (rA 12)
  (.leaf))
  (.seq (rA 2)
  (.cond (.seq (rA 12)
  (.leaf))
  (.leaf)))))))
  (.seq (rA 6)
  (.leaf))))))

theorem s16_ok {Ψ : AVal → Heap → Prop} {a_Leq : AVal} {k : Int} {x : Int} {y : Int} {h : Heap} (H : s16 Ψ a_Leq k x y h) : ACalls prog 16 [(.agg [a_Leq]), (.int .i64 k), (.int .i64 x), (.int .i64 y)] h Ψ :=
  calls_of_evF func16 (by kernel_rfl) (by kernel_rfl) (by kernel_rfl)
    (Eq.mpr (by as_aux_lemma => kernel_rfl : oblF prog f16 (s16_A Ψ) Ψ = (True ∧ True ∧ (True ∧ (True ∧ True) ∧ True) ∧ ((True) ∧ (∀ (h : Heap) (x0 x1 x2 : Int) (x3 : AVal) (x4 : Bool), OI (s16c1 Ψ x0 x1 x2 x3 x4 h)) ∧ ((True ∧ True) ∧ True)) ∧ (True ∧ True ∧ (True ∧ True) ∧ True ∧ (True ∧ True) ∧ True) ∧ True ∧ True)) ⟨trivial, ⟨trivial, ⟨⟨trivial, ⟨⟨trivial, trivial⟩, trivial⟩⟩, ⟨⟨trivial, fun _ _ _ _ _ _ H => H, ⟨⟨trivial, trivial⟩, trivial⟩⟩, ⟨⟨trivial, ⟨trivial, ⟨⟨trivial, trivial⟩, ⟨trivial, ⟨⟨trivial, trivial⟩, trivial⟩⟩⟩⟩⟩, ⟨trivial, trivial⟩⟩⟩⟩⟩⟩)
    (Eq.mpr (by as_aux_lemma => kernel_rfl : evF prog f16 (s16_A Ψ) Ψ [(.agg [a_Leq]), (.int .i64 k), (.int .i64 x), (.int .i64 y)] h = s16 Ψ a_Leq k x y h) H)

/- 18 dictum/heyting.Boolean -/
abbrev s18l1_T := AVal → Int → Int → Int → Int → Heap → Prop
def s18l1_R (F : s18l1_T) (l : List AVal) (h : Heap) : Prop := J.cons l fun x0 l => J.cons l fun v l => J.int .i64 v fun x1 => J.cons l fun v l => J.int .i64 v fun x2 => J.cons l fun v l => J.int .i64 v fun x3 => J.cons l fun v l => J.int .i64 v fun x4 => J.nil l (F x0 x1 x2 x3 x4 h)
def s18l1_G (F : s18l1_T) (x0 : AVal) (x1 x2 x3 x4 : Int) (h : Heap) : Prop := gJ [.any, .int .i64, .int .i64, .int .i64, .int .i64] [x0, (.int .i64 x1), (.int .i64 x2), (.int .i64 x3), (.int .i64 x4)] h (s18l1_R F)
def s18l1_E (F : Nat → s18l1_T) (x0 : AVal) (x1 x2 x3 x4 : Int) (h : Heap) : Prop := gJ [.any, .int .i64, .int .i64, .int .i64, .int .i64] [x0, (.int .i64 x1), (.int .i64 x2), (.int .i64 x3), (.int .i64 x4)] h (fun l h => ∃ n, s18l1_R (F n) l h)
theorem s18l1_go {F : s18l1_T} {x0 : AVal} {x1 x2 x3 x4 : Int} {h : Heap} (H : F x0 x1 x2 x3 x4 h) : s18l1_G F x0 x1 x2 x3 x4 h := gJ_plain rfl H
theorem s18l1_in {F : Nat → s18l1_T} {x0 : AVal} {x1 x2 x3 x4 : Int} {h : Heap} (n : Nat) (H : F n x0 x1 x2 x3 x4 h) : s18l1_E F x0 x1 x2 x3 x4 h := gJ_plain rfl ⟨n, H⟩

def s18l1 (Ψ : AVal → Heap → Prop) : Nat → s18l1_T
  | 0, _, _, _, _, _, _ => False
  | n + 1, l_12, low, high, t25, t26, h =>
    ifT (decide (t26 < t25)) (
      ldN 2 h l_12 fun l_13 =>
      tCons l_13 fun v17 l_14 =>
      tInt .i64 v17 fun v18 =>
      tCons l_14 fun v19 l_15 =>
      tNil l_15 (
        ldN 2 h l_12 fun l_16 =>
        tCons l_16 fun v20 l_17 =>
        tInt .i64 v20 fun v21 =>
        tCons l_17 fun v22 l_18 =>
        tNil l_18 (
          callG prog 31 [(.agg [(.int .i64 v21), v22]), (.int .i64 t26), (.int .i64 low)] h fun v23 h_4 =>
          tInt .i64 v23 fun v24 =>
          (ldN 2 h_4 l_12 fun l_19 =>
          (AVal.agg l_19) = (.agg [(.int .i64 v18), v19])) ∧
          callG prog 25 [(.agg [(.int .i64 v18), v19]), (.int .i64 t26), (.int .i64 v24)] h_4 fun v25 h_5 =>
          tTup v25 fun l_20 =>
          tCons l_20 fun v26 l_21 =>
          tInt .i64 v26 fun v27 =>
          tCons l_21 fun v28 l_22 =>
          tBool v28 fun v29 =>
          tNil l_22 (
            ifT (v27 != high) (
              retG (.tuple [(.bool false), (.int .i64 0)]) h_5 Ψ) (
              rg (t26 + 1) (
                s18l1_G (s18l1 Ψ n) l_12 low high t25 (t26 + 1) h_5)))))) (
      retG (.tuple [(.bool true), (.int .i64 0)]) h Ψ)

def s18 (Ψ : AVal → Heap → Prop) (a_Leq : AVal) (h : Heap) : Prop :=
  callG prog 23 [(.agg [a_Leq]), .nilsl] h fun v h_ =>
  tTup v fun l_ =>
  tCons l_ fun v1 l_1 =>
  tCons l_1 fun v2 l_2 =>
  tInt .i64 v2 fun v3 =>
  tNil l_2 (
    tAgg v1 fun l_3 =>
    tCons l_3 fun v4 l_4 =>
    tInt .i64 v4 fun v5 =>
    tCons l_4 fun v6 l_5 =>
    tNil l_5 (
      Sym.newRow 2 [(.agg [(.int .i64 0), .nilfunc])] h_ fun r h_1 =>
      st false h_1 (.ptr r 0 0) [(.int .i64 v5), v6] fun h_2 =>
      ifT (v3 != 0) (
        retG (.tuple [(.bool false), (.int .i64 v3)]) h_2 Ψ) (
        ldN 2 h_2 (.ptr r 0 0) fun l_6 =>
        tCons l_6 fun v7 l_7 =>
        tInt .i64 v7 fun v8 =>
        tCons l_7 fun v9 l_8 =>
        tNil l_8 (
          callG prog 24 [(.agg [(.int .i64 v8), v9])] h_2 fun v10 h_3 =>
          tTup v10 fun l_9 =>
          tCons l_9 fun v11 l_10 =>
          tInt .i64 v11 fun v12 =>
          tCons l_10 fun v13 l_11 =>
          tInt .i64 v13 fun v14 =>
          tNil l_11 (
            ld1 h_3 (.ptr r 0 0) fun v15 =>
            tInt .i64 v15 fun v16 =>
            s18l1_E (s18l1 Ψ) (.ptr r 0 0) v12 v14 v16 0 h_3)))))

def s18_A (Ψ : AVal → Heap → Prop) : Ann :=
  .seq (.reg [⟨none, [(0, true), (1, false), (2, false)]⟩])
  (.seq (rA 8)
  (.seq (.seq (rA 2)
  (.cond (.seq (rA 3)
  (.leaf))
  (.leaf)))
  (.seq (rA 7)
  (.seq (.seq (rA 3)
  (.block (.loop [(4, .any), (6, .int .i64), (7, .int .i64), (25, .int .i64), (26, .int .i64)] (fun n l h => s18l1_R (s18l1 Ψ n) l h) (fun L1 =>
  .seq (rA 1)
  (.seq (.cond (.leaf)
  (.leaf))
  (.seq (.block (.seq (rA 2)
  (.seq (.draw [(0, false), (1, false), (2, false), (3, false), (4, false), (5, false), (6, false), (7, false), (8, false), (9, false), (10, false), (11, false)] [0, 0, 0, 0, 0, 28, 63, 127, 255, 255, 511, 2047])
  (.seq (rA 3)
  (.cond (.seq (rA 2)
  (.leaf))
  (.leaf))))))
  (rA 2)))))))
  (.seq (rA 2)
  (.leaf))))))

theorem s18_ok {Ψ : AVal → Heap → Prop} {a_Leq : AVal} {h : Heap} (H : s18 Ψ a_Leq h) : ACalls prog 18 [(.agg [a_Leq])] h Ψ :=
  calls_of_evF func18 (by kernel_rfl) (by kernel_rfl) (by kernel_rfl)
    (Eq.mpr (by as_aux_lemma => kernel_rfl : oblF prog f18 (s18_A Ψ) Ψ = (True ∧ True ∧ (True ∧ (True ∧ True) ∧ True) ∧ True ∧ (True ∧ (∀ (h : Heap) (x0 : AVal) (x1 x2 x3 x4 : Int), ON (s18l1 Ψ 0 x0 x1 x2 x3 x4 h)) ∧ ∀ n1 : Nat, (∀ (h : Heap) (x0 : AVal) (x1 x2 x3 x4 : Int), OI (s18l1 Ψ (n1 + 1) x0 x1 x2 x3 x4 h)) ∧ (True ∧ (True ∧ True) ∧ (True ∧ True ∧ True ∧ (True ∧ True) ∧ True) ∧ True)) ∧ True ∧ True)) ⟨trivial, ⟨trivial, ⟨⟨trivial, ⟨⟨trivial, trivial⟩, trivial⟩⟩, ⟨trivial, ⟨⟨trivial, ⟨fun _ _ _ _ _ _ H => H, fun _ => ⟨fun _ _ _ _ _ _ H => H, ⟨trivial, ⟨⟨trivial, trivial⟩, ⟨⟨trivial, ⟨trivial, ⟨trivial, ⟨⟨trivial, trivial⟩, trivial⟩⟩⟩⟩, trivial⟩⟩⟩⟩⟩⟩, ⟨trivial, trivial⟩⟩⟩⟩⟩⟩)
    (Eq.mpr (by as_aux_lemma => kernel_rfl : evF prog f18 (s18_A Ψ) Ψ [(.agg [a_Leq])] h = s18 Ψ a_Leq h) H)

/- 20 dictum/dictumref23.Of -/
abbrev s20l1_T := AVal → Int → AVal → Int → Heap → Prop
def s20l1_R (F : s20l1_T) (l : List AVal) (h : Heap) : Prop := J.cons l fun x0 l => J.cons l fun v l => J.int .i64 v fun x1 => J.cons l fun x2 l => J.cons l fun v l => J.int .i64 v fun x3 => J.nil l (F x0 x1 x2 x3 h)
def s20l1_G (F : s20l1_T) (x0 : AVal) (x1 : Int) (x2 : AVal) (x3 : Int) (h : Heap) : Prop := gJ [.any, .int .i64, .any, .int .i64] [x0, (.int .i64 x1), x2, (.int .i64 x3)] h (s20l1_R F)
def s20l1_E (F : Nat → s20l1_T) (x0 : AVal) (x1 : Int) (x2 : AVal) (x3 : Int) (h : Heap) : Prop := gJ [.any, .int .i64, .any, .int .i64] [x0, (.int .i64 x1), x2, (.int .i64 x3)] h (fun l h => ∃ n, s20l1_R (F n) l h)
theorem s20l1_go {F : s20l1_T} {x0 : AVal} {x1 : Int} {x2 : AVal} {x3 : Int} {h : Heap} (H : F x0 x1 x2 x3 h) : s20l1_G F x0 x1 x2 x3 h := gJ_plain rfl H
theorem s20l1_in {F : Nat → s20l1_T} {x0 : AVal} {x1 : Int} {x2 : AVal} {x3 : Int} {h : Heap} (n : Nat) (H : F n x0 x1 x2 x3 h) : s20l1_E F x0 x1 x2 x3 h := gJ_plain rfl ⟨n, H⟩

abbrev s20l2_T := AVal → Int → AVal → Int → AVal → AVal → Int → Heap → Prop
def s20l2_R (F : s20l2_T) (l : List AVal) (h : Heap) : Prop := J.cons l fun x0 l => J.cons l fun v l => J.int .i64 v fun x1 => J.cons l fun x2 l => J.cons l fun v l => J.int .i64 v fun x3 => J.cons l fun x4 l => J.cons l fun x5 l => J.cons l fun v l => J.int .i64 v fun x6 => J.nil l (F x0 x1 x2 x3 x4 x5 x6 h)
def s20l2_G (F : s20l2_T) (x0 : AVal) (x1 : Int) (x2 : AVal) (x3 : Int) (x4 x5 : AVal) (x6 : Int) (h : Heap) : Prop := gJ [.any, .int .i64, .any, .int .i64, .any, .any, .int .i64] [x0, (.int .i64 x1), x2, (.int .i64 x3), x4, x5, (.int .i64 x6)] h (s20l2_R F)
def s20l2_E (F : Nat → s20l2_T) (x0 : AVal) (x1 : Int) (x2 : AVal) (x3 : Int) (x4 x5 : AVal) (x6 : Int) (h : Heap) : Prop := gJ [.any, .int .i64, .any, .int .i64, .any, .any, .int .i64] [x0, (.int .i64 x1), x2, (.int .i64 x3), x4, x5, (.int .i64 x6)] h (fun l h => ∃ n, s20l2_R (F n) l h)
theorem s20l2_go {F : s20l2_T} {x0 : AVal} {x1 : Int} {x2 : AVal} {x3 : Int} {x4 x5 : AVal} {x6 : Int} {h : Heap} (H : F x0 x1 x2 x3 x4 x5 x6 h) : s20l2_G F x0 x1 x2 x3 x4 x5 x6 h := gJ_plain rfl H
theorem s20l2_in {F : Nat → s20l2_T} {x0 : AVal} {x1 : Int} {x2 : AVal} {x3 : Int} {x4 x5 : AVal} {x6 : Int} {h : Heap} (n : Nat) (H : F n x0 x1 x2 x3 x4 x5 x6 h) : s20l2_E F x0 x1 x2 x3 x4 x5 x6 h := gJ_plain rfl ⟨n, H⟩

def s20c3 (Ψ : AVal → Heap → Prop) (L1 : s20l1_T) (L2 : s20l2_T) (l_2 : AVal) (n5 : Int) (h_6 : AVal) (x2 : Int) (met1 join1 : AVal) (y1 m j : Int) (t49 : Bool) (h : Heap) : Prop :=
  ifT t49 (
    retG (.tuple [.nilptr, (.bool false)]) h Ψ) (
    appC 1 8 h met1 (.lsl 1 [(.int .i64 m)]) fun v6 h_7 =>
    appC 1 8 h_7 join1 (.lsl 1 [(.int .i64 j)]) fun v7 h_8 =>
    rg (y1 + 1) (
      L2 l_2 n5 h_6 x2 v6 v7 (y1 + 1) h_8))

def s20l2 (Ψ : AVal → Heap → Prop) (L1 : s20l1_T) : Nat → s20l2_T
  | 0, _, _, _, _, _, _, _, _ => False
  | n4 + 1, l_1, n3, h_3, x1, met, join, y, h =>
    ifT (decide (y < n3)) (
      callG prog 34 [l_1, (.int .i64 x1), (.int .i64 y), (.bool true)] h fun v2 h_4 =>
      tInt .i64 v2 fun v3 =>
      callG prog 34 [l_1, (.int .i64 x1), (.int .i64 y), (.bool false)] h_4 fun v4 h_5 =>
      tInt .i64 v4 fun v5 =>
      ifT (decide (v3 < 0)) (
        s20c3 Ψ L1 (s20l2_G (s20l2 Ψ L1 n4)) l_1 n3 h_3 x1 met join y v3 v5 true h_5) (
        s20c3 Ψ L1 (s20l2_G (s20l2 Ψ L1 n4)) l_1 n3 h_3 x1 met join y v3 v5 (decide (v5 < 0)) h_5)) (
      nilCheckA h_3 fun p =>
      addOff p 1 fun p1 =>
      ld1 h p1 fun v8 =>
      chk (sc met) (
        appC 1 24 h v8 (.lsl 1 [met]) fun v9 h_9 =>
        nilCheckA h_3 fun p2 =>
        addOff p2 1 fun p3 =>
        chk (sc v9) (
          st true h_9 p3 [v9] fun h_10 =>
          nilCheckA h_3 fun p4 =>
          addOff p4 2 fun p5 =>
          ld1 h_10 p5 fun v10 =>
          chk (sc join) (
            appC 1 24 h_10 v10 (.lsl 1 [join]) fun v11 h_11 =>
            nilCheckA h_3 fun p6 =>
            addOff p6 2 fun p7 =>
            chk (sc v11) (
              st true h_11 p7 [v11] fun h_12 =>
              rg (x1 + 1) (
                L1 l_1 n3 h_3 (x1 + 1) h_12))))))

abbrev s20l4_T := Int → AVal → Int → Heap → Prop
def s20l4_R (F : s20l4_T) (l : List AVal) (h : Heap) : Prop := J.cons l fun v l => J.int .i64 v fun x0 => J.cons l fun x1 l => J.cons l fun v l => J.int .i64 v fun x2 => J.nil l (F x0 x1 x2 h)
def s20l4_G (F : s20l4_T) (x0 : Int) (x1 : AVal) (x2 : Int) (h : Heap) : Prop := gJ [.int .i64, .any, .int .i64] [(.int .i64 x0), x1, (.int .i64 x2)] h (s20l4_R F)
def s20l4_E (F : Nat → s20l4_T) (x0 : Int) (x1 : AVal) (x2 : Int) (h : Heap) : Prop := gJ [.int .i64, .any, .int .i64] [(.int .i64 x0), x1, (.int .i64 x2)] h (fun l h => ∃ n, s20l4_R (F n) l h)
theorem s20l4_go {F : s20l4_T} {x0 : Int} {x1 : AVal} {x2 : Int} {h : Heap} (H : F x0 x1 x2 h) : s20l4_G F x0 x1 x2 h := gJ_plain rfl H
theorem s20l4_in {F : Nat → s20l4_T} {x0 : Int} {x1 : AVal} {x2 : Int} {h : Heap} (n : Nat) (H : F n x0 x1 x2 h) : s20l4_E F x0 x1 x2 h := gJ_plain rfl ⟨n, H⟩

abbrev s20l5_T := Int → AVal → Int → Int → Heap → Prop
def s20l5_R (F : s20l5_T) (l : List AVal) (h : Heap) : Prop := J.cons l fun v l => J.int .i64 v fun x0 => J.cons l fun x1 l => J.cons l fun v l => J.int .i64 v fun x2 => J.cons l fun v l => J.int .i64 v fun x3 => J.nil l (F x0 x1 x2 x3 h)
def s20l5_G (F : s20l5_T) (x0 : Int) (x1 : AVal) (x2 x3 : Int) (h : Heap) : Prop := gJ [.int .i64, .any, .int .i64, .int .i64] [(.int .i64 x0), x1, (.int .i64 x2), (.int .i64 x3)] h (s20l5_R F)
def s20l5_E (F : Nat → s20l5_T) (x0 : Int) (x1 : AVal) (x2 x3 : Int) (h : Heap) : Prop := gJ [.int .i64, .any, .int .i64, .int .i64] [(.int .i64 x0), x1, (.int .i64 x2), (.int .i64 x3)] h (fun l h => ∃ n, s20l5_R (F n) l h)
theorem s20l5_go {F : s20l5_T} {x0 : Int} {x1 : AVal} {x2 x3 : Int} {h : Heap} (H : F x0 x1 x2 x3 h) : s20l5_G F x0 x1 x2 x3 h := gJ_plain rfl H
theorem s20l5_in {F : Nat → s20l5_T} {x0 : Int} {x1 : AVal} {x2 x3 : Int} {h : Heap} (n : Nat) (H : F n x0 x1 x2 x3 h) : s20l5_E F x0 x1 x2 x3 h := gJ_plain rfl ⟨n, H⟩

abbrev s20l6_T := Int → AVal → Int → Int → Int → Heap → Prop
def s20l6_R (F : s20l6_T) (l : List AVal) (h : Heap) : Prop := J.cons l fun v l => J.int .i64 v fun x0 => J.cons l fun x1 l => J.cons l fun v l => J.int .i64 v fun x2 => J.cons l fun v l => J.int .i64 v fun x3 => J.cons l fun v l => J.int .i64 v fun x4 => J.nil l (F x0 x1 x2 x3 x4 h)
def s20l6_G (F : s20l6_T) (x0 : Int) (x1 : AVal) (x2 x3 x4 : Int) (h : Heap) : Prop := gJ [.int .i64, .any, .int .i64, .int .i64, .int .i64] [(.int .i64 x0), x1, (.int .i64 x2), (.int .i64 x3), (.int .i64 x4)] h (s20l6_R F)
def s20l6_E (F : Nat → s20l6_T) (x0 : Int) (x1 : AVal) (x2 x3 x4 : Int) (h : Heap) : Prop := gJ [.int .i64, .any, .int .i64, .int .i64, .int .i64] [(.int .i64 x0), x1, (.int .i64 x2), (.int .i64 x3), (.int .i64 x4)] h (fun l h => ∃ n, s20l6_R (F n) l h)
theorem s20l6_go {F : s20l6_T} {x0 : Int} {x1 : AVal} {x2 x3 x4 : Int} {h : Heap} (H : F x0 x1 x2 x3 x4 h) : s20l6_G F x0 x1 x2 x3 x4 h := gJ_plain rfl H
theorem s20l6_in {F : Nat → s20l6_T} {x0 : Int} {x1 : AVal} {x2 x3 x4 : Int} {h : Heap} (n : Nat) (H : F n x0 x1 x2 x3 x4 h) : s20l6_E F x0 x1 x2 x3 x4 h := gJ_plain rfl ⟨n, H⟩

def s20l6 (Ψ : AVal → Heap → Prop) (L4 : s20l4_T) (L5 : s20l5_T) : Nat → s20l6_T
  | 0, _, _, _, _, _, _ => False
  | n12 + 1, n11, h_15, x5, y3, z, h =>
    ifT (decide (z < n11)) (
      nilCheckA h_15 fun p8 =>
      addOff p8 1 fun p9 =>
      ld1 h p9 fun v12 =>
      ixS 1 v12 x5 fun p10 =>
      ld1 h p10 fun v13 =>
      nilCheckA h_15 fun p11 =>
      addOff p11 2 fun p12 =>
      ld1 h p12 fun v14 =>
      ixS 1 v14 y3 fun p13 =>
      ld1 h p13 fun v15 =>
      ixS 1 v15 z fun p14 =>
      ld1 h p14 fun v16 =>
      tInt .i64 v16 fun v17 =>
      ixS 1 v13 v17 fun p15 =>
      ld1 h p15 fun v18 =>
      tInt .i64 v18 fun v19 =>
      nilCheckA h_15 fun p16 =>
      addOff p16 2 fun p17 =>
      ld1 h p17 fun v20 =>
      nilCheckA h_15 fun p18 =>
      addOff p18 1 fun p19 =>
      ld1 h p19 fun v21 =>
      ixS 1 v21 x5 fun p20 =>
      ld1 h p20 fun v22 =>
      ixS 1 v22 y3 fun p21 =>
      ld1 h p21 fun v23 =>
      tInt .i64 v23 fun v24 =>
      ixS 1 v20 v24 fun p22 =>
      ld1 h p22 fun v25 =>
      nilCheckA h_15 fun p23 =>
      addOff p23 1 fun p24 =>
      ld1 h p24 fun v26 =>
      ixS 1 v26 x5 fun p25 =>
      ld1 h p25 fun v27 =>
      ixS 1 v27 z fun p26 =>
      ld1 h p26 fun v28 =>
      tInt .i64 v28 fun v29 =>
      ixS 1 v25 v29 fun p27 =>
      ld1 h p27 fun v30 =>
      tInt .i64 v30 fun v31 =>
      ifT (v19 != v31) (
        retG (.tuple [.nilptr, (.bool false)]) h Ψ) (
        rg (z + 1) (
          s20l6_G (s20l6 Ψ L4 L5 n12) n11 h_15 x5 y3 (z + 1) h))) (
      rg (y3 + 1) (
        L5 n11 h_15 x5 (y3 + 1) h))

def s20l5 (Ψ : AVal → Heap → Prop) (L4 : s20l4_T) : Nat → s20l5_T
  | 0, _, _, _, _, _ => False
  | n10 + 1, n9, h_14, x4, y2, h =>
    ifT (decide (y2 < n9)) (
      s20l6_E (s20l6 Ψ L4 (s20l5_G (s20l5 Ψ L4 n10))) n9 h_14 x4 y2 0 h) (
      rg (x4 + 1) (
        L4 n9 h_14 (x4 + 1) h))

def s20l4 (Ψ : AVal → Heap → Prop) : Nat → s20l4_T
  | 0, _, _, _, _ => False
  | n8 + 1, n7, h_13, x3, h =>
    ifT (decide (x3 < n7)) (
      s20l5_E (s20l5 Ψ (s20l4_G (s20l4 Ψ n8))) n7 h_13 x3 0 h) (
      retG (.tuple [h_13, (.bool true)]) h Ψ)

def s20l1 (Ψ : AVal → Heap → Prop) : Nat → s20l1_T
  | 0, _, _, _, _, _ => False
  | n2 + 1, l_, n1, h_2, x, h =>
    ifT (decide (x < n1)) (
      s20l2_E (s20l2 Ψ (s20l1_G (s20l1 Ψ n2))) l_ n1 h_2 x .nilsl .nilsl 0 h) (
      s20l4_E (s20l4 Ψ) n1 h_2 0 h)

def s20 (Ψ : AVal → Heap → Prop) (a_Leq : AVal) (h : Heap) : Prop :=
  callG prog 33 [a_Leq] h fun v h_ =>
  tBool v fun v1 =>
  ifT (!v1) (
    retG (.tuple [.nilptr, (.bool false)]) h_ Ψ) (
    lenN a_Leq fun n =>
    chk (sc a_Leq) (
      Sym.newRow 3 [(.agg [a_Leq, .nilsl, .nilsl])] h_ fun r h_1 =>
      s20l1_E (s20l1 Ψ) a_Leq n (.ptr r 0 0) 0 h_1))

def s20_A (Ψ : AVal → Heap → Prop) : Ann :=
  .seq (.reg [⟨none, [(0, true), (1, false), (2, false)]⟩])
  (.seq (rA 3)
  (.seq (.seq (rA 3)
  (.cond (.seq (rA 2)
  (.leaf))
  (.leaf)))
  (.seq (rA 3)
  (.seq (rA 4)
  (.seq (.seq (rA 1)
  (.block (.loop [(4, .any), (5, .int .i64), (6, .any), (7, .int .i64)] (fun n l h => s20l1_R (s20l1 Ψ n) l h) (fun L1 =>
  .seq (.seq (rA 3)
  (.cond (.leaf)
  (.leaf)))
  (.seq (.block (.seq (rA 2)
  (.seq (.seq (rA 1)
  (.block (.loop [(4, .any), (5, .int .i64), (6, .any), (7, .int .i64), (8, .any), (9, .any), (10, .int .i64)] (fun n l h => s20l2_R (s20l2 Ψ (fun y0 y1 y2 y3 h => L1 [y0, (.int .i64 y1), y2, (.int .i64 y3)] h) n) l h) (fun L2 =>
  .seq (.seq (rA 3)
  (.cond (.leaf)
  (.leaf)))
  (.seq (.block (.seq (rA 5)
  (.seq (rA 5)
  (.seq (.cut [(4, .any), (5, .int .i64), (6, .any), (7, .int .i64), (8, .any), (9, .any), (10, .int .i64), (11, .int .i64), (12, .int .i64), (49, .bool)] (fun l h => J.cons l fun x0 l => J.cons l fun v l => J.int .i64 v fun x1 => J.cons l fun x2 l => J.cons l fun v l => J.int .i64 v fun x3 => J.cons l fun x4 l => J.cons l fun x5 l => J.cons l fun v l => J.int .i64 v fun x6 => J.cons l fun v l => J.int .i64 v fun x7 => J.cons l fun v l => J.int .i64 v fun x8 => J.cons l fun v l => J.bool v fun x9 => J.nil l (s20c3 Ψ (fun y0 y1 y2 y3 h => L1 [y0, (.int .i64 y1), y2, (.int .i64 y3)] h) (fun y0 y1 y2 y3 y4 y5 y6 h => L2 [y0, (.int .i64 y1), y2, (.int .i64 y3), y4, y5, (.int .i64 y6)] h) x0 x1 x2 x3 x4 x5 x6 x7 x8 x9 h)) (.reg [⟨none, [(0, false), (1, false), (2, false)]⟩, ⟨some (46, false), [(3, false), (4, false)]⟩, ⟨none, [(5, false)]⟩])
  (.cond (.seq (rA 2)
  (.leaf))
  (.leaf)))
  (.seq (.reg [⟨none, [(0, false), (1, false), (2, true), (3, false), (4, false)]⟩])
  (.reg [⟨none, [(0, false), (1, false), (2, true), (3, false), (4, false)]⟩]))))))
  (rA 3))))))
  (.seq (.reg [⟨none, [(0, false), (1, false), (2, false), (3, false), (4, false), (5, false), (6, true), (7, false), (8, false), (9, false), (10, false)]⟩])
  (.reg [⟨none, [(0, false), (1, false), (2, false), (3, false), (4, false), (5, false), (6, true), (7, false), (8, false), (9, false), (10, false)]⟩])))))
  (rA 3))))))
  (.seq (.seq (rA 1)
  (.block (.loop [(5, .int .i64), (6, .any), (13, .int .i64)] (fun n l h => s20l4_R (s20l4 Ψ n) l h) (fun L4 =>
  .seq (.seq (rA 3)
  (.cond (.leaf)
  (.leaf)))
  (.seq (.block (.seq (rA 1)
  (.block (.loop [(5, .int .i64), (6, .any), (13, .int .i64), (14, .int .i64)] (fun n l h => s20l5_R (s20l5 Ψ (fun y0 y1 y2 h => L4 [(.int .i64 y0), y1, (.int .i64 y2)] h) n) l h) (fun L5 =>
  .seq (.seq (rA 3)
  (.cond (.leaf)
  (.leaf)))
  (.seq (.block (.seq (rA 1)
  (.block (.loop [(5, .int .i64), (6, .any), (13, .int .i64), (14, .int .i64), (15, .int .i64)] (fun n l h => s20l6_R (s20l6 Ψ (fun y0 y1 y2 h => L4 [(.int .i64 y0), y1, (.int .i64 y2)] h) (fun y0 y1 y2 y3 h => L5 [(.int .i64 y0), y1, (.int .i64 y2), (.int .i64 y3)] h) n) l h) (fun L6 =>
  .seq (.seq (rA 3)
  (.cond (.leaf)
  (.leaf)))
  (.seq (.block (.seq (.draw [(0, false), (1, false), (2, false), (3, false), (4, false), (5, false), (6, false), (7, false), (8, false), (9, false), (10, false), (11, false), (12, false), (13, false), (14, false), (15, false), (16, false), (17, false), (18, false), (19, false), (20, false), (21, false), (22, false), (23, false), (24, false), (25, false), (26, false), (27, false), (28, false), (29, false), (30, false), (31, false), (32, false), (33, false), (34, false), (35, false), (36, false), (37, false), (38, false), (39, false), (40, false), (41, false), (42, false), (43, false), (44, false), (45, false), (46, false), (47, false)] [0, 1, 3, 7, 0, 31, 63, 0, 128, 384, 896, 0, 3968, 8064, 0, 32640, 65408, 131071, 262143, 0, 524288, 1572864, 3670016, 0, 8388608, 25165824, 58720256, 0, 260046848, 528482304, 0, 2139095040, 4286578688, 8589410304, 17179344896, 0, 34359738368, 103079215104, 240518168576, 0, 1065151889408, 2164663517184, 0, 8761733283840, 17557826306048, 35184371564544, 70368743653376, 140737488355327])
  (.cond (.seq (rA 2)
  (.leaf))
  (.leaf))))
  (rA 3)))))))
  (rA 3)))))))
  (rA 3))))))
  (.seq (rA 3)
  (.leaf))))))))

theorem s20_ok {Ψ : AVal → Heap → Prop} {a_Leq : AVal} {h : Heap} (H : s20 Ψ a_Leq h) : ACalls prog 20 [(.agg [a_Leq])] h Ψ :=
  calls_of_evF func20 (by kernel_rfl) (by kernel_rfl) (by kernel_rfl)
    (Eq.mpr (by as_aux_lemma => kernel_rfl : oblF prog f20 (s20_A Ψ) Ψ = (True ∧ True ∧ (True ∧ (True ∧ True) ∧ True) ∧ True ∧ True ∧ (True ∧ (∀ (h : Heap) (x0 : AVal) (x1 : Int) (x2 : AVal) (x3 : Int), ON (s20l1 Ψ 0 x0 x1 x2 x3 h)) ∧ ∀ n1 : Nat, (∀ (h : Heap) (x0 : AVal) (x1 : Int) (x2 : AVal) (x3 : Int), OI (s20l1 Ψ (n1 + 1) x0 x1 x2 x3 h)) ∧ ((True ∧ True ∧ True) ∧ (True ∧ (True ∧ (∀ (h : Heap) (x0 : AVal) (x1 : Int) (x2 : AVal) (x3 : Int) (x4 x5 : AVal) (x6 : Int), ON (s20l2 Ψ (s20l1_G (s20l1 Ψ n1)) 0 x0 x1 x2 x3 x4 x5 x6 h)) ∧ ∀ n2 : Nat, (∀ (h : Heap) (x0 : AVal) (x1 : Int) (x2 : AVal) (x3 : Int) (x4 x5 : AVal) (x6 : Int), OI (s20l2 Ψ (s20l1_G (s20l1 Ψ n1)) (n2 + 1) x0 x1 x2 x3 x4 x5 x6 h)) ∧ ((True ∧ True ∧ True) ∧ (True ∧ True ∧ ((True) ∧ (∀ (h : Heap) (x0 : AVal) (x1 : Int) (x2 : AVal) (x3 : Int) (x4 x5 : AVal) (x6 x7 x8 : Int) (x9 : Bool), OI (s20c3 Ψ (s20l1_G (s20l1 Ψ n1)) (s20l2_G (s20l2 Ψ (s20l1_G (s20l1 Ψ n1)) n2)) x0 x1 x2 x3 x4 x5 x6 x7 x8 x9 h)) ∧ ((True ∧ True) ∧ True)) ∧ True ∧ True) ∧ True)) ∧ True ∧ True) ∧ True)) ∧ (True ∧ (∀ (h : Heap) (x0 : Int) (x1 : AVal) (x2 : Int), ON (s20l4 Ψ 0 x0 x1 x2 h)) ∧ ∀ n4 : Nat, (∀ (h : Heap) (x0 : Int) (x1 : AVal) (x2 : Int), OI (s20l4 Ψ (n4 + 1) x0 x1 x2 h)) ∧ ((True ∧ True ∧ True) ∧ (True ∧ (∀ (h : Heap) (x0 : Int) (x1 : AVal) (x2 x3 : Int), ON (s20l5 Ψ (s20l4_G (s20l4 Ψ n4)) 0 x0 x1 x2 x3 h)) ∧ ∀ n5 : Nat, (∀ (h : Heap) (x0 : Int) (x1 : AVal) (x2 x3 : Int), OI (s20l5 Ψ (s20l4_G (s20l4 Ψ n4)) (n5 + 1) x0 x1 x2 x3 h)) ∧ ((True ∧ True ∧ True) ∧ (True ∧ (∀ (h : Heap) (x0 : Int) (x1 : AVal) (x2 x3 x4 : Int), ON (s20l6 Ψ (s20l4_G (s20l4 Ψ n4)) (s20l5_G (s20l5 Ψ (s20l4_G (s20l4 Ψ n4)) n5)) 0 x0 x1 x2 x3 x4 h)) ∧ ∀ n6 : Nat, (∀ (h : Heap) (x0 : Int) (x1 : AVal) (x2 x3 x4 : Int), OI (s20l6 Ψ (s20l4_G (s20l4 Ψ n4)) (s20l5_G (s20l5 Ψ (s20l4_G (s20l4 Ψ n4)) n5)) (n6 + 1) x0 x1 x2 x3 x4 h)) ∧ ((True ∧ True ∧ True) ∧ (True ∧ (True ∧ True) ∧ True) ∧ True)) ∧ True)) ∧ True)) ∧ True ∧ True)) ⟨trivial, ⟨trivial, ⟨⟨trivial, ⟨⟨trivial, trivial⟩, trivial⟩⟩, ⟨trivial, ⟨trivial, ⟨⟨trivial, ⟨fun _ _ _ _ _ H => H, fun _ => ⟨fun _ _ _ _ _ H => H, ⟨⟨trivial, ⟨trivial, trivial⟩⟩, ⟨⟨trivial, ⟨⟨trivial, ⟨fun _ _ _ _ _ _ _ _ H => H, fun _ => ⟨fun _ _ _ _ _ _ _ _ H => H, ⟨⟨trivial, ⟨trivial, trivial⟩⟩, ⟨⟨trivial, ⟨trivial, ⟨⟨trivial, fun _ _ _ _ _ _ _ _ _ _ _ H => H, ⟨⟨trivial, trivial⟩, trivial⟩⟩, ⟨trivial, trivial⟩⟩⟩⟩, trivial⟩⟩⟩⟩⟩, ⟨trivial, trivial⟩⟩⟩, trivial⟩⟩⟩⟩⟩, ⟨⟨trivial, ⟨fun _ _ _ _ H => H, fun _ => ⟨fun _ _ _ _ H => H, ⟨⟨trivial, ⟨trivial, trivial⟩⟩, ⟨⟨trivial, ⟨fun _ _ _ _ _ H => H, fun _ => ⟨fun _ _ _ _ _ H => H, ⟨⟨trivial, ⟨trivial, trivial⟩⟩, ⟨⟨trivial, ⟨fun _ _ _ _ _ _ H => H, fun _ => ⟨fun _ _ _ _ _ _ H => H, ⟨⟨trivial, ⟨trivial, trivial⟩⟩, ⟨⟨trivial, ⟨⟨trivial, trivial⟩, trivial⟩⟩, trivial⟩⟩⟩⟩⟩, trivial⟩⟩⟩⟩⟩, trivial⟩⟩⟩⟩⟩, ⟨trivial, trivial⟩⟩⟩⟩⟩⟩⟩⟩)
    (Eq.mpr (by as_aux_lemma => kernel_rfl : evF prog f20 (s20_A Ψ) Ψ [(.agg [a_Leq])] h = s20 Ψ a_Leq h) H)

/- 22 (*dictum/dictumref23.H).Bounds -/
abbrev s22l1_T := AVal → Int → Int → Int → Heap → Prop
def s22l1_R (F : s22l1_T) (l : List AVal) (h : Heap) : Prop := J.cons l fun x0 l => J.cons l fun v l => J.int .i64 v fun x1 => J.cons l fun v l => J.int .i64 v fun x2 => J.cons l fun v l => J.int .i64 v fun x3 => J.nil l (F x0 x1 x2 x3 h)
def s22l1_G (F : s22l1_T) (x0 : AVal) (x1 x2 x3 : Int) (h : Heap) : Prop := gJ [.any, .int .i64, .int .i64, .int .i64] [x0, (.int .i64 x1), (.int .i64 x2), (.int .i64 x3)] h (s22l1_R F)
def s22l1_E (F : Nat → s22l1_T) (x0 : AVal) (x1 x2 x3 : Int) (h : Heap) : Prop := gJ [.any, .int .i64, .int .i64, .int .i64] [x0, (.int .i64 x1), (.int .i64 x2), (.int .i64 x3)] h (fun l h => ∃ n, s22l1_R (F n) l h)
theorem s22l1_go {F : s22l1_T} {x0 : AVal} {x1 x2 x3 : Int} {h : Heap} (H : F x0 x1 x2 x3 h) : s22l1_G F x0 x1 x2 x3 h := gJ_plain rfl H
theorem s22l1_in {F : Nat → s22l1_T} {x0 : AVal} {x1 x2 x3 : Int} {h : Heap} (n : Nat) (H : F n x0 x1 x2 x3 h) : s22l1_E F x0 x1 x2 x3 h := gJ_plain rfl ⟨n, H⟩

def s22c2 (Ψ : AVal → Heap → Prop) (L1 : s22l1_T) (h_2 : AVal) (low1 high1 x1 : Int) (h : Heap) : Prop :=
  rg (x1 + 1) (
    L1 h_2 low1 high1 (x1 + 1) h)

def s22c3 (Ψ : AVal → Heap → Prop) (L1 : s22l1_T) (h_3 : AVal) (low2 high2 x2 : Int) (h : Heap) : Prop :=
  nilCheckA h_3 fun p2 =>
  addOff p2 0 fun p3 =>
  ld1 h p3 fun v1 =>
  ixS 1 v1 high2 fun p4 =>
  ld1 h p4 fun v2 =>
  ixS 1 v2 x2 fun p5 =>
  ld1 h p5 fun v3 =>
  tBool v3 fun v4 =>
  ifT v4 (
    s22c2 Ψ L1 h_3 low2 x2 x2 h) (
    s22c2 Ψ L1 h_3 low2 high2 x2 h)

def s22l1 (Ψ : AVal → Heap → Prop) : Nat → s22l1_T
  | 0, _, _, _, _, _ => False
  | n + 1, h_1, low, high, x, h =>
    nilCheckA h_1 fun p =>
    addOff p 0 fun p1 =>
    ld1 h p1 fun v =>
    lenN v fun n1 =>
    ifT (decide (x < n1)) (
      nilCheckA h_1 fun p6 =>
      addOff p6 0 fun p7 =>
      ld1 h p7 fun v5 =>
      ixS 1 v5 x fun p8 =>
      ld1 h p8 fun v6 =>
      ixS 1 v6 low fun p9 =>
      ld1 h p9 fun v7 =>
      tBool v7 fun v8 =>
      ifT v8 (
        s22c3 Ψ (s22l1_G (s22l1 Ψ n)) h_1 x high x h) (
        s22c3 Ψ (s22l1_G (s22l1 Ψ n)) h_1 low high x h)) (
      retG (.tuple [(.int .i64 low), (.int .i64 high)]) h Ψ)

def s22 (Ψ : AVal → Heap → Prop) (h_ : AVal) (h : Heap) : Prop :=
  s22l1_E (s22l1 Ψ) h_ 0 0 0 h

def s22_A (Ψ : AVal → Heap → Prop) : Ann :=
  .seq (rA 2)
  (.seq (rA 1)
  (.seq (rA 1)
  (.seq (.seq (rA 1)
  (.block (.loop [(0, .any), (4, .int .i64), (5, .int .i64), (6, .int .i64)] (fun n l h => s22l1_R (s22l1 Ψ n) l h) (fun L1 =>
  .seq (.seq (rA 7)
  (.cond (.leaf)
  (.leaf)))
  (.cut [(0, .any), (4, .int .i64), (5, .int .i64), (6, .int .i64)] (fun l h => J.cons l fun x0 l => J.cons l fun v l => J.int .i64 v fun x1 => J.cons l fun v l => J.int .i64 v fun x2 => J.cons l fun v l => J.int .i64 v fun x3 => J.nil l (s22c2 Ψ (fun y0 y1 y2 y3 h => L1 [y0, (.int .i64 y1), (.int .i64 y2), (.int .i64 y3)] h) x0 x1 x2 x3 h)) (.block (.cut [(0, .any), (4, .int .i64), (5, .int .i64), (6, .int .i64)] (fun l h => J.cons l fun x0 l => J.cons l fun v l => J.int .i64 v fun x1 => J.cons l fun v l => J.int .i64 v fun x2 => J.cons l fun v l => J.int .i64 v fun x3 => J.nil l (s22c3 Ψ (fun y0 y1 y2 y3 h => L1 [y0, (.int .i64 y1), (.int .i64 y2), (.int .i64 y3)] h) x0 x1 x2 x3 h)) (.seq (rA 10)
  (.cond (rA 2)
  (.leaf)))
  (.seq (rA 10)
  (.cond (rA 2)
  (.leaf)))))
  (rA 3))))))
  (.seq (rA 4)
  (.leaf)))))

theorem s22_ok {Ψ : AVal → Heap → Prop} {h_ : AVal} {h : Heap} (H : s22 Ψ h_ h) : ACalls prog 22 [h_] h Ψ :=
  calls_of_evF func22 (by kernel_rfl) (by kernel_rfl) (by kernel_rfl)
    (Eq.mpr (by as_aux_lemma => kernel_rfl : oblF prog f22 (s22_A Ψ) Ψ = (True ∧ True ∧ True ∧ (True ∧ (∀ (h : Heap) (x0 : AVal) (x1 x2 x3 : Int), ON (s22l1 Ψ 0 x0 x1 x2 x3 h)) ∧ ∀ n1 : Nat, (∀ (h : Heap) (x0 : AVal) (x1 x2 x3 : Int), OI (s22l1 Ψ (n1 + 1) x0 x1 x2 x3 h)) ∧ ((True ∧ True ∧ True) ∧ ((True ∧ True ∧ True) ∧ (∀ (h : Heap) (x0 : AVal) (x1 x2 x3 : Int), OI (s22c3 Ψ (s22l1_G (s22l1 Ψ n1)) x0 x1 x2 x3 h)) ∧ (True ∧ True ∧ True)) ∧ (∀ (h : Heap) (x0 : AVal) (x1 x2 x3 : Int), OI (s22c2 Ψ (s22l1_G (s22l1 Ψ n1)) x0 x1 x2 x3 h)) ∧ (True))) ∧ True ∧ True)) ⟨trivial, ⟨trivial, ⟨trivial, ⟨⟨trivial, ⟨fun _ _ _ _ _ H => H, fun _ => ⟨fun _ _ _ _ _ H => H, ⟨⟨trivial, ⟨trivial, trivial⟩⟩, ⟨⟨⟨trivial, ⟨trivial, trivial⟩⟩, fun _ _ _ _ _ H => H, ⟨trivial, ⟨trivial, trivial⟩⟩⟩, fun _ _ _ _ _ H => H, trivial⟩⟩⟩⟩⟩, ⟨trivial, trivial⟩⟩⟩⟩⟩)
    (Eq.mpr (by as_aux_lemma => kernel_rfl : evF prog f22 (s22_A Ψ) Ψ [h_] h = s22 Ψ h_ h) H)

/- 24 (dictum/heyting.lattice).bounds -/
def s24 (Ψ : AVal → Heap → Prop) (l_n : Int) (l_leq : AVal) (h : Heap) : Prop :=
  callG prog 41 [(.int .i64 l_n), (.func (.func 40) [] []), (.func (.func 42) [(.agg [(.int .i64 l_n), l_leq])] [])] h fun v h_ =>
  tTup v fun l_ =>
  tCons l_ fun v1 l_1 =>
  tInt .i64 v1 fun v2 =>
  tCons l_1 fun v3 l_2 =>
  tBool v3 fun v4 =>
  tNil l_2 (
    callG prog 41 [(.int .i64 l_n), (.func (.func 40) [] []), (.func (.func 43) [(.agg [(.int .i64 l_n), l_leq])] [])] h_ fun v5 h_1 =>
    tTup v5 fun l_3 =>
    tCons l_3 fun v6 l_4 =>
    tInt .i64 v6 fun v7 =>
    tCons l_4 fun v8 l_5 =>
    tBool v8 fun v9 =>
    tNil l_5 (
      retG (.tuple [(.int .i64 v2), (.int .i64 v7)]) h_1 Ψ))

def s24_A (Ψ : AVal → Heap → Prop) : Ann :=
  .seq (.reg [⟨none, [(0, true), (1, false), (2, false)]⟩])
  (.seq (rA 1)
  (.seq (rA 11)
  (.seq (rA 11)
  (.seq (rA 4)
  (.leaf)))))

theorem s24_ok {Ψ : AVal → Heap → Prop} {l_n : Int} {l_leq : AVal} {h : Heap} (H : s24 Ψ l_n l_leq h) : ACalls prog 24 [(.agg [(.int .i64 l_n), l_leq])] h Ψ :=
  calls_of_evF func24 (by kernel_rfl) (by kernel_rfl) (by kernel_rfl)
    (Eq.mpr (by as_aux_lemma => kernel_rfl : oblF prog f24 (s24_A Ψ) Ψ = (True ∧ True ∧ True ∧ True ∧ True ∧ True)) ⟨trivial, ⟨trivial, ⟨trivial, ⟨trivial, ⟨trivial, trivial⟩⟩⟩⟩⟩)
    (Eq.mpr (by as_aux_lemma => kernel_rfl : evF prog f24 (s24_A Ψ) Ψ [(.agg [(.int .i64 l_n), l_leq])] h = s24 Ψ l_n l_leq h) H)

/- 26 dictum/worlds.Tidy -/
abbrev s26l1_T := AVal → AVal → AVal → AVal → Int → Int → Heap → Prop
def s26l1_R (F : s26l1_T) (l : List AVal) (h : Heap) : Prop := J.cons l fun x0 l => J.cons l fun x1 l => J.cons l fun x2 l => J.cons l fun x3 l => J.cons l fun v l => J.int .i64 v fun x4 => J.cons l fun v l => J.int .i64 v fun x5 => J.nil l (F x0 x1 x2 x3 x4 x5 h)
def s26l1_G (F : s26l1_T) (x0 x1 x2 x3 : AVal) (x4 x5 : Int) (h : Heap) : Prop := gJ [.any, .any, .any, .any, .int .i64, .int .i64] [x0, x1, x2, x3, (.int .i64 x4), (.int .i64 x5)] h (s26l1_R F)
def s26l1_E (F : Nat → s26l1_T) (x0 x1 x2 x3 : AVal) (x4 x5 : Int) (h : Heap) : Prop := gJ [.any, .any, .any, .any, .int .i64, .int .i64] [x0, x1, x2, x3, (.int .i64 x4), (.int .i64 x5)] h (fun l h => ∃ n, s26l1_R (F n) l h)
theorem s26l1_go {F : s26l1_T} {x0 x1 x2 x3 : AVal} {x4 x5 : Int} {h : Heap} (H : F x0 x1 x2 x3 x4 x5 h) : s26l1_G F x0 x1 x2 x3 x4 x5 h := gJ_plain rfl H
theorem s26l1_in {F : Nat → s26l1_T} {x0 x1 x2 x3 : AVal} {x4 x5 : Int} {h : Heap} (n : Nat) (H : F n x0 x1 x2 x3 x4 x5 h) : s26l1_E F x0 x1 x2 x3 x4 x5 h := gJ_plain rfl ⟨n, H⟩

abbrev s26l2_T := AVal → AVal → AVal → AVal → AVal → AVal → AVal → Int → Int → AVal → Int → Int → Heap → Prop
def s26l2_R (F : s26l2_T) (l : List AVal) (h : Heap) : Prop := J.cons l fun x0 l => J.cons l fun x1 l => J.cons l fun x2 l => J.cons l fun x3 l => J.cons l fun x4 l => J.cons l fun x5 l => J.cons l fun x6 l => J.cons l fun v l => J.int .i64 v fun x7 => J.cons l fun v l => J.int .i64 v fun x8 => J.cons l fun x9 l => J.cons l fun v l => J.int .i64 v fun x10 => J.cons l fun v l => J.int .i64 v fun x11 => J.nil l (F x0 x1 x2 x3 x4 x5 x6 x7 x8 x9 x10 x11 h)
def s26l2_G (F : s26l2_T) (x0 x1 x2 x3 x4 x5 x6 : AVal) (x7 x8 : Int) (x9 : AVal) (x10 x11 : Int) (h : Heap) : Prop := gJ [.any, .any, .any, .any, .any, .any, .any, .int .i64, .int .i64, .any, .int .i64, .int .i64] [x0, x1, x2, x3, x4, x5, x6, (.int .i64 x7), (.int .i64 x8), x9, (.int .i64 x10), (.int .i64 x11)] h (s26l2_R F)
def s26l2_E (F : Nat → s26l2_T) (x0 x1 x2 x3 x4 x5 x6 : AVal) (x7 x8 : Int) (x9 : AVal) (x10 x11 : Int) (h : Heap) : Prop := gJ [.any, .any, .any, .any, .any, .any, .any, .int .i64, .int .i64, .any, .int .i64, .int .i64] [x0, x1, x2, x3, x4, x5, x6, (.int .i64 x7), (.int .i64 x8), x9, (.int .i64 x10), (.int .i64 x11)] h (fun l h => ∃ n, s26l2_R (F n) l h)
theorem s26l2_go {F : s26l2_T} {x0 x1 x2 x3 x4 x5 x6 : AVal} {x7 x8 : Int} {x9 : AVal} {x10 x11 : Int} {h : Heap} (H : F x0 x1 x2 x3 x4 x5 x6 x7 x8 x9 x10 x11 h) : s26l2_G F x0 x1 x2 x3 x4 x5 x6 x7 x8 x9 x10 x11 h := gJ_plain rfl H
theorem s26l2_in {F : Nat → s26l2_T} {x0 x1 x2 x3 x4 x5 x6 : AVal} {x7 x8 : Int} {x9 : AVal} {x10 x11 : Int} {h : Heap} (n : Nat) (H : F n x0 x1 x2 x3 x4 x5 x6 x7 x8 x9 x10 x11 h) : s26l2_E F x0 x1 x2 x3 x4 x5 x6 x7 x8 x9 x10 x11 h := gJ_plain rfl ⟨n, H⟩

def s26c3 (Ψ : AVal → Heap → Prop) (L1 : s26l1_T) (L2 : s26l2_T) (m2 t2_2 leq2 out2 a1 next1 row1 : AVal) (t24_2 t25_2 : Int) (t32_1 : AVal) (t33_1 t34_1 : Int) (h : Heap) : Prop :=
  rg (t34_1 + 1) (
    L2 m2 t2_2 leq2 out2 a1 next1 row1 t24_2 t25_2 t32_1 t33_1 (t34_1 + 1) h)

def s26l2 (Ψ : AVal → Heap → Prop) (L1 : s26l1_T) : Nat → s26l2_T
  | 0, _, _, _, _, _, _, _, _, _, _, _, _, _ => False
  | n3 + 1, m1, t2_1, leq1, out1, a, next, row, t24_1, t25_1, t32, t33, t34, h =>
    ifT (decide (t34 < t33)) (
      ixS 1 t32 t34 fun p =>
      ld1 h p fun v10 =>
      tInt .i64 v10 fun v11 =>
      callV prog next [(.int .i64 v11)] h fun v12 h_11 =>
      tBool v12 fun v13 =>
      ifT v13 (
        appC 1 8 h_11 row (.lsl 1 [(.int .i64 v11)]) fun v14 h_12 =>
        s26c3 Ψ L1 (s26l2_G (s26l2 Ψ L1 n3)) m1 t2_1 leq1 out1 a next v14 t24_1 t25_1 t32 t33 t34 h_12) (
        s26c3 Ψ L1 (s26l2_G (s26l2 Ψ L1 n3)) m1 t2_1 leq1 out1 a next row t24_1 t25_1 t32 t33 t34 h_11)) (
      addOff out1 0 fun p1 =>
      ld1 h p1 fun v15 =>
      chk (sc row) (
        appC 1 24 h v15 (.lsl 1 [row]) fun v16 h_13 =>
        addOff out1 0 fun p2 =>
        chk (sc v16) (
          st true h_13 p2 [v16] fun h_14 =>
          addOff out1 1 fun p3 =>
          ld1 h_14 p3 fun v17 =>
          addOff m1 1 fun p4 =>
          ld1 h_14 p4 fun v18 =>
          ld1 h_14 a fun v19 =>
          tInt .i64 v19 fun v20 =>
          ixS 1 v18 v20 fun p5 =>
          ld1 h_14 p5 fun v21 =>
          callG prog 51 [v21] h_14 fun v22 h_15 =>
          (ld1 h_15 p3 fun v23 =>
          v23 = v17) ∧
          chk (sc v22) (
            (ld1 h_15 p3 fun v24 =>
            v24 = v17) ∧
            appC 1 24 h_15 v17 (.lsl 1 [v22]) fun v25 h_16 =>
            addOff out1 1 fun p6 =>
            chk (sc v25) (
              st true h_16 p6 [v25] fun h_17 =>
              rg (t25_1 + 1) (
                L1 m1 t2_1 leq1 out1 t24_1 (t25_1 + 1) h_17))))))

def s26l1 (Ψ : AVal → Heap → Prop) : Nat → s26l1_T
  | 0, _, _, _, _, _, _, _ => False
  | n1 + 1, m, t2, leq, out, t24, t25, h =>
    ifT (decide (t25 < t24)) (
      Sym.newRow 1 [(.int .i64 0)] h fun r3 h_6 =>
      st true h_6 (.ptr r3 0 0) [(.int .i64 t25)] fun h_7 =>
      ldN 2 h_7 m fun l_6 =>
      tCons l_6 fun v6 l_7 =>
      tCons l_7 fun v7 l_8 =>
      tNil l_8 (
        callG prog 46 [(.agg [v6, v7]), (.func (.func 47) [] [(.ptr r3 0 0), leq])] h_7 fun v8 h_8 =>
        Sym.newRow 1 [.nilsl] h_8 fun r4 h_9 =>
        chk (sc v8) (
          st true h_9 (.ptr r4 0 0) [v8] fun h_10 =>
          ld1 h_10 (.ptr r4 0 0) fun v9 =>
          lenN v9 fun n2 =>
          s26l2_E (s26l2 Ψ (s26l1_G (s26l1 Ψ n1))) m t2 leq out (.ptr r3 0 0) (.func (.func 48) [] [(.ptr r4 0 0), leq]) .nilsl t24 t25 v9 n2 0 h_10))) (
      ldN 2 h out fun l_9 =>
      tCons l_9 fun v26 l_10 =>
      tCons l_10 fun v27 l_11 =>
      tNil l_11 (
        st false h t2 [v26, v27] fun h_18 =>
        ldN 2 h_18 t2 fun l_12 =>
        tCons l_12 fun v28 l_13 =>
        tCons l_13 fun v29 l_14 =>
        tNil l_14 (
          retG (.tuple [(.agg [v28, v29]), (.int .i64 0)]) h_18 Ψ)))

def s26 (Ψ : AVal → Heap → Prop) (m_Up : AVal) (m_Val : AVal) (h : Heap) : Prop :=
  Sym.newRow 2 [(.agg [.nilsl, .nilsl])] h fun r h_ =>
  callG prog 45 [(.agg [m_Up, m_Val]), .nilsl] h_ fun v h_1 =>
  tTup v fun l_ =>
  tCons l_ fun v1 l_1 =>
  tCons l_1 fun v2 l_2 =>
  tInt .i64 v2 fun v3 =>
  tNil l_2 (
    Sym.newRow 1 [.nilfunc] h_1 fun r1 h_2 =>
    chk (sc v1) (
      st true h_2 (.ptr r1 0 0) [v1] fun h_3 =>
      ifT (v3 != 0) (
        st false h_3 (.ptr r 0 0) [.nilsl, .nilsl] fun h_4 =>
        ldN 2 h_4 (.ptr r 0 0) fun l_3 =>
        tCons l_3 fun v4 l_4 =>
        tCons l_4 fun v5 l_5 =>
        tNil l_5 (
          retG (.tuple [(.agg [v4, v5]), (.int .i64 v3)]) h_4 Ψ)) (
        Sym.newRow 2 [(.agg [.nilsl, .nilsl])] h_3 fun r2 h_5 =>
        lenN m_Up fun n =>
        s26l1_E (s26l1 Ψ) (.lptr [m_Up, m_Val]) (.ptr r 0 0) (.ptr r1 0 0) (.ptr r2 0 0) n 0 h_5)))

def s26_A (Ψ : AVal → Heap → Prop) : Ann :=
  .seq (.reg [⟨none, [(0, true), (1, false), (2, false)]⟩])
  (.seq (rA 8)
  (.seq (.seq (rA 2)
  (.cond (.seq (rA 4)
  (.leaf))
  (.leaf)))
  (.seq (rA 1)
  (.seq (.seq (rA 4)
  (.block (.loop [(1, .any), (2, .any), (4, .any), (6, .any), (24, .int .i64), (25, .int .i64)] (fun n l h => s26l1_R (s26l1 Ψ n) l h) (fun L1 =>
  .seq (rA 1)
  (.seq (.cond (.leaf)
  (.leaf))
  (.seq (.block (.seq (rA 3)
  (.seq (rA 5)
  (.seq (rA 2)
  (.seq (rA 1)
  (.seq (.seq (rA 3)
  (.block (.loop [(1, .any), (2, .any), (4, .any), (6, .any), (7, .any), (9, .any), (10, .any), (24, .int .i64), (25, .int .i64), (32, .any), (33, .int .i64), (34, .int .i64)] (fun n l h => s26l2_R (s26l2 Ψ (fun y0 y1 y2 y3 y4 y5 h => L1 [y0, y1, y2, y3, (.int .i64 y4), (.int .i64 y5)] h) n) l h) (fun L2 =>
  .seq (rA 1)
  (.seq (.cond (.leaf)
  (.leaf))
  (.cut [(1, .any), (2, .any), (4, .any), (6, .any), (7, .any), (9, .any), (10, .any), (24, .int .i64), (25, .int .i64), (32, .any), (33, .int .i64), (34, .int .i64)] (fun l h => J.cons l fun x0 l => J.cons l fun x1 l => J.cons l fun x2 l => J.cons l fun x3 l => J.cons l fun x4 l => J.cons l fun x5 l => J.cons l fun x6 l => J.cons l fun v l => J.int .i64 v fun x7 => J.cons l fun v l => J.int .i64 v fun x8 => J.cons l fun x9 l => J.cons l fun v l => J.int .i64 v fun x10 => J.cons l fun v l => J.int .i64 v fun x11 => J.nil l (s26c3 Ψ (fun y0 y1 y2 y3 y4 y5 h => L1 [y0, y1, y2, y3, (.int .i64 y4), (.int .i64 y5)] h) (fun y0 y1 y2 y3 y4 y5 y6 y7 y8 y9 y10 y11 h => L2 [y0, y1, y2, y3, y4, y5, y6, (.int .i64 y7), (.int .i64 y8), y9, (.int .i64 y10), (.int .i64 y11)] h) x0 x1 x2 x3 x4 x5 x6 x7 x8 x9 x10 x11 h)) (.block (.seq (rA 3)
  (.seq (rA 3)
  (.cond (.reg [⟨none, [(0, false), (1, false), (2, true), (3, false), (4, false)]⟩])
  (.leaf)))))
  (rA 2)))))))
  (.seq (.reg [⟨none, [(0, false), (1, false), (2, false), (3, true), (4, false), (5, false), (6, false)]⟩])
  (.draw [(0, false), (1, false), (2, false), (3, false), (4, false), (5, false), (6, false), (7, false), (8, true), (9, false), (10, false), (11, false)] [0, 1, 0, 4, 0, 28, 60, 124, 252, 511, 1023, 2047]))))))))
  (rA 2)))))))
  (.seq (rA 3)
  (.leaf))))))

theorem s26_ok {Ψ : AVal → Heap → Prop} {m_Up : AVal} {m_Val : AVal} {h : Heap} (H : s26 Ψ m_Up m_Val h) : ACalls prog 26 [(.agg [m_Up, m_Val])] h Ψ :=
  calls_of_evF func26 (by kernel_rfl) (by kernel_rfl) (by kernel_rfl)
    (Eq.mpr (by as_aux_lemma => kernel_rfl : oblF prog f26 (s26_A Ψ) Ψ = (True ∧ True ∧ (True ∧ (True ∧ True) ∧ True) ∧ True ∧ (True ∧ (∀ (h : Heap) (x0 x1 x2 x3 : AVal) (x4 x5 : Int), ON (s26l1 Ψ 0 x0 x1 x2 x3 x4 x5 h)) ∧ ∀ n1 : Nat, (∀ (h : Heap) (x0 x1 x2 x3 : AVal) (x4 x5 : Int), OI (s26l1 Ψ (n1 + 1) x0 x1 x2 x3 x4 x5 h)) ∧ (True ∧ (True ∧ True) ∧ (True ∧ True ∧ True ∧ True ∧ (True ∧ (∀ (h : Heap) (x0 x1 x2 x3 x4 x5 x6 : AVal) (x7 x8 : Int) (x9 : AVal) (x10 x11 : Int), ON (s26l2 Ψ (s26l1_G (s26l1 Ψ n1)) 0 x0 x1 x2 x3 x4 x5 x6 x7 x8 x9 x10 x11 h)) ∧ ∀ n2 : Nat, (∀ (h : Heap) (x0 x1 x2 x3 x4 x5 x6 : AVal) (x7 x8 : Int) (x9 : AVal) (x10 x11 : Int), OI (s26l2 Ψ (s26l1_G (s26l1 Ψ n1)) (n2 + 1) x0 x1 x2 x3 x4 x5 x6 x7 x8 x9 x10 x11 h)) ∧ (True ∧ (True ∧ True) ∧ (True ∧ True ∧ True ∧ True) ∧ (∀ (h : Heap) (x0 x1 x2 x3 x4 x5 x6 : AVal) (x7 x8 : Int) (x9 : AVal) (x10 x11 : Int), OI (s26c3 Ψ (s26l1_G (s26l1 Ψ n1)) (s26l2_G (s26l2 Ψ (s26l1_G (s26l1 Ψ n1)) n2)) x0 x1 x2 x3 x4 x5 x6 x7 x8 x9 x10 x11 h)) ∧ (True))) ∧ True ∧ True) ∧ True)) ∧ True ∧ True)) ⟨trivial, ⟨trivial, ⟨⟨trivial, ⟨⟨trivial, trivial⟩, trivial⟩⟩, ⟨trivial, ⟨⟨trivial, ⟨fun _ _ _ _ _ _ _ H => H, fun _ => ⟨fun _ _ _ _ _ _ _ H => H, ⟨trivial, ⟨⟨trivial, trivial⟩, ⟨⟨trivial, ⟨trivial, ⟨trivial, ⟨trivial, ⟨⟨trivial, ⟨fun _ _ _ _ _ _ _ _ _ _ _ _ _ H => H, fun _ => ⟨fun _ _ _ _ _ _ _ _ _ _ _ _ _ H => H, ⟨trivial, ⟨⟨trivial, trivial⟩, ⟨⟨trivial, ⟨trivial, ⟨trivial, trivial⟩⟩⟩, fun _ _ _ _ _ _ _ _ _ _ _ _ _ H => H, trivial⟩⟩⟩⟩⟩⟩, ⟨trivial, trivial⟩⟩⟩⟩⟩⟩, trivial⟩⟩⟩⟩⟩⟩, ⟨trivial, trivial⟩⟩⟩⟩⟩⟩)
    (Eq.mpr (by as_aux_lemma => kernel_rfl : evF prog f26 (s26_A Ψ) Ψ [(.agg [m_Up, m_Val])] h = s26 Ψ m_Up m_Val h) H)

/- 28 dictum/heyting.upsets -/
abbrev s28l1_T := AVal → AVal → Int → Int → Heap → Prop
def s28l1_R (F : s28l1_T) (l : List AVal) (h : Heap) : Prop := J.cons l fun x0 l => J.cons l fun x1 l => J.cons l fun v l => J.int .i64 v fun x2 => J.cons l fun v l => J.int .i64 v fun x3 => J.nil l (F x0 x1 x2 x3 h)
def s28l1_G (F : s28l1_T) (x0 x1 : AVal) (x2 x3 : Int) (h : Heap) : Prop := gJ [.any, .any, .int .i64, .int .i64] [x0, x1, (.int .i64 x2), (.int .i64 x3)] h (s28l1_R F)
def s28l1_E (F : Nat → s28l1_T) (x0 x1 : AVal) (x2 x3 : Int) (h : Heap) : Prop := gJ [.any, .any, .int .i64, .int .i64] [x0, x1, (.int .i64 x2), (.int .i64 x3)] h (fun l h => ∃ n, s28l1_R (F n) l h)
theorem s28l1_go {F : s28l1_T} {x0 x1 : AVal} {x2 x3 : Int} {h : Heap} (H : F x0 x1 x2 x3 h) : s28l1_G F x0 x1 x2 x3 h := gJ_plain rfl H
theorem s28l1_in {F : Nat → s28l1_T} {x0 x1 : AVal} {x2 x3 : Int} {h : Heap} (n : Nat) (H : F n x0 x1 x2 x3 h) : s28l1_E F x0 x1 x2 x3 h := gJ_plain rfl ⟨n, H⟩

abbrev s28l2_T := AVal → AVal → AVal → Int → Heap → Prop
def s28l2_R (F : s28l2_T) (l : List AVal) (h : Heap) : Prop := J.cons l fun x0 l => J.cons l fun x1 l => J.cons l fun x2 l => J.cons l fun v l => J.int .i64 v fun x3 => J.nil l (F x0 x1 x2 x3 h)
def s28l2_G (F : s28l2_T) (x0 x1 x2 : AVal) (x3 : Int) (h : Heap) : Prop := gJ [.any, .any, .any, .int .i64] [x0, x1, x2, (.int .i64 x3)] h (s28l2_R F)
def s28l2_E (F : Nat → s28l2_T) (x0 x1 x2 : AVal) (x3 : Int) (h : Heap) : Prop := gJ [.any, .any, .any, .int .i64] [x0, x1, x2, (.int .i64 x3)] h (fun l h => ∃ n, s28l2_R (F n) l h)
theorem s28l2_go {F : s28l2_T} {x0 x1 x2 : AVal} {x3 : Int} {h : Heap} (H : F x0 x1 x2 x3 h) : s28l2_G F x0 x1 x2 x3 h := gJ_plain rfl H
theorem s28l2_in {F : Nat → s28l2_T} {x0 x1 x2 : AVal} {x3 : Int} {h : Heap} (n : Nat) (H : F n x0 x1 x2 x3 h) : s28l2_E F x0 x1 x2 x3 h := gJ_plain rfl ⟨n, H⟩

abbrev s28l3_T := AVal → AVal → AVal → Int → AVal → Int → Int → Heap → Prop
def s28l3_R (F : s28l3_T) (l : List AVal) (h : Heap) : Prop := J.cons l fun x0 l => J.cons l fun x1 l => J.cons l fun x2 l => J.cons l fun v l => J.int .i64 v fun x3 => J.cons l fun x4 l => J.cons l fun v l => J.int .i64 v fun x5 => J.cons l fun v l => J.int .i64 v fun x6 => J.nil l (F x0 x1 x2 x3 x4 x5 x6 h)
def s28l3_G (F : s28l3_T) (x0 x1 x2 : AVal) (x3 : Int) (x4 : AVal) (x5 x6 : Int) (h : Heap) : Prop := gJ [.any, .any, .any, .int .i64, .any, .int .i64, .int .i64] [x0, x1, x2, (.int .i64 x3), x4, (.int .i64 x5), (.int .i64 x6)] h (s28l3_R F)
def s28l3_E (F : Nat → s28l3_T) (x0 x1 x2 : AVal) (x3 : Int) (x4 : AVal) (x5 x6 : Int) (h : Heap) : Prop := gJ [.any, .any, .any, .int .i64, .any, .int .i64, .int .i64] [x0, x1, x2, (.int .i64 x3), x4, (.int .i64 x5), (.int .i64 x6)] h (fun l h => ∃ n, s28l3_R (F n) l h)
theorem s28l3_go {F : s28l3_T} {x0 x1 x2 : AVal} {x3 : Int} {x4 : AVal} {x5 x6 : Int} {h : Heap} (H : F x0 x1 x2 x3 x4 x5 x6 h) : s28l3_G F x0 x1 x2 x3 x4 x5 x6 h := gJ_plain rfl H
theorem s28l3_in {F : Nat → s28l3_T} {x0 x1 x2 : AVal} {x3 : Int} {x4 : AVal} {x5 x6 : Int} {h : Heap} (n : Nat) (H : F n x0 x1 x2 x3 x4 x5 x6 h) : s28l3_E F x0 x1 x2 x3 x4 x5 x6 h := gJ_plain rfl ⟨n, H⟩

def s28c4 (Ψ : AVal → Heap → Prop) (L2 : s28l2_T) (L3 : s28l3_T) (cones3 l_8 seen2 : AVal) (i2 : Int) (t54_1 : AVal) (t55_1 t56_1 : Int) (h : Heap) : Prop :=
  rg (t56_1 + 1) (
    L3 cones3 l_8 seen2 i2 t54_1 t55_1 (t56_1 + 1) h)

def s28l3 (Ψ : AVal → Heap → Prop) (L2 : s28l2_T) : Nat → s28l3_T
  | 0, _, _, _, _, _, _, _, _ => False
  | n6 + 1, cones2, l_7, seen1, i1, t54, t55, t56, h =>
    ifT (decide (t56 < t55)) (
      ixS 1 t54 t56 fun p2 =>
      ld1 h p2 fun v13 =>
      ixS 1 l_7 i1 fun p3 =>
      ld1 h p3 fun v14 =>
      tStr v14 fun v15 =>
      callG prog 29 [(.str v15), v13] h fun v16 h_7 =>
      tStr v16 fun v17 =>
      mapGet (.int .i64 0) h_7 seen1 (.str v17) fun v18 b =>
      tInt .i64 v18 fun v19 =>
      ifT (decide (0 < v19)) (
        s28c4 Ψ L2 (s28l3_G (s28l3 Ψ L2 n6)) cones2 l_7 seen1 i1 t54 t55 t56 h_7) (
        lenN l_7 fun n7 =>
        ifT (n7 == 64) (
          retG (.tuple [.nilsl, (.int .i64 231)]) h_7 Ψ) (
          mapPut h_7 seen1 (.str v17) (.int .i64 1) fun h_8 =>
          appC 1 16 h_8 l_7 (.lsl 1 [(.str v17)]) fun v20 h_9 =>
          s28c4 Ψ L2 (s28l3_G (s28l3 Ψ L2 n6)) cones2 v20 seen1 i1 t54 t55 t56 h_9))) (
      rg (i1 + 1) (
        L2 cones2 l_7 seen1 (i1 + 1) h))

def s28l2 (Ψ : AVal → Heap → Prop) : Nat → s28l2_T
  | 0, _, _, _, _, _ => False
  | n3 + 1, cones1, l_6, seen, i, h =>
    lenN l_6 fun n4 =>
    ifT (decide (i < n4)) (
      lenN cones1 fun n5 =>
      s28l3_E (s28l3 Ψ (s28l2_G (s28l2 Ψ n3))) cones1 l_6 seen i cones1 n5 0 h) (
      callG prog 54 [l_6, (.func (.func 55) [] [])] h fun v21 h_10 =>
      retG (.tuple [l_6, (.int .i64 0)]) h_10 Ψ)

def s28l1 (Ψ : AVal → Heap → Prop) : Nat → s28l1_T
  | 0, _, _, _, _, _ => False
  | n1 + 1, m, cones, t22, t23, h =>
    ifT (decide (t23 < t22)) (
      ldN 2 h m fun l_ =>
      tCons l_ fun v2 l_1 =>
      tCons l_1 fun v3 l_2 =>
      tNil l_2 (
        callG prog 53 [(.agg [v2, v3]), (.int .i64 t23)] h fun v4 h_1 =>
        tTup v4 fun l_3 =>
        tCons l_3 fun v5 l_4 =>
        tCons l_4 fun v6 l_5 =>
        tInt .i64 v6 fun v7 =>
        tNil l_5 (
          chk (sc v5) (
            appC 1 24 h_1 cones (.lsl 1 [v5]) fun v8 h_2 =>
            rg (t23 + 1) (
              s28l1_G (s28l1 Ψ n1) m v8 t22 (t23 + 1) h_2))))) (
      addOff m 0 fun p =>
      ld1 h p fun v9 =>
      lenN v9 fun n2 =>
      mkS false 1 1 (.int .u8 0) h n2 n2 fun v10 h_3 =>
      bStr h_3 v10 fun s =>
      Sym.newRow 1 [(.str s)] h_3 fun r h_4 =>
      newMap h_4 fun r1 h_5 =>
      ixS 1 (.sl r 1 0 1) 0 fun p1 =>
      ld1 h_5 p1 fun v11 =>
      tStr v11 fun v12 =>
      mapPut h_5 (.mapr r1) (.str v12) (.int .i64 1) fun h_6 =>
      s28l2_E (s28l2 Ψ) cones (.sl r 1 0 1) (.mapr r1) 0 h_6)

def s28 (Ψ : AVal → Heap → Prop) (m_Up : AVal) (m_Val : AVal) (h : Heap) : Prop :=
  callG prog 52 [(.agg [m_Up, m_Val])] h fun v h_ =>
  tInt .i64 v fun v1 =>
  ifT (v1 != 0) (
    retG (.tuple [.nilsl, (.int .i64 v1)]) h_ Ψ) (
    lenN m_Up fun n =>
    s28l1_E (s28l1 Ψ) (.lptr [m_Up, m_Val]) .nilsl n 0 h_)

def s28_A (Ψ : AVal → Heap → Prop) : Ann :=
  .seq (.reg [⟨none, [(0, true), (1, false), (2, false)]⟩])
  (.seq (.seq (rA 3)
  (.seq (rA 2)
  (.cond (.seq (rA 3)
  (.leaf))
  (.leaf))))
  (.seq (rA 1)
  (.seq (.seq (rA 4)
  (.block (.loop [(1, .any), (5, .any), (22, .int .i64), (23, .int .i64)] (fun n l h => s28l1_R (s28l1 Ψ n) l h) (fun L1 =>
  .seq (rA 1)
  (.seq (.cond (.leaf)
  (.leaf))
  (.seq (.block (.seq (rA 2)
  (.seq (rA 8)
  (.reg [⟨none, [(0, false), (1, false), (2, true), (3, false), (4, false)]⟩]))))
  (rA 2)))))))
  (.seq (rA 7)
  (.seq (rA 7)
  (.seq (.seq (rA 1)
  (.block (.loop [(5, .any), (9, .any), (10, .any), (11, .int .i64)] (fun n l h => s28l2_R (s28l2 Ψ n) l h) (fun L2 =>
  .seq (.seq (rA 4)
  (.cond (.leaf)
  (.leaf)))
  (.seq (.block (.seq (rA 3)
  (.block (.loop [(5, .any), (9, .any), (10, .any), (11, .int .i64), (54, .any), (55, .int .i64), (56, .int .i64)] (fun n l h => s28l3_R (s28l3 Ψ (fun y0 y1 y2 y3 h => L2 [y0, y1, y2, (.int .i64 y3)] h) n) l h) (fun L3 =>
  .seq (rA 1)
  (.seq (.cond (.leaf)
  (.leaf))
  (.cut [(5, .any), (9, .any), (10, .any), (11, .int .i64), (54, .any), (55, .int .i64), (56, .int .i64)] (fun l h => J.cons l fun x0 l => J.cons l fun x1 l => J.cons l fun x2 l => J.cons l fun v l => J.int .i64 v fun x3 => J.cons l fun x4 l => J.cons l fun v l => J.int .i64 v fun x5 => J.cons l fun v l => J.int .i64 v fun x6 => J.nil l (s28c4 Ψ (fun y0 y1 y2 y3 h => L2 [y0, y1, y2, (.int .i64 y3)] h) (fun y0 y1 y2 y3 y4 y5 y6 h => L3 [y0, y1, y2, (.int .i64 y3), y4, (.int .i64 y5), (.int .i64 y6)] h) x0 x1 x2 x3 x4 x5 x6 h)) (.block (.seq (rA 3)
  (.seq (rA 7)
  (.seq (.seq (rA 4)
  (.cond (.leaf)
  (.leaf)))
  (.seq (.seq (rA 3)
  (.cond (.seq (rA 2)
  (.leaf))
  (.leaf)))
  (.seq (rA 3)
  (.reg [⟨none, [(0, false), (1, false), (2, true), (3, false), (4, false)]⟩])))))))
  (rA 2))))))))
  (rA 3))))))
  (.seq (rA 2)
  (.seq (rA 3)
  (.leaf)))))))))

theorem s28_ok {Ψ : AVal → Heap → Prop} {m_Up : AVal} {m_Val : AVal} {h : Heap} (H : s28 Ψ m_Up m_Val h) : ACalls prog 28 [(.agg [m_Up, m_Val])] h Ψ :=
  calls_of_evF func28 (by kernel_rfl) (by kernel_rfl) (by kernel_rfl)
    (Eq.mpr (by as_aux_lemma => kernel_rfl : oblF prog f28 (s28_A Ψ) Ψ = (True ∧ (True ∧ True ∧ (True ∧ True) ∧ True) ∧ True ∧ (True ∧ (∀ (h : Heap) (x0 x1 : AVal) (x2 x3 : Int), ON (s28l1 Ψ 0 x0 x1 x2 x3 h)) ∧ ∀ n1 : Nat, (∀ (h : Heap) (x0 x1 : AVal) (x2 x3 : Int), OI (s28l1 Ψ (n1 + 1) x0 x1 x2 x3 h)) ∧ (True ∧ (True ∧ True) ∧ (True ∧ True ∧ True) ∧ True)) ∧ True ∧ True ∧ (True ∧ (∀ (h : Heap) (x0 x1 x2 : AVal) (x3 : Int), ON (s28l2 Ψ 0 x0 x1 x2 x3 h)) ∧ ∀ n2 : Nat, (∀ (h : Heap) (x0 x1 x2 : AVal) (x3 : Int), OI (s28l2 Ψ (n2 + 1) x0 x1 x2 x3 h)) ∧ ((True ∧ True ∧ True) ∧ (True ∧ (∀ (h : Heap) (x0 x1 x2 : AVal) (x3 : Int) (x4 : AVal) (x5 x6 : Int), ON (s28l3 Ψ (s28l2_G (s28l2 Ψ n2)) 0 x0 x1 x2 x3 x4 x5 x6 h)) ∧ ∀ n3 : Nat, (∀ (h : Heap) (x0 x1 x2 : AVal) (x3 : Int) (x4 : AVal) (x5 x6 : Int), OI (s28l3 Ψ (s28l2_G (s28l2 Ψ n2)) (n3 + 1) x0 x1 x2 x3 x4 x5 x6 h)) ∧ (True ∧ (True ∧ True) ∧ (True ∧ True ∧ (True ∧ True ∧ True) ∧ (True ∧ (True ∧ True) ∧ True) ∧ True ∧ True) ∧ (∀ (h : Heap) (x0 x1 x2 : AVal) (x3 : Int) (x4 : AVal) (x5 x6 : Int), OI (s28c4 Ψ (s28l2_G (s28l2 Ψ n2)) (s28l3_G (s28l3 Ψ (s28l2_G (s28l2 Ψ n2)) n3)) x0 x1 x2 x3 x4 x5 x6 h)) ∧ (True))) ∧ True)) ∧ True ∧ True ∧ True)) ⟨trivial, ⟨⟨trivial, ⟨trivial, ⟨⟨trivial, trivial⟩, trivial⟩⟩⟩, ⟨trivial, ⟨⟨trivial, ⟨fun _ _ _ _ _ H => H, fun _ => ⟨fun _ _ _ _ _ H => H, ⟨trivial, ⟨⟨trivial, trivial⟩, ⟨⟨trivial, ⟨trivial, trivial⟩⟩, trivial⟩⟩⟩⟩⟩⟩, ⟨trivial, ⟨trivial, ⟨⟨trivial, ⟨fun _ _ _ _ _ H => H, fun _ => ⟨fun _ _ _ _ _ H => H, ⟨⟨trivial, ⟨trivial, trivial⟩⟩, ⟨⟨trivial, ⟨fun _ _ _ _ _ _ _ _ H => H, fun _ => ⟨fun _ _ _ _ _ _ _ _ H => H, ⟨trivial, ⟨⟨trivial, trivial⟩, ⟨⟨trivial, ⟨trivial, ⟨⟨trivial, ⟨trivial, trivial⟩⟩, ⟨⟨trivial, ⟨⟨trivial, trivial⟩, trivial⟩⟩, ⟨trivial, trivial⟩⟩⟩⟩⟩, fun _ _ _ _ _ _ _ _ H => H, trivial⟩⟩⟩⟩⟩⟩, trivial⟩⟩⟩⟩⟩, ⟨trivial, ⟨trivial, trivial⟩⟩⟩⟩⟩⟩⟩⟩⟩)
    (Eq.mpr (by as_aux_lemma => kernel_rfl : evF prog f28 (s28_A Ψ) Ψ [(.agg [m_Up, m_Val])] h = s28 Ψ m_Up m_Val h) H)

/- 30 (dictum/heyting.lattice).meet -/
def s30 (Ψ : AVal → Heap → Prop) (l_n : Int) (l_leq : AVal) (x : Int) (y : Int) (h : Heap) : Prop :=
  callG prog 41 [(.int .i64 l_n), (.func (.func 56) [] [(.lptr [(.int .i64 l_n), l_leq]), (.lptr [(.int .i64 x)]), (.lptr [(.int .i64 y)])]), (.func (.func 43) [(.agg [(.int .i64 l_n), l_leq])] [])] h fun v h_ =>
  tTup v fun l_ =>
  tCons l_ fun v1 l_1 =>
  tInt .i64 v1 fun v2 =>
  tCons l_1 fun v3 l_2 =>
  tBool v3 fun v4 =>
  tNil l_2 (
    retG (.tuple [(.int .i64 v2), (.bool v4)]) h_ Ψ)

def s30_A (Ψ : AVal → Heap → Prop) : Ann :=
  .seq (.reg [⟨none, [(0, true), (1, true), (2, true), (3, false), (4, false)]⟩])
  (.seq (rA 10)
  (.leaf))

theorem s30_ok {Ψ : AVal → Heap → Prop} {l_n : Int} {l_leq : AVal} {x : Int} {y : Int} {h : Heap} (H : s30 Ψ l_n l_leq x y h) : ACalls prog 30 [(.agg [(.int .i64 l_n), l_leq]), (.int .i64 x), (.int .i64 y)] h Ψ :=
  calls_of_evF func30 (by kernel_rfl) (by kernel_rfl) (by kernel_rfl)
    (Eq.mpr (by as_aux_lemma => kernel_rfl : oblF prog f30 (s30_A Ψ) Ψ = (True ∧ True ∧ True)) ⟨trivial, ⟨trivial, trivial⟩⟩)
    (Eq.mpr (by as_aux_lemma => kernel_rfl : evF prog f30 (s30_A Ψ) Ψ [(.agg [(.int .i64 l_n), l_leq]), (.int .i64 x), (.int .i64 y)] h = s30 Ψ l_n l_leq x y h) H)

/- 32 (*dictum/dictumref23.H).Imp -/
abbrev s32l1_T := AVal → Int → Int → Int → Int → Heap → Prop
def s32l1_R (F : s32l1_T) (l : List AVal) (h : Heap) : Prop := J.cons l fun x0 l => J.cons l fun v l => J.int .i64 v fun x1 => J.cons l fun v l => J.int .i64 v fun x2 => J.cons l fun v l => J.int .i64 v fun x3 => J.cons l fun v l => J.int .i64 v fun x4 => J.nil l (F x0 x1 x2 x3 x4 h)
def s32l1_G (F : s32l1_T) (x0 : AVal) (x1 x2 x3 x4 : Int) (h : Heap) : Prop := gJ [.any, .int .i64, .int .i64, .int .i64, .int .i64] [x0, (.int .i64 x1), (.int .i64 x2), (.int .i64 x3), (.int .i64 x4)] h (s32l1_R F)
def s32l1_E (F : Nat → s32l1_T) (x0 : AVal) (x1 x2 x3 x4 : Int) (h : Heap) : Prop := gJ [.any, .int .i64, .int .i64, .int .i64, .int .i64] [x0, (.int .i64 x1), (.int .i64 x2), (.int .i64 x3), (.int .i64 x4)] h (fun l h => ∃ n, s32l1_R (F n) l h)
theorem s32l1_go {F : s32l1_T} {x0 : AVal} {x1 x2 x3 x4 : Int} {h : Heap} (H : F x0 x1 x2 x3 x4 h) : s32l1_G F x0 x1 x2 x3 x4 h := gJ_plain rfl H
theorem s32l1_in {F : Nat → s32l1_T} {x0 : AVal} {x1 x2 x3 x4 : Int} {h : Heap} (n : Nat) (H : F n x0 x1 x2 x3 x4 h) : s32l1_E F x0 x1 x2 x3 x4 h := gJ_plain rfl ⟨n, H⟩

def s32c2 (Ψ : AVal → Heap → Prop) (L1 : s32l1_T) (h_2 : AVal) (x2 y2 out1 z1 : Int) (h : Heap) : Prop :=
  rg (z1 + 1) (
    L1 h_2 x2 y2 out1 (z1 + 1) h)

def s32c3 (Ψ : AVal → Heap → Prop) (L1 : s32l1_T) (h_3 : AVal) (x3 y3 out2 z2 : Int) (t52 : Bool) (h : Heap) : Prop :=
  ifT t52 (
    s32c2 Ψ L1 h_3 x3 y3 z2 z2 h) (
    s32c2 Ψ L1 h_3 x3 y3 out2 z2 h)

def s32l1 (Ψ : AVal → Heap → Prop) : Nat → s32l1_T
  | 0, _, _, _, _, _, _ => False
  | n + 1, h_1, x1, y1, out, z, h =>
    nilCheckA h_1 fun p =>
    addOff p 0 fun p1 =>
    ld1 h p1 fun v =>
    lenN v fun n1 =>
    ifT (decide (z < n1)) (
      nilCheckA h_1 fun p2 =>
      addOff p2 0 fun p3 =>
      ld1 h p3 fun v1 =>
      nilCheckA h_1 fun p4 =>
      addOff p4 1 fun p5 =>
      ld1 h p5 fun v2 =>
      ixS 1 v2 z fun p6 =>
      ld1 h p6 fun v3 =>
      ixS 1 v3 x1 fun p7 =>
      ld1 h p7 fun v4 =>
      tInt .i64 v4 fun v5 =>
      ixS 1 v1 v5 fun p8 =>
      ld1 h p8 fun v6 =>
      ixS 1 v6 y1 fun p9 =>
      ld1 h p9 fun v7 =>
      tBool v7 fun v8 =>
      ifT v8 (
        ifT (decide (out < 0)) (
          s32c3 Ψ (s32l1_G (s32l1 Ψ n)) h_1 x1 y1 out z true h) (
          nilCheckA h_1 fun p10 =>
          addOff p10 0 fun p11 =>
          ld1 h p11 fun v9 =>
          ixS 1 v9 out fun p12 =>
          ld1 h p12 fun v10 =>
          ixS 1 v10 z fun p13 =>
          ld1 h p13 fun v11 =>
          tBool v11 fun v12 =>
          s32c3 Ψ (s32l1_G (s32l1 Ψ n)) h_1 x1 y1 out z v12 h)) (
        s32c3 Ψ (s32l1_G (s32l1 Ψ n)) h_1 x1 y1 out z false h)) (
      retG (.int .i64 out) h Ψ)

def s32 (Ψ : AVal → Heap → Prop) (h_ : AVal) (x : Int) (y : Int) (h : Heap) : Prop :=
  s32l1_E (s32l1 Ψ) h_ x y (-1) 0 h

def s32_A (Ψ : AVal → Heap → Prop) : Ann :=
  .seq (rA 1)
  (.seq (rA 1)
  (.seq (.seq (rA 1)
  (.block (.loop [(0, .any), (1, .int .i64), (2, .int .i64), (7, .int .i64), (8, .int .i64)] (fun n l h => s32l1_R (s32l1 Ψ n) l h) (fun L1 =>
  .seq (.seq (rA 7)
  (.cond (.leaf)
  (.leaf)))
  (.cut [(0, .any), (1, .int .i64), (2, .int .i64), (7, .int .i64), (8, .int .i64)] (fun l h => J.cons l fun x0 l => J.cons l fun v l => J.int .i64 v fun x1 => J.cons l fun v l => J.int .i64 v fun x2 => J.cons l fun v l => J.int .i64 v fun x3 => J.cons l fun v l => J.int .i64 v fun x4 => J.nil l (s32c2 Ψ (fun y0 y1 y2 y3 y4 h => L1 [y0, (.int .i64 y1), (.int .i64 y2), (.int .i64 y3), (.int .i64 y4)] h) x0 x1 x2 x3 x4 h)) (.block (.cut [(0, .any), (1, .int .i64), (2, .int .i64), (7, .int .i64), (8, .int .i64), (52, .bool)] (fun l h => J.cons l fun x0 l => J.cons l fun v l => J.int .i64 v fun x1 => J.cons l fun v l => J.int .i64 v fun x2 => J.cons l fun v l => J.int .i64 v fun x3 => J.cons l fun v l => J.int .i64 v fun x4 => J.cons l fun v l => J.bool v fun x5 => J.nil l (s32c3 Ψ (fun y0 y1 y2 y3 y4 h => L1 [y0, (.int .i64 y1), (.int .i64 y2), (.int .i64 y3), (.int .i64 y4)] h) x0 x1 x2 x3 x4 x5 h)) (.draw [(0, false), (1, false), (2, false), (3, false), (4, false), (5, false), (6, false), (7, false), (8, false), (9, false), (10, false), (11, false), (12, false), (13, false), (14, false), (15, false), (16, false), (17, false), (18, false), (19, false), (20, false), (21, false), (22, false), (23, false), (24, false), (25, false), (26, false), (27, false), (28, false), (29, false), (30, false), (31, false), (32, false), (33, false), (34, false)] [0, 1, 3, 7, 0, 16, 48, 112, 0, 496, 1008, 0, 4080, 8176, 16383, 32767, 0, 131071, 262143, 524287, 1048575, 2097151, 4194303, 8388607, 16777215, 33554431, 67108863, 8388607, 268435455, 536870911, 8388607, 2147483647, 4294967295, 8589934591, 17179869183])
  (.cond (rA 2)
  (.leaf))))
  (rA 3))))))
  (.seq (rA 2)
  (.leaf))))

theorem s32_ok {Ψ : AVal → Heap → Prop} {h_ : AVal} {x : Int} {y : Int} {h : Heap} (H : s32 Ψ h_ x y h) : ACalls prog 32 [h_, (.int .i64 x), (.int .i64 y)] h Ψ :=
  calls_of_evF func32 (by kernel_rfl) (by kernel_rfl) (by kernel_rfl)
    (Eq.mpr (by as_aux_lemma => kernel_rfl : oblF prog f32 (s32_A Ψ) Ψ = (True ∧ True ∧ (True ∧ (∀ (h : Heap) (x0 : AVal) (x1 x2 x3 x4 : Int), ON (s32l1 Ψ 0 x0 x1 x2 x3 x4 h)) ∧ ∀ n1 : Nat, (∀ (h : Heap) (x0 : AVal) (x1 x2 x3 x4 : Int), OI (s32l1 Ψ (n1 + 1) x0 x1 x2 x3 x4 h)) ∧ ((True ∧ True ∧ True) ∧ ((True) ∧ (∀ (h : Heap) (x0 : AVal) (x1 x2 x3 x4 : Int) (x5 : Bool), OI (s32c3 Ψ (s32l1_G (s32l1 Ψ n1)) x0 x1 x2 x3 x4 x5 h)) ∧ (True ∧ True)) ∧ (∀ (h : Heap) (x0 : AVal) (x1 x2 x3 x4 : Int), OI (s32c2 Ψ (s32l1_G (s32l1 Ψ n1)) x0 x1 x2 x3 x4 h)) ∧ (True))) ∧ True ∧ True)) ⟨trivial, ⟨trivial, ⟨⟨trivial, ⟨fun _ _ _ _ _ _ H => H, fun _ => ⟨fun _ _ _ _ _ _ H => H, ⟨⟨trivial, ⟨trivial, trivial⟩⟩, ⟨⟨trivial, fun _ _ _ _ _ _ _ H => H, ⟨trivial, trivial⟩⟩, fun _ _ _ _ _ _ H => H, trivial⟩⟩⟩⟩⟩, ⟨trivial, trivial⟩⟩⟩⟩)
    (Eq.mpr (by as_aux_lemma => kernel_rfl : evF prog f32 (s32_A Ψ) Ψ [h_, (.int .i64 x), (.int .i64 y)] h = s32 Ψ h_ x y h) H)

/- 34 dictum/dictumref23.best -/
abbrev s34l1_T := AVal → Int → Int → Bool → Int → Heap → Prop
def s34l1_R (F : s34l1_T) (l : List AVal) (h : Heap) : Prop := J.cons l fun x0 l => J.cons l fun v l => J.int .i64 v fun x1 => J.cons l fun v l => J.int .i64 v fun x2 => J.cons l fun v l => J.bool v fun x3 => J.cons l fun v l => J.int .i64 v fun x4 => J.nil l (F x0 x1 x2 x3 x4 h)
def s34l1_G (F : s34l1_T) (x0 : AVal) (x1 x2 : Int) (x3 : Bool) (x4 : Int) (h : Heap) : Prop := gJ [.any, .int .i64, .int .i64, .bool, .int .i64] [x0, (.int .i64 x1), (.int .i64 x2), (.bool x3), (.int .i64 x4)] h (s34l1_R F)
def s34l1_E (F : Nat → s34l1_T) (x0 : AVal) (x1 x2 : Int) (x3 : Bool) (x4 : Int) (h : Heap) : Prop := gJ [.any, .int .i64, .int .i64, .bool, .int .i64] [x0, (.int .i64 x1), (.int .i64 x2), (.bool x3), (.int .i64 x4)] h (fun l h => ∃ n, s34l1_R (F n) l h)
theorem s34l1_go {F : s34l1_T} {x0 : AVal} {x1 x2 : Int} {x3 : Bool} {x4 : Int} {h : Heap} (H : F x0 x1 x2 x3 x4 h) : s34l1_G F x0 x1 x2 x3 x4 h := gJ_plain rfl H
theorem s34l1_in {F : Nat → s34l1_T} {x0 : AVal} {x1 x2 : Int} {x3 : Bool} {x4 : Int} {h : Heap} (n : Nat) (H : F n x0 x1 x2 x3 x4 h) : s34l1_E F x0 x1 x2 x3 x4 h := gJ_plain rfl ⟨n, H⟩

abbrev s34l2_T := AVal → Int → Int → Bool → Int → Bool → Int → Heap → Prop
def s34l2_R (F : s34l2_T) (l : List AVal) (h : Heap) : Prop := J.cons l fun x0 l => J.cons l fun v l => J.int .i64 v fun x1 => J.cons l fun v l => J.int .i64 v fun x2 => J.cons l fun v l => J.bool v fun x3 => J.cons l fun v l => J.int .i64 v fun x4 => J.cons l fun v l => J.bool v fun x5 => J.cons l fun v l => J.int .i64 v fun x6 => J.nil l (F x0 x1 x2 x3 x4 x5 x6 h)
def s34l2_G (F : s34l2_T) (x0 : AVal) (x1 x2 : Int) (x3 : Bool) (x4 : Int) (x5 : Bool) (x6 : Int) (h : Heap) : Prop := gJ [.any, .int .i64, .int .i64, .bool, .int .i64, .bool, .int .i64] [x0, (.int .i64 x1), (.int .i64 x2), (.bool x3), (.int .i64 x4), (.bool x5), (.int .i64 x6)] h (s34l2_R F)
def s34l2_E (F : Nat → s34l2_T) (x0 : AVal) (x1 x2 : Int) (x3 : Bool) (x4 : Int) (x5 : Bool) (x6 : Int) (h : Heap) : Prop := gJ [.any, .int .i64, .int .i64, .bool, .int .i64, .bool, .int .i64] [x0, (.int .i64 x1), (.int .i64 x2), (.bool x3), (.int .i64 x4), (.bool x5), (.int .i64 x6)] h (fun l h => ∃ n, s34l2_R (F n) l h)
theorem s34l2_go {F : s34l2_T} {x0 : AVal} {x1 x2 : Int} {x3 : Bool} {x4 : Int} {x5 : Bool} {x6 : Int} {h : Heap} (H : F x0 x1 x2 x3 x4 x5 x6 h) : s34l2_G F x0 x1 x2 x3 x4 x5 x6 h := gJ_plain rfl H
theorem s34l2_in {F : Nat → s34l2_T} {x0 : AVal} {x1 x2 : Int} {x3 : Bool} {x4 : Int} {x5 : Bool} {x6 : Int} {h : Heap} (n : Nat) (H : F n x0 x1 x2 x3 x4 x5 x6 h) : s34l2_E F x0 x1 x2 x3 x4 x5 x6 h := gJ_plain rfl ⟨n, H⟩

def s34c4 (Ψ : AVal → Heap → Prop) (L1 : s34l1_T) (L2 : s34l2_T) (l_4 : AVal) (x4 y4 : Int) (down4 : Bool) (z3 : Int) (is2 : Bool) (w2 : Int) (h : Heap) : Prop :=
  rg (w2 + 1) (
    L2 l_4 x4 y4 down4 z3 is2 (w2 + 1) h)

def s34c3 (Ψ : AVal → Heap → Prop) (L1 : s34l1_T) (L2 : s34l2_T) (l_3 : AVal) (x3 y3 : Int) (down3 : Bool) (z2 : Int) (is1 : Bool) (w1 : Int) (t30 : Bool) (h : Heap) : Prop :=
  ifT t30 (
    callG prog 58 [l_3, (.int .i64 w1), (.int .i64 x3), (.int .i64 y3), (.bool down3)] h fun v2 h_1 =>
    tBool v2 fun v3 =>
    ifT v3 (
      ifT down3 (
        ixS 1 l_3 w1 fun p =>
        ld1 h_1 p fun v4 =>
        ixS 1 v4 z2 fun p1 =>
        ld1 h_1 p1 fun v5 =>
        tBool v5 fun v6 =>
        s34c4 Ψ L1 L2 l_3 x3 y3 down3 z2 v6 w1 h_1) (
        ixS 1 l_3 z2 fun p2 =>
        ld1 h_1 p2 fun v7 =>
        ixS 1 v7 w1 fun p3 =>
        ld1 h_1 p3 fun v8 =>
        tBool v8 fun v9 =>
        s34c4 Ψ L1 L2 l_3 x3 y3 down3 z2 v9 w1 h_1)) (
      s34c4 Ψ L1 L2 l_3 x3 y3 down3 z2 is1 w1 h_1)) (
    ifT is1 (
      retG (.int .i64 z2) h Ψ) (
      rg (z2 + 1) (
        L1 l_3 x3 y3 down3 (z2 + 1) h)))

def s34l2 (Ψ : AVal → Heap → Prop) (L1 : s34l1_T) : Nat → s34l2_T
  | 0, _, _, _, _, _, _, _, _ => False
  | n2 + 1, l_2, x2, y2, down2, z1, is, w, h =>
    lenN l_2 fun n3 =>
    ifT (decide (w < n3)) (
      s34c3 Ψ L1 (s34l2_G (s34l2 Ψ L1 n2)) l_2 x2 y2 down2 z1 is w is h) (
      s34c3 Ψ L1 (s34l2_G (s34l2 Ψ L1 n2)) l_2 x2 y2 down2 z1 is w false h)

def s34l1 (Ψ : AVal → Heap → Prop) : Nat → s34l1_T
  | 0, _, _, _, _, _, _ => False
  | n + 1, l_1, x1, y1, down1, z, h =>
    lenN l_1 fun n1 =>
    ifT (decide (z < n1)) (
      callG prog 58 [l_1, (.int .i64 z), (.int .i64 x1), (.int .i64 y1), (.bool down1)] h fun v h_ =>
      tBool v fun v1 =>
      s34l2_E (s34l2 Ψ (s34l1_G (s34l1 Ψ n))) l_1 x1 y1 down1 z v1 0 h_) (
      retG (.int .i64 (-1)) h Ψ)

def s34 (Ψ : AVal → Heap → Prop) (l_ : AVal) (x : Int) (y : Int) (down : Bool) (h : Heap) : Prop :=
  s34l1_E (s34l1 Ψ) l_ x y down 0 h

def s34_A (Ψ : AVal → Heap → Prop) : Ann :=
  .seq (rA 1)
  (.seq (.seq (rA 1)
  (.block (.loop [(0, .any), (1, .int .i64), (2, .int .i64), (3, .bool), (9, .int .i64)] (fun n l h => s34l1_R (s34l1 Ψ n) l h) (fun L1 =>
  .seq (.seq (rA 4)
  (.cond (.leaf)
  (.leaf)))
  (.seq (.block (.seq (rA 7)
  (.seq (.seq (rA 1)
  (.block (.loop [(0, .any), (1, .int .i64), (2, .int .i64), (3, .bool), (9, .int .i64), (10, .bool), (11, .int .i64)] (fun n l h => s34l2_R (s34l2 Ψ (fun y0 y1 y2 y3 y4 h => L1 [y0, (.int .i64 y1), (.int .i64 y2), (.bool y3), (.int .i64 y4)] h) n) l h) (fun L2 =>
  .seq (.cut [(0, .any), (1, .int .i64), (2, .int .i64), (3, .bool), (9, .int .i64), (10, .bool), (11, .int .i64), (30, .bool)] (fun l h => J.cons l fun x0 l => J.cons l fun v l => J.int .i64 v fun x1 => J.cons l fun v l => J.int .i64 v fun x2 => J.cons l fun v l => J.bool v fun x3 => J.cons l fun v l => J.int .i64 v fun x4 => J.cons l fun v l => J.bool v fun x5 => J.cons l fun v l => J.int .i64 v fun x6 => J.cons l fun v l => J.bool v fun x7 => J.nil l (s34c3 Ψ (fun y0 y1 y2 y3 y4 h => L1 [y0, (.int .i64 y1), (.int .i64 y2), (.bool y3), (.int .i64 y4)] h) (fun y0 y1 y2 y3 y4 y5 y6 h => L2 [y0, (.int .i64 y1), (.int .i64 y2), (.bool y3), (.int .i64 y4), (.bool y5), (.int .i64 y6)] h) x0 x1 x2 x3 x4 x5 x6 x7 h)) (.reg [⟨none, [(0, false), (1, false), (2, false), (3, false), (4, false)]⟩, ⟨some (28, true), [(5, false)]⟩, ⟨none, [(6, false)]⟩])
  (.cond (.leaf)
  (.leaf)))
  (.cut [(0, .any), (1, .int .i64), (2, .int .i64), (3, .bool), (9, .int .i64), (10, .bool), (11, .int .i64)] (fun l h => J.cons l fun x0 l => J.cons l fun v l => J.int .i64 v fun x1 => J.cons l fun v l => J.int .i64 v fun x2 => J.cons l fun v l => J.bool v fun x3 => J.cons l fun v l => J.int .i64 v fun x4 => J.cons l fun v l => J.bool v fun x5 => J.cons l fun v l => J.int .i64 v fun x6 => J.nil l (s34c4 Ψ (fun y0 y1 y2 y3 y4 h => L1 [y0, (.int .i64 y1), (.int .i64 y2), (.bool y3), (.int .i64 y4)] h) (fun y0 y1 y2 y3 y4 y5 y6 h => L2 [y0, (.int .i64 y1), (.int .i64 y2), (.bool y3), (.int .i64 y4), (.bool y5), (.int .i64 y6)] h) x0 x1 x2 x3 x4 x5 x6 h)) (.block (.seq (rA 6)
  (.cond (.seq (rA 1)
  (.cond (rA 8)
  (rA 8)))
  (.leaf))))
  (rA 3))))))
  (.seq (rA 1)
  (.cond (.seq (rA 2)
  (.leaf))
  (.leaf))))))
  (rA 3))))))
  (.seq (rA 1)
  (.leaf)))

theorem s34_ok {Ψ : AVal → Heap → Prop} {l_ : AVal} {x : Int} {y : Int} {down : Bool} {h : Heap} (H : s34 Ψ l_ x y down h) : ACalls prog 34 [l_, (.int .i64 x), (.int .i64 y), (.bool down)] h Ψ :=
  calls_of_evF func34 (by kernel_rfl) (by kernel_rfl) (by kernel_rfl)
    (Eq.mpr (by as_aux_lemma => kernel_rfl : oblF prog f34 (s34_A Ψ) Ψ = (True ∧ (True ∧ (∀ (h : Heap) (x0 : AVal) (x1 x2 : Int) (x3 : Bool) (x4 : Int), ON (s34l1 Ψ 0 x0 x1 x2 x3 x4 h)) ∧ ∀ n1 : Nat, (∀ (h : Heap) (x0 : AVal) (x1 x2 : Int) (x3 : Bool) (x4 : Int), OI (s34l1 Ψ (n1 + 1) x0 x1 x2 x3 x4 h)) ∧ ((True ∧ True ∧ True) ∧ (True ∧ (True ∧ (∀ (h : Heap) (x0 : AVal) (x1 x2 : Int) (x3 : Bool) (x4 : Int) (x5 : Bool) (x6 : Int), ON (s34l2 Ψ (s34l1_G (s34l1 Ψ n1)) 0 x0 x1 x2 x3 x4 x5 x6 h)) ∧ ∀ n2 : Nat, (∀ (h : Heap) (x0 : AVal) (x1 x2 : Int) (x3 : Bool) (x4 : Int) (x5 : Bool) (x6 : Int), OI (s34l2 Ψ (s34l1_G (s34l1 Ψ n1)) (n2 + 1) x0 x1 x2 x3 x4 x5 x6 h)) ∧ (((True) ∧ (∀ (h : Heap) (x0 : AVal) (x1 x2 : Int) (x3 : Bool) (x4 : Int) (x5 : Bool) (x6 : Int) (x7 : Bool), OI (s34c3 Ψ (s34l1_G (s34l1 Ψ n1)) (s34l2_G (s34l2 Ψ (s34l1_G (s34l1 Ψ n1)) n2)) x0 x1 x2 x3 x4 x5 x6 x7 h)) ∧ (True ∧ True)) ∧ (True ∧ (True ∧ True ∧ True) ∧ True) ∧ (∀ (h : Heap) (x0 : AVal) (x1 x2 : Int) (x3 : Bool) (x4 : Int) (x5 : Bool) (x6 : Int), OI (s34c4 Ψ (s34l1_G (s34l1 Ψ n1)) (s34l2_G (s34l2 Ψ (s34l1_G (s34l1 Ψ n1)) n2)) x0 x1 x2 x3 x4 x5 x6 h)) ∧ (True))) ∧ True ∧ (True ∧ True) ∧ True) ∧ True)) ∧ True ∧ True)) ⟨trivial, ⟨⟨trivial, ⟨fun _ _ _ _ _ _ H => H, fun _ => ⟨fun _ _ _ _ _ _ H => H, ⟨⟨trivial, ⟨trivial, trivial⟩⟩, ⟨⟨trivial, ⟨⟨trivial, ⟨fun _ _ _ _ _ _ _ _ H => H, fun _ => ⟨fun _ _ _ _ _ _ _ _ H => H, ⟨⟨trivial, fun _ _ _ _ _ _ _ _ _ H => H, ⟨trivial, trivial⟩⟩, ⟨⟨trivial, ⟨⟨trivial, ⟨trivial, trivial⟩⟩, trivial⟩⟩, fun _ _ _ _ _ _ _ _ H => H, trivial⟩⟩⟩⟩⟩, ⟨trivial, ⟨⟨trivial, trivial⟩, trivial⟩⟩⟩⟩, trivial⟩⟩⟩⟩⟩, ⟨trivial, trivial⟩⟩⟩)
    (Eq.mpr (by as_aux_lemma => kernel_rfl : evF prog f34 (s34_A Ψ) Ψ [l_, (.int .i64 x), (.int .i64 y), (.bool down)] h = s34 Ψ l_ x y down h) H)

/- 36 slices.ContainsFunc[[][]bool,[]bool] -/
def s36 (Ψ : AVal → Heap → Prop) (s : AVal) (f : AVal) (h : Heap) : Prop :=
  callG prog 59 [s, f] h fun v h_ =>
  tInt .i64 v fun v1 =>
  retG (.bool (decide (0 ≤ v1))) h_ Ψ

def s36_A (Ψ : AVal → Heap → Prop) : Ann :=
  .seq (rA 1)
  (.seq (rA 5)
  (.leaf))

theorem s36_ok {Ψ : AVal → Heap → Prop} {s : AVal} {f : AVal} {h : Heap} (H : s36 Ψ s f h) : ACalls prog 36 [s, f] h Ψ :=
  calls_of_evF func36 (by kernel_rfl) (by kernel_rfl) (by kernel_rfl)
    (Eq.mpr (by as_aux_lemma => kernel_rfl : oblF prog f36 (s36_A Ψ) Ψ = (True ∧ True ∧ True)) ⟨trivial, ⟨trivial, trivial⟩⟩)
    (Eq.mpr (by as_aux_lemma => kernel_rfl : evF prog f36 (s36_A Ψ) Ψ [s, f] h = s36 Ψ s f h) H)

/- 38 (dictum/heyting.lattice).ordered -/
abbrev s38l1_T := AVal → Int → Int → Heap → Prop
def s38l1_R (F : s38l1_T) (l : List AVal) (h : Heap) : Prop := J.cons l fun x0 l => J.cons l fun v l => J.int .i64 v fun x1 => J.cons l fun v l => J.int .i64 v fun x2 => J.nil l (F x0 x1 x2 h)
def s38l1_G (F : s38l1_T) (x0 : AVal) (x1 x2 : Int) (h : Heap) : Prop := gJ [.any, .int .i64, .int .i64] [x0, (.int .i64 x1), (.int .i64 x2)] h (s38l1_R F)
def s38l1_E (F : Nat → s38l1_T) (x0 : AVal) (x1 x2 : Int) (h : Heap) : Prop := gJ [.any, .int .i64, .int .i64] [x0, (.int .i64 x1), (.int .i64 x2)] h (fun l h => ∃ n, s38l1_R (F n) l h)
theorem s38l1_go {F : s38l1_T} {x0 : AVal} {x1 x2 : Int} {h : Heap} (H : F x0 x1 x2 h) : s38l1_G F x0 x1 x2 h := gJ_plain rfl H
theorem s38l1_in {F : Nat → s38l1_T} {x0 : AVal} {x1 x2 : Int} {h : Heap} (n : Nat) (H : F n x0 x1 x2 h) : s38l1_E F x0 x1 x2 h := gJ_plain rfl ⟨n, H⟩

abbrev s38l2_T := AVal → Int → Int → Int → Int → Int → Heap → Prop
def s38l2_R (F : s38l2_T) (l : List AVal) (h : Heap) : Prop := J.cons l fun x0 l => J.cons l fun v l => J.int .i64 v fun x1 => J.cons l fun v l => J.int .i64 v fun x2 => J.cons l fun v l => J.int .i64 v fun x3 => J.cons l fun v l => J.int .i64 v fun x4 => J.cons l fun v l => J.int .i64 v fun x5 => J.nil l (F x0 x1 x2 x3 x4 x5 h)
def s38l2_G (F : s38l2_T) (x0 : AVal) (x1 x2 x3 x4 x5 : Int) (h : Heap) : Prop := gJ [.any, .int .i64, .int .i64, .int .i64, .int .i64, .int .i64] [x0, (.int .i64 x1), (.int .i64 x2), (.int .i64 x3), (.int .i64 x4), (.int .i64 x5)] h (s38l2_R F)
def s38l2_E (F : Nat → s38l2_T) (x0 : AVal) (x1 x2 x3 x4 x5 : Int) (h : Heap) : Prop := gJ [.any, .int .i64, .int .i64, .int .i64, .int .i64, .int .i64] [x0, (.int .i64 x1), (.int .i64 x2), (.int .i64 x3), (.int .i64 x4), (.int .i64 x5)] h (fun l h => ∃ n, s38l2_R (F n) l h)
theorem s38l2_go {F : s38l2_T} {x0 : AVal} {x1 x2 x3 x4 x5 : Int} {h : Heap} (H : F x0 x1 x2 x3 x4 x5 h) : s38l2_G F x0 x1 x2 x3 x4 x5 h := gJ_plain rfl H
theorem s38l2_in {F : Nat → s38l2_T} {x0 : AVal} {x1 x2 x3 x4 x5 : Int} {h : Heap} (n : Nat) (H : F n x0 x1 x2 x3 x4 x5 h) : s38l2_E F x0 x1 x2 x3 x4 x5 h := gJ_plain rfl ⟨n, H⟩

abbrev s38l4_T := AVal → Int → Int → Int → Int → Int → Int → Int → Int → Heap → Prop
def s38l4_R (F : s38l4_T) (l : List AVal) (h : Heap) : Prop := J.cons l fun x0 l => J.cons l fun v l => J.int .i64 v fun x1 => J.cons l fun v l => J.int .i64 v fun x2 => J.cons l fun v l => J.int .i64 v fun x3 => J.cons l fun v l => J.int .i64 v fun x4 => J.cons l fun v l => J.int .i64 v fun x5 => J.cons l fun v l => J.int .i64 v fun x6 => J.cons l fun v l => J.int .i64 v fun x7 => J.cons l fun v l => J.int .i64 v fun x8 => J.nil l (F x0 x1 x2 x3 x4 x5 x6 x7 x8 h)
def s38l4_G (F : s38l4_T) (x0 : AVal) (x1 x2 x3 x4 x5 x6 x7 x8 : Int) (h : Heap) : Prop := gJ [.any, .int .i64, .int .i64, .int .i64, .int .i64, .int .i64, .int .i64, .int .i64, .int .i64] [x0, (.int .i64 x1), (.int .i64 x2), (.int .i64 x3), (.int .i64 x4), (.int .i64 x5), (.int .i64 x6), (.int .i64 x7), (.int .i64 x8)] h (s38l4_R F)
def s38l4_E (F : Nat → s38l4_T) (x0 : AVal) (x1 x2 x3 x4 x5 x6 x7 x8 : Int) (h : Heap) : Prop := gJ [.any, .int .i64, .int .i64, .int .i64, .int .i64, .int .i64, .int .i64, .int .i64, .int .i64] [x0, (.int .i64 x1), (.int .i64 x2), (.int .i64 x3), (.int .i64 x4), (.int .i64 x5), (.int .i64 x6), (.int .i64 x7), (.int .i64 x8)] h (fun l h => ∃ n, s38l4_R (F n) l h)
theorem s38l4_go {F : s38l4_T} {x0 : AVal} {x1 x2 x3 x4 x5 x6 x7 x8 : Int} {h : Heap} (H : F x0 x1 x2 x3 x4 x5 x6 x7 x8 h) : s38l4_G F x0 x1 x2 x3 x4 x5 x6 x7 x8 h := gJ_plain rfl H
theorem s38l4_in {F : Nat → s38l4_T} {x0 : AVal} {x1 x2 x3 x4 x5 x6 x7 x8 : Int} {h : Heap} (n : Nat) (H : F n x0 x1 x2 x3 x4 x5 x6 x7 x8 h) : s38l4_E F x0 x1 x2 x3 x4 x5 x6 x7 x8 h := gJ_plain rfl ⟨n, H⟩

def s38c5 (Ψ : AVal → Heap → Prop) (L1 : s38l1_T) (L2 : s38l2_T) (L4 : s38l4_T) (l_4 : AVal) (x3 y2 t7_4 t8_4 t18_3 t19_3 t40_1 t41_1 : Int) (t63 : Bool) (h : Heap) : Prop :=
  ifT t63 (
    retG (.bool false) h Ψ) (
    rg (t41_1 + 1) (
      L4 l_4 x3 y2 t7_4 t8_4 t18_3 t19_3 t40_1 (t41_1 + 1) h))

def s38l4 (Ψ : AVal → Heap → Prop) (L1 : s38l1_T) (L2 : s38l2_T) : Nat → s38l4_T
  | 0, _, _, _, _, _, _, _, _, _, _ => False
  | n2 + 1, l_3, x2, y1, t7_3, t8_3, t18_2, t19_2, t40, t41, h =>
    ifT (decide (t41 < t40)) (
      addOff l_3 1 fun p3 =>
      ld1 h p3 fun v7 =>
      callV prog v7 [(.int .i64 x2), (.int .i64 y1)] h fun v8 h_1 =>
      tBool v8 fun v9 =>
      ifT v9 (
        addOff l_3 1 fun p4 =>
        ld1 h_1 p4 fun v10 =>
        callV prog v10 [(.int .i64 y1), (.int .i64 t41)] h_1 fun v11 h_2 =>
        tBool v11 fun v12 =>
        ifT v12 (
          addOff l_3 1 fun p5 =>
          ld1 h_2 p5 fun v13 =>
          callV prog v13 [(.int .i64 x2), (.int .i64 t41)] h_2 fun v14 h_3 =>
          tBool v14 fun v15 =>
          s38c5 Ψ L1 L2 (s38l4_G (s38l4 Ψ L1 L2 n2)) l_3 x2 y1 t7_3 t8_3 t18_2 t19_2 t40 t41 (!v15) h_3) (
          s38c5 Ψ L1 L2 (s38l4_G (s38l4 Ψ L1 L2 n2)) l_3 x2 y1 t7_3 t8_3 t18_2 t19_2 t40 t41 false h_2)) (
        s38c5 Ψ L1 L2 (s38l4_G (s38l4 Ψ L1 L2 n2)) l_3 x2 y1 t7_3 t8_3 t18_2 t19_2 t40 t41 false h_1)) (
      rg (t19_2 + 1) (
        L2 l_3 x2 t7_3 t8_3 t18_2 (t19_2 + 1) h))

def s38c3 (Ψ : AVal → Heap → Prop) (L1 : s38l1_T) (L2 : s38l2_T) (l_2 : AVal) (x1 y t7_2 t8_2 t18_1 t19_1 : Int) (t38 : Bool) (h : Heap) : Prop :=
  ifT t38 (
    retG (.bool false) h Ψ) (
    addOff l_2 0 fun p2 =>
    ld1 h p2 fun v5 =>
    tInt .i64 v5 fun v6 =>
    s38l4_E (s38l4 Ψ L1 L2) l_2 x1 y t7_2 t8_2 t18_1 t19_1 v6 0 h)

def s38l2 (Ψ : AVal → Heap → Prop) (L1 : s38l1_T) : Nat → s38l2_T
  | 0, _, _, _, _, _, _, _ => False
  | n1 + 1, l_1, x, t7_1, t8_1, t18, t19, h =>
    ifT (decide (t19 < t18)) (
      ifT (x != t19) (
        addOff l_1 1 fun p6 =>
        ld1 h p6 fun v16 =>
        callV prog v16 [(.int .i64 x), (.int .i64 t19)] h fun v17 h_4 =>
        tBool v17 fun v18 =>
        ifT v18 (
          addOff l_1 1 fun p7 =>
          ld1 h_4 p7 fun v19 =>
          callV prog v19 [(.int .i64 t19), (.int .i64 x)] h_4 fun v20 h_5 =>
          tBool v20 fun v21 =>
          s38c3 Ψ L1 (s38l2_G (s38l2 Ψ L1 n1)) l_1 x t19 t7_1 t8_1 t18 t19 v21 h_5) (
          s38c3 Ψ L1 (s38l2_G (s38l2 Ψ L1 n1)) l_1 x t19 t7_1 t8_1 t18 t19 false h_4)) (
        s38c3 Ψ L1 (s38l2_G (s38l2 Ψ L1 n1)) l_1 x t19 t7_1 t8_1 t18 t19 false h)) (
      rg (t8_1 + 1) (
        L1 l_1 t7_1 (t8_1 + 1) h))

def s38l1 (Ψ : AVal → Heap → Prop) : Nat → s38l1_T
  | 0, _, _, _, _ => False
  | n + 1, l_, t7, t8, h =>
    ifT (decide (t8 < t7)) (
      addOff l_ 1 fun p =>
      ld1 h p fun v =>
      callV prog v [(.int .i64 t8), (.int .i64 t8)] h fun v1 h_ =>
      tBool v1 fun v2 =>
      ifT (!v2) (
        retG (.bool false) h_ Ψ) (
        addOff l_ 0 fun p1 =>
        ld1 h_ p1 fun v3 =>
        tInt .i64 v3 fun v4 =>
        s38l2_E (s38l2 Ψ (s38l1_G (s38l1 Ψ n))) l_ t8 t7 t8 v4 0 h_)) (
      retG (.bool true) h Ψ)

def s38 (Ψ : AVal → Heap → Prop) (l_n : Int) (l_leq : AVal) (h : Heap) : Prop :=
  s38l1_E (s38l1 Ψ) (.lptr [(.int .i64 l_n), l_leq]) l_n 0 h

def s38_A (Ψ : AVal → Heap → Prop) : Ann :=
  .seq (.reg [⟨none, [(0, true), (1, false)]⟩])
  (.seq (.seq (rA 3)
  (.block (.loop [(1, .any), (7, .int .i64), (8, .int .i64)] (fun n l h => s38l1_R (s38l1 Ψ n) l h) (fun L1 =>
  .seq (rA 1)
  (.seq (.cond (.leaf)
  (.leaf))
  (.seq (.block (.seq (rA 2)
  (.seq (.seq (rA 6)
  (.cond (.seq (rA 1)
  (.leaf))
  (.leaf)))
  (.seq (rA 3)
  (.block (.loop [(1, .any), (3, .int .i64), (7, .int .i64), (8, .int .i64), (18, .int .i64), (19, .int .i64)] (fun n l h => s38l2_R (s38l2 Ψ (fun y0 y1 y2 h => L1 [y0, (.int .i64 y1), (.int .i64 y2)] h) n) l h) (fun L2 =>
  .seq (rA 1)
  (.seq (.cond (.leaf)
  (.leaf))
  (.seq (.block (.seq (rA 2)
  (.seq (.cut [(1, .any), (3, .int .i64), (4, .int .i64), (7, .int .i64), (8, .int .i64), (18, .int .i64), (19, .int .i64), (38, .bool)] (fun l h => J.cons l fun x0 l => J.cons l fun v l => J.int .i64 v fun x1 => J.cons l fun v l => J.int .i64 v fun x2 => J.cons l fun v l => J.int .i64 v fun x3 => J.cons l fun v l => J.int .i64 v fun x4 => J.cons l fun v l => J.int .i64 v fun x5 => J.cons l fun v l => J.int .i64 v fun x6 => J.cons l fun v l => J.bool v fun x7 => J.nil l (s38c3 Ψ (fun y0 y1 y2 h => L1 [y0, (.int .i64 y1), (.int .i64 y2)] h) (fun y0 y1 y2 y3 y4 y5 h => L2 [y0, (.int .i64 y1), (.int .i64 y2), (.int .i64 y3), (.int .i64 y4), (.int .i64 y5)] h) x0 x1 x2 x3 x4 x5 x6 x7 h)) (.reg [⟨none, [(0, false), (1, false), (2, false), (3, false)]⟩, ⟨some (25, true), [(4, false), (5, false), (6, false), (7, false), (8, false)]⟩, ⟨none, [(9, false), (10, false)]⟩, ⟨some (32, true), [(11, false), (12, false), (13, false), (14, false), (15, false)]⟩, ⟨none, [(16, false)]⟩])
  (.cond (.seq (rA 1)
  (.leaf))
  (.leaf)))
  (.seq (rA 3)
  (.block (.loop [(1, .any), (3, .int .i64), (4, .int .i64), (7, .int .i64), (8, .int .i64), (18, .int .i64), (19, .int .i64), (40, .int .i64), (41, .int .i64)] (fun n l h => s38l4_R (s38l4 Ψ (fun y0 y1 y2 h => L1 [y0, (.int .i64 y1), (.int .i64 y2)] h) (fun y0 y1 y2 y3 y4 y5 h => L2 [y0, (.int .i64 y1), (.int .i64 y2), (.int .i64 y3), (.int .i64 y4), (.int .i64 y5)] h) n) l h) (fun L4 =>
  .seq (rA 1)
  (.seq (.cond (.leaf)
  (.leaf))
  (.seq (.block (.seq (rA 2)
  (.cut [(1, .any), (3, .int .i64), (4, .int .i64), (7, .int .i64), (8, .int .i64), (18, .int .i64), (19, .int .i64), (40, .int .i64), (41, .int .i64), (63, .bool)] (fun l h => J.cons l fun x0 l => J.cons l fun v l => J.int .i64 v fun x1 => J.cons l fun v l => J.int .i64 v fun x2 => J.cons l fun v l => J.int .i64 v fun x3 => J.cons l fun v l => J.int .i64 v fun x4 => J.cons l fun v l => J.int .i64 v fun x5 => J.cons l fun v l => J.int .i64 v fun x6 => J.cons l fun v l => J.int .i64 v fun x7 => J.cons l fun v l => J.int .i64 v fun x8 => J.cons l fun v l => J.bool v fun x9 => J.nil l (s38c5 Ψ (fun y0 y1 y2 h => L1 [y0, (.int .i64 y1), (.int .i64 y2)] h) (fun y0 y1 y2 y3 y4 y5 h => L2 [y0, (.int .i64 y1), (.int .i64 y2), (.int .i64 y3), (.int .i64 y4), (.int .i64 y5)] h) (fun y0 y1 y2 y3 y4 y5 y6 y7 y8 h => L4 [y0, (.int .i64 y1), (.int .i64 y2), (.int .i64 y3), (.int .i64 y4), (.int .i64 y5), (.int .i64 y6), (.int .i64 y7), (.int .i64 y8)] h) x0 x1 x2 x3 x4 x5 x6 x7 x8 x9 h)) (.reg [⟨none, [(0, false), (1, false), (2, false), (3, false), (4, false), (5, false)]⟩, ⟨some (49, true), [(6, false), (7, false), (8, false), (9, false), (10, false)]⟩, ⟨none, [(11, false), (12, false)]⟩, ⟨some (56, true), [(13, false), (14, false), (15, false), (16, false), (17, false), (18, false)]⟩, ⟨none, [(19, false)]⟩])
  (.cond (.seq (rA 1)
  (.leaf))
  (.leaf)))))
  (rA 2))))))))))
  (rA 2))))))))))
  (rA 2)))))))
  (.seq (rA 1)
  (.leaf)))

theorem s38_ok {Ψ : AVal → Heap → Prop} {l_n : Int} {l_leq : AVal} {h : Heap} (H : s38 Ψ l_n l_leq h) : ACalls prog 38 [(.agg [(.int .i64 l_n), l_leq])] h Ψ :=
  calls_of_evF func38 (by kernel_rfl) (by kernel_rfl) (by kernel_rfl)
    (Eq.mpr (by as_aux_lemma => kernel_rfl : oblF prog f38 (s38_A Ψ) Ψ = (True ∧ (True ∧ (∀ (h : Heap) (x0 : AVal) (x1 x2 : Int), ON (s38l1 Ψ 0 x0 x1 x2 h)) ∧ ∀ n1 : Nat, (∀ (h : Heap) (x0 : AVal) (x1 x2 : Int), OI (s38l1 Ψ (n1 + 1) x0 x1 x2 h)) ∧ (True ∧ (True ∧ True) ∧ (True ∧ (True ∧ (True ∧ True) ∧ True) ∧ True ∧ (∀ (h : Heap) (x0 : AVal) (x1 x2 x3 x4 x5 : Int), ON (s38l2 Ψ (s38l1_G (s38l1 Ψ n1)) 0 x0 x1 x2 x3 x4 x5 h)) ∧ ∀ n2 : Nat, (∀ (h : Heap) (x0 : AVal) (x1 x2 x3 x4 x5 : Int), OI (s38l2 Ψ (s38l1_G (s38l1 Ψ n1)) (n2 + 1) x0 x1 x2 x3 x4 x5 h)) ∧ (True ∧ (True ∧ True) ∧ (True ∧ ((True) ∧ (∀ (h : Heap) (x0 : AVal) (x1 x2 x3 x4 x5 x6 : Int) (x7 : Bool), OI (s38c3 Ψ (s38l1_G (s38l1 Ψ n1)) (s38l2_G (s38l2 Ψ (s38l1_G (s38l1 Ψ n1)) n2)) x0 x1 x2 x3 x4 x5 x6 x7 h)) ∧ ((True ∧ True) ∧ True)) ∧ True ∧ (∀ (h : Heap) (x0 : AVal) (x1 x2 x3 x4 x5 x6 x7 x8 : Int), ON (s38l4 Ψ (s38l1_G (s38l1 Ψ n1)) (s38l2_G (s38l2 Ψ (s38l1_G (s38l1 Ψ n1)) n2)) 0 x0 x1 x2 x3 x4 x5 x6 x7 x8 h)) ∧ ∀ n4 : Nat, (∀ (h : Heap) (x0 : AVal) (x1 x2 x3 x4 x5 x6 x7 x8 : Int), OI (s38l4 Ψ (s38l1_G (s38l1 Ψ n1)) (s38l2_G (s38l2 Ψ (s38l1_G (s38l1 Ψ n1)) n2)) (n4 + 1) x0 x1 x2 x3 x4 x5 x6 x7 x8 h)) ∧ (True ∧ (True ∧ True) ∧ (True ∧ (True) ∧ (∀ (h : Heap) (x0 : AVal) (x1 x2 x3 x4 x5 x6 x7 x8 : Int) (x9 : Bool), OI (s38c5 Ψ (s38l1_G (s38l1 Ψ n1)) (s38l2_G (s38l2 Ψ (s38l1_G (s38l1 Ψ n1)) n2)) (s38l4_G (s38l4 Ψ (s38l1_G (s38l1 Ψ n1)) (s38l2_G (s38l2 Ψ (s38l1_G (s38l1 Ψ n1)) n2)) n4)) x0 x1 x2 x3 x4 x5 x6 x7 x8 x9 h)) ∧ ((True ∧ True) ∧ True)) ∧ True)) ∧ True)) ∧ True)) ∧ True ∧ True)) ⟨trivial, ⟨⟨trivial, ⟨fun _ _ _ _ H => H, fun _ => ⟨fun _ _ _ _ H => H, ⟨trivial, ⟨⟨trivial, trivial⟩, ⟨⟨trivial, ⟨⟨trivial, ⟨⟨trivial, trivial⟩, trivial⟩⟩, ⟨trivial, ⟨fun _ _ _ _ _ _ _ H => H, fun _ => ⟨fun _ _ _ _ _ _ _ H => H, ⟨trivial, ⟨⟨trivial, trivial⟩, ⟨⟨trivial, ⟨⟨trivial, fun _ _ _ _ _ _ _ _ _ H => H, ⟨⟨trivial, trivial⟩, trivial⟩⟩, ⟨trivial, ⟨fun _ _ _ _ _ _ _ _ _ _ H => H, fun _ => ⟨fun _ _ _ _ _ _ _ _ _ _ H => H, ⟨trivial, ⟨⟨trivial, trivial⟩, ⟨⟨trivial, ⟨trivial, fun _ _ _ _ _ _ _ _ _ _ _ H => H, ⟨⟨trivial, trivial⟩, trivial⟩⟩⟩, trivial⟩⟩⟩⟩⟩⟩⟩⟩, trivial⟩⟩⟩⟩⟩⟩⟩⟩, trivial⟩⟩⟩⟩⟩⟩, ⟨trivial, trivial⟩⟩⟩)
    (Eq.mpr (by as_aux_lemma => kernel_rfl : evF prog f38 (s38_A Ψ) Ψ [(.agg [(.int .i64 l_n), l_leq])] h = s38 Ψ l_n l_leq h) H)

/- 40 (dictum/heyting.lattice).bounds$1 -/
def s40 (Ψ : AVal → Heap → Prop) (a0 : Int) (h : Heap) : Prop :=
  retG (.bool true) h Ψ

def s40_A (Ψ : AVal → Heap → Prop) : Ann :=
  .seq (rA 1)
  (.seq (rA 1)
  (.leaf))

theorem s40_ok {Ψ : AVal → Heap → Prop} {a0 : Int} {h : Heap} (H : s40 Ψ a0 h) : ACalls prog 40 [(.int .i64 a0)] h Ψ :=
  calls_of_evF func40 (by kernel_rfl) (by kernel_rfl) (by kernel_rfl)
    (Eq.mpr (by as_aux_lemma => kernel_rfl : oblF prog f40 (s40_A Ψ) Ψ = (True ∧ True ∧ True)) ⟨trivial, ⟨trivial, trivial⟩⟩)
    (Eq.mpr (by as_aux_lemma => kernel_rfl : evF prog f40 (s40_A Ψ) Ψ [(.int .i64 a0)] h = s40 Ψ a0 h) H)

/- 42 (dictum/heyting.lattice).down -/
def s42 (Ψ : AVal → Heap → Prop) (l_n : Int) (l_leq : AVal) (z : Int) (w : Int) (h : Heap) : Prop :=
  callV prog l_leq [(.int .i64 z), (.int .i64 w)] h fun v h_ =>
  tBool v fun v1 =>
  retG (.bool v1) h_ Ψ

def s42_A (Ψ : AVal → Heap → Prop) : Ann :=
  .seq (.reg [⟨none, [(0, true), (1, false)]⟩])
  (.seq (rA 6)
  (.leaf))

theorem s42_ok {Ψ : AVal → Heap → Prop} {l_n : Int} {l_leq : AVal} {z : Int} {w : Int} {h : Heap} (H : s42 Ψ l_n l_leq z w h) : ACalls prog 42 [(.agg [(.int .i64 l_n), l_leq]), (.int .i64 z), (.int .i64 w)] h Ψ :=
  calls_of_evF func42 (by kernel_rfl) (by kernel_rfl) (by kernel_rfl)
    (Eq.mpr (by as_aux_lemma => kernel_rfl : oblF prog f42 (s42_A Ψ) Ψ = (True ∧ True ∧ True)) ⟨trivial, ⟨trivial, trivial⟩⟩)
    (Eq.mpr (by as_aux_lemma => kernel_rfl : evF prog f42 (s42_A Ψ) Ψ [(.agg [(.int .i64 l_n), l_leq]), (.int .i64 z), (.int .i64 w)] h = s42 Ψ l_n l_leq z w h) H)

/- 44 (dictum/heyting.lattice).join$1 -/
def s44 (Ψ : AVal → Heap → Prop) (z : Int) (c0 : AVal) (c1 : AVal) (c2 : AVal) (h : Heap) : Prop :=
  addOff c0 1 fun p =>
  ld1 h p fun v =>
  ld1 h c1 fun v1 =>
  tInt .i64 v1 fun v2 =>
  callV prog v [(.int .i64 v2), (.int .i64 z)] h fun v3 h_ =>
  tBool v3 fun v4 =>
  ifT v4 (
    addOff c0 1 fun p1 =>
    ld1 h_ p1 fun v5 =>
    ld1 h_ c2 fun v6 =>
    tInt .i64 v6 fun v7 =>
    callV prog v5 [(.int .i64 v7), (.int .i64 z)] h_ fun v8 h_1 =>
    tBool v8 fun v9 =>
    retG (.bool v9) h_1 Ψ) (
    retG (.bool false) h_ Ψ)

def s44_A (Ψ : AVal → Heap → Prop) : Ann :=
  .seq (rA 1)
  (.seq (.reg [⟨none, [(0, false), (1, false), (2, false), (3, false), (4, false), (5, false)]⟩, ⟨some (11, true), [(6, false), (7, false), (8, false), (9, false), (10, false)]⟩, ⟨none, [(11, false), (12, false)]⟩])
  (.leaf))

theorem s44_ok {Ψ : AVal → Heap → Prop} {z : Int} {c0 : AVal} {c1 : AVal} {c2 : AVal} {h : Heap} (H : s44 Ψ z c0 c1 c2 h) : ACalls prog 44 [(.int .i64 z), c0, c1, c2] h Ψ :=
  calls_of_evF func44 (by kernel_rfl) (by kernel_rfl) (by kernel_rfl)
    (Eq.mpr (by as_aux_lemma => kernel_rfl : oblF prog f44 (s44_A Ψ) Ψ = (True ∧ True ∧ True)) ⟨trivial, ⟨trivial, trivial⟩⟩)
    (Eq.mpr (by as_aux_lemma => kernel_rfl : evF prog f44 (s44_A Ψ) Ψ [(.int .i64 z), c0, c1, c2] h = s44 Ψ z c0 c1 c2 h) H)

/- 46 dictum/worlds.all -/
abbrev s46l1_T := AVal → AVal → Int → Int → Heap → Prop
def s46l1_R (F : s46l1_T) (l : List AVal) (h : Heap) : Prop := J.cons l fun x0 l => J.cons l fun x1 l => J.cons l fun v l => J.int .i64 v fun x2 => J.cons l fun v l => J.int .i64 v fun x3 => J.nil l (F x0 x1 x2 x3 h)
def s46l1_G (F : s46l1_T) (x0 x1 : AVal) (x2 x3 : Int) (h : Heap) : Prop := gJ [.any, .any, .int .i64, .int .i64] [x0, x1, (.int .i64 x2), (.int .i64 x3)] h (s46l1_R F)
def s46l1_E (F : Nat → s46l1_T) (x0 x1 : AVal) (x2 x3 : Int) (h : Heap) : Prop := gJ [.any, .any, .int .i64, .int .i64] [x0, x1, (.int .i64 x2), (.int .i64 x3)] h (fun l h => ∃ n, s46l1_R (F n) l h)
theorem s46l1_go {F : s46l1_T} {x0 x1 : AVal} {x2 x3 : Int} {h : Heap} (H : F x0 x1 x2 x3 h) : s46l1_G F x0 x1 x2 x3 h := gJ_plain rfl H
theorem s46l1_in {F : Nat → s46l1_T} {x0 x1 : AVal} {x2 x3 : Int} {h : Heap} (n : Nat) (H : F n x0 x1 x2 x3 h) : s46l1_E F x0 x1 x2 x3 h := gJ_plain rfl ⟨n, H⟩

def s46c2 (Ψ : AVal → Heap → Prop) (L1 : s46l1_T) (is2 l_1 : AVal) (t9_1 t10_1 : Int) (h : Heap) : Prop :=
  rg (t10_1 + 1) (
    L1 is2 l_1 t9_1 (t10_1 + 1) h)

def s46l1 (Ψ : AVal → Heap → Prop) : Nat → s46l1_T
  | 0, _, _, _, _, _ => False
  | n1 + 1, is1, l_, t9, t10, h =>
    ifT (decide (t10 < t9)) (
      callV prog is1 [(.int .i64 t10)] h fun v h_ =>
      tBool v fun v1 =>
      ifT v1 (
        appC 1 8 h_ l_ (.lsl 1 [(.int .i64 t10)]) fun v2 h_1 =>
        s46c2 Ψ (s46l1_G (s46l1 Ψ n1)) is1 v2 t9 t10 h_1) (
        s46c2 Ψ (s46l1_G (s46l1 Ψ n1)) is1 l_ t9 t10 h_)) (
      retG l_ h Ψ)

def s46 (Ψ : AVal → Heap → Prop) (m_Up : AVal) (m_Val : AVal) (is : AVal) (h : Heap) : Prop :=
  lenN m_Up fun n =>
  s46l1_E (s46l1 Ψ) is .nilsl n 0 h

def s46_A (Ψ : AVal → Heap → Prop) : Ann :=
  .seq (.reg [⟨none, [(0, true), (1, false)]⟩])
  (.seq (rA 1)
  (.seq (.seq (rA 4)
  (.block (.loop [(1, .any), (5, .any), (9, .int .i64), (10, .int .i64)] (fun n l h => s46l1_R (s46l1 Ψ n) l h) (fun L1 =>
  .seq (rA 1)
  (.seq (.cond (.leaf)
  (.leaf))
  (.cut [(1, .any), (5, .any), (9, .int .i64), (10, .int .i64)] (fun l h => J.cons l fun x0 l => J.cons l fun x1 l => J.cons l fun v l => J.int .i64 v fun x2 => J.cons l fun v l => J.int .i64 v fun x3 => J.nil l (s46c2 Ψ (fun y0 y1 y2 y3 h => L1 [y0, y1, (.int .i64 y2), (.int .i64 y3)] h) x0 x1 x2 x3 h)) (.block (.seq (rA 2)
  (.seq (rA 3)
  (.cond (.reg [⟨none, [(0, false), (1, false), (2, true), (3, false), (4, false)]⟩])
  (.leaf)))))
  (rA 2)))))))
  (.seq (rA 2)
  (.leaf))))

theorem s46_ok {Ψ : AVal → Heap → Prop} {m_Up : AVal} {m_Val : AVal} {is : AVal} {h : Heap} (H : s46 Ψ m_Up m_Val is h) : ACalls prog 46 [(.agg [m_Up, m_Val]), is] h Ψ :=
  calls_of_evF func46 (by kernel_rfl) (by kernel_rfl) (by kernel_rfl)
    (Eq.mpr (by as_aux_lemma => kernel_rfl : oblF prog f46 (s46_A Ψ) Ψ = (True ∧ True ∧ (True ∧ (∀ (h : Heap) (x0 x1 : AVal) (x2 x3 : Int), ON (s46l1 Ψ 0 x0 x1 x2 x3 h)) ∧ ∀ n1 : Nat, (∀ (h : Heap) (x0 x1 : AVal) (x2 x3 : Int), OI (s46l1 Ψ (n1 + 1) x0 x1 x2 x3 h)) ∧ (True ∧ (True ∧ True) ∧ (True ∧ True ∧ True ∧ True) ∧ (∀ (h : Heap) (x0 x1 : AVal) (x2 x3 : Int), OI (s46c2 Ψ (s46l1_G (s46l1 Ψ n1)) x0 x1 x2 x3 h)) ∧ (True))) ∧ True ∧ True)) ⟨trivial, ⟨trivial, ⟨⟨trivial, ⟨fun _ _ _ _ _ H => H, fun _ => ⟨fun _ _ _ _ _ H => H, ⟨trivial, ⟨⟨trivial, trivial⟩, ⟨⟨trivial, ⟨trivial, ⟨trivial, trivial⟩⟩⟩, fun _ _ _ _ _ H => H, trivial⟩⟩⟩⟩⟩⟩, ⟨trivial, trivial⟩⟩⟩⟩)
    (Eq.mpr (by as_aux_lemma => kernel_rfl : evF prog f46 (s46_A Ψ) Ψ [(.agg [m_Up, m_Val]), is] h = s46 Ψ m_Up m_Val is h) H)

/- 48 dictum/worlds.Tidy$2 -/
def s48 (Ψ : AVal → Heap → Prop) (b : Int) (c0 : AVal) (c1 : AVal) (h : Heap) : Prop :=
  ld1 h c0 fun v =>
  callG prog 49 [v, (.func (.func 50) [] [(.lptr [(.int .i64 b)]), c1])] h fun v1 h_ =>
  tBool v1 fun v2 =>
  retG (.bool (!v2)) h_ Ψ

def s48_A (Ψ : AVal → Heap → Prop) : Ann :=
  .seq (.reg [⟨none, [(0, true), (1, false)]⟩])
  (.seq (rA 5)
  (.leaf))

theorem s48_ok {Ψ : AVal → Heap → Prop} {b : Int} {c0 : AVal} {c1 : AVal} {h : Heap} (H : s48 Ψ b c0 c1 h) : ACalls prog 48 [(.int .i64 b), c0, c1] h Ψ :=
  calls_of_evF func48 (by kernel_rfl) (by kernel_rfl) (by kernel_rfl)
    (Eq.mpr (by as_aux_lemma => kernel_rfl : oblF prog f48 (s48_A Ψ) Ψ = (True ∧ True ∧ True)) ⟨trivial, ⟨trivial, trivial⟩⟩)
    (Eq.mpr (by as_aux_lemma => kernel_rfl : evF prog f48 (s48_A Ψ) Ψ [(.int .i64 b), c0, c1] h = s48 Ψ b c0 c1 h) H)

/- 50 dictum/worlds.Tidy$2$1 -/
def s50 (Ψ : AVal → Heap → Prop) (c : Int) (c0 : AVal) (c1 : AVal) (h : Heap) : Prop :=
  ld1 h c0 fun v =>
  tInt .i64 v fun v1 =>
  ifT (c != v1) (
    ld1 h c1 fun v2 =>
    ld1 h c0 fun v3 =>
    tInt .i64 v3 fun v4 =>
    callV prog v2 [(.int .i64 c), (.int .i64 v4)] h fun v5 h_ =>
    tBool v5 fun v6 =>
    retG (.bool v6) h_ Ψ) (
    retG (.bool false) h Ψ)

def s50_A (Ψ : AVal → Heap → Prop) : Ann :=
  .seq (rA 1)
  (.seq (.reg [⟨none, [(0, false), (1, false), (2, false), (3, false)]⟩, ⟨some (8, true), [(4, false), (5, false), (6, false), (7, false)]⟩, ⟨none, [(8, false), (9, false)]⟩])
  (.leaf))

theorem s50_ok {Ψ : AVal → Heap → Prop} {c : Int} {c0 : AVal} {c1 : AVal} {h : Heap} (H : s50 Ψ c c0 c1 h) : ACalls prog 50 [(.int .i64 c), c0, c1] h Ψ :=
  calls_of_evF func50 (by kernel_rfl) (by kernel_rfl) (by kernel_rfl)
    (Eq.mpr (by as_aux_lemma => kernel_rfl : oblF prog f50 (s50_A Ψ) Ψ = (True ∧ True ∧ True)) ⟨trivial, ⟨trivial, trivial⟩⟩)
    (Eq.mpr (by as_aux_lemma => kernel_rfl : evF prog f50 (s50_A Ψ) Ψ [(.int .i64 c), c0, c1] h = s50 Ψ c c0 c1 h) H)

/- 52 dictum/worlds.Check -/
def s52 (Ψ : AVal → Heap → Prop) (m_Up : AVal) (m_Val : AVal) (h : Heap) : Prop :=
  callG prog 45 [(.agg [m_Up, m_Val]), .nilsl] h fun v h_ =>
  tTup v fun l_ =>
  tCons l_ fun v1 l_1 =>
  tCons l_1 fun v2 l_2 =>
  tInt .i64 v2 fun v3 =>
  tNil l_2 (
    retG (.int .i64 v3) h_ Ψ)

def s52_A (Ψ : AVal → Heap → Prop) : Ann :=
  .seq (.reg [⟨none, [(0, true), (1, false)]⟩])
  (.seq (rA 7)
  (.seq (rA 2)
  (.leaf)))

theorem s52_ok {Ψ : AVal → Heap → Prop} {m_Up : AVal} {m_Val : AVal} {h : Heap} (H : s52 Ψ m_Up m_Val h) : ACalls prog 52 [(.agg [m_Up, m_Val])] h Ψ :=
  calls_of_evF func52 (by kernel_rfl) (by kernel_rfl) (by kernel_rfl)
    (Eq.mpr (by as_aux_lemma => kernel_rfl : oblF prog f52 (s52_A Ψ) Ψ = (True ∧ True ∧ True ∧ True)) ⟨trivial, ⟨trivial, ⟨trivial, trivial⟩⟩⟩)
    (Eq.mpr (by as_aux_lemma => kernel_rfl : evF prog f52 (s52_A Ψ) Ψ [(.agg [m_Up, m_Val])] h = s52 Ψ m_Up m_Val h) H)

/- 55 dictum/heyting.compare -/
abbrev s55l1_T := ByteArray → ByteArray → Int → Heap → Prop
def s55l1_R (F : s55l1_T) (l : List AVal) (h : Heap) : Prop := J.cons l fun v l => J.str v fun x0 => J.cons l fun v l => J.str v fun x1 => J.cons l fun v l => J.int .i64 v fun x2 => J.nil l (F x0 x1 x2 h)
def s55l1_G (F : s55l1_T) (x0 x1 : ByteArray) (x2 : Int) (h : Heap) : Prop := gJ [.str, .str, .int .i64] [(.str x0), (.str x1), (.int .i64 x2)] h (s55l1_R F)
def s55l1_E (F : Nat → s55l1_T) (x0 x1 : ByteArray) (x2 : Int) (h : Heap) : Prop := gJ [.str, .str, .int .i64] [(.str x0), (.str x1), (.int .i64 x2)] h (fun l h => ∃ n, s55l1_R (F n) l h)
theorem s55l1_go {F : s55l1_T} {x0 x1 : ByteArray} {x2 : Int} {h : Heap} (H : F x0 x1 x2 h) : s55l1_G F x0 x1 x2 h := gJ_plain rfl H
theorem s55l1_in {F : Nat → s55l1_T} {x0 x1 : ByteArray} {x2 : Int} {h : Heap} (n : Nat) (H : F n x0 x1 x2 h) : s55l1_E F x0 x1 x2 h := gJ_plain rfl ⟨n, H⟩

def s55l1 (Ψ : AVal → Heap → Prop) : Nat → s55l1_T
  | 0, _, _, _, _ => False
  | n + 1, a1, b1, w, h =>
    ifT (decide (0 ≤ w)) (
      ((0 : Int) ≤ w ∧ w < (a1.size : Int)) ∧
      ((0 : Int) ≤ w ∧ w < (b1.size : Int)) ∧
      ifT ((btA a1 w) != (btA b1 w)) (
        ((0 : Int) ≤ w ∧ w < (a1.size : Int)) ∧
        rg (btA a1 w) (
          ((0 : Int) ≤ w ∧ w < (b1.size : Int)) ∧
          rg (btA b1 w) (
            rg ((btA a1 w) - (btA b1 w)) (
              retG (.int .i64 ((btA a1 w) - (btA b1 w))) h Ψ)))) (
        rg (w - 1) (
          s55l1_G (s55l1 Ψ n) a1 b1 (w - 1) h))) (
      retG (.int .i64 0) h Ψ)

def s55 (Ψ : AVal → Heap → Prop) (a : ByteArray) (b : ByteArray) (h : Heap) : Prop :=
  rg ((a.size : Int) - 1) (
    s55l1_E (s55l1 Ψ) a b ((a.size : Int) - 1) h)

def s55_A (Ψ : AVal → Heap → Prop) : Ann :=
  .seq (rA 1)
  (.seq (.seq (rA 4)
  (.block (.loop [(0, .str), (1, .str), (5, .int .i64)] (fun n l h => s55l1_R (s55l1 Ψ n) l h) (fun L1 =>
  .seq (.seq (rA 2)
  (.cond (.leaf)
  (.leaf)))
  (.seq (.block (.seq (.draw [(0, false), (1, false), (2, false), (3, false), (4, false), (5, false), (6, false)] [0, 0, 3, 0, 0, 24, 63])
  (.cond (.seq (.draw [(0, false), (1, false), (2, false), (3, false), (4, false), (5, false), (6, false), (7, false), (8, false), (9, false)] [0, 0, 3, 7, 0, 0, 48, 112, 255, 511])
  (.leaf))
  (.leaf))))
  (rA 3))))))
  (.seq (rA 1)
  (.leaf)))

theorem s55_ok {Ψ : AVal → Heap → Prop} {a : ByteArray} {b : ByteArray} {h : Heap} (H : s55 Ψ a b h) : ACalls prog 55 [(.str a), (.str b)] h Ψ :=
  calls_of_evF func55 (by kernel_rfl) (by kernel_rfl) (by kernel_rfl)
    (Eq.mpr (by as_aux_lemma => kernel_rfl : oblF prog f55 (s55_A Ψ) Ψ = (True ∧ (True ∧ (∀ (h : Heap) (x0 x1 : ByteArray) (x2 : Int), ON (s55l1 Ψ 0 x0 x1 x2 h)) ∧ ∀ n1 : Nat, (∀ (h : Heap) (x0 x1 : ByteArray) (x2 : Int), OI (s55l1 Ψ (n1 + 1) x0 x1 x2 h)) ∧ ((True ∧ True ∧ True) ∧ (True ∧ (True ∧ True) ∧ True) ∧ True)) ∧ True ∧ True)) ⟨trivial, ⟨⟨trivial, ⟨fun _ _ _ _ H => H, fun _ => ⟨fun _ _ _ _ H => H, ⟨⟨trivial, ⟨trivial, trivial⟩⟩, ⟨⟨trivial, ⟨⟨trivial, trivial⟩, trivial⟩⟩, trivial⟩⟩⟩⟩⟩, ⟨trivial, trivial⟩⟩⟩)
    (Eq.mpr (by as_aux_lemma => kernel_rfl : evF prog f55 (s55_A Ψ) Ψ [(.str a), (.str b)] h = s55 Ψ a b h) H)

/- 57 (dictum/heyting.lattice).imp$1 -/
def s57 (Ψ : AVal → Heap → Prop) (z : Int) (c0 : AVal) (c1 : AVal) (c2 : AVal) (h : Heap) : Prop :=
  ldN 2 h c0 fun l_ =>
  tCons l_ fun v l_1 =>
  tInt .i64 v fun v1 =>
  tCons l_1 fun v2 l_2 =>
  tNil l_2 (
    ld1 h c1 fun v3 =>
    tInt .i64 v3 fun v4 =>
    callG prog 30 [(.agg [(.int .i64 v1), v2]), (.int .i64 z), (.int .i64 v4)] h fun v5 h_ =>
    tTup v5 fun l_3 =>
    tCons l_3 fun v6 l_4 =>
    tInt .i64 v6 fun v7 =>
    tCons l_4 fun v8 l_5 =>
    tBool v8 fun v9 =>
    tNil l_5 (
      addOff c0 1 fun p =>
      ld1 h_ p fun v10 =>
      ld1 h_ c2 fun v11 =>
      tInt .i64 v11 fun v12 =>
      callV prog v10 [(.int .i64 v7), (.int .i64 v12)] h_ fun v13 h_1 =>
      tBool v13 fun v14 =>
      retG (.bool v14) h_1 Ψ))

def s57_A (Ψ : AVal → Heap → Prop) : Ann :=
  .seq (rA 1)
  (.seq (rA 9)
  (.seq (rA 6)
  (.leaf)))

theorem s57_ok {Ψ : AVal → Heap → Prop} {z : Int} {c0 : AVal} {c1 : AVal} {c2 : AVal} {h : Heap} (H : s57 Ψ z c0 c1 c2 h) : ACalls prog 57 [(.int .i64 z), c0, c1, c2] h Ψ :=
  calls_of_evF func57 (by kernel_rfl) (by kernel_rfl) (by kernel_rfl)
    (Eq.mpr (by as_aux_lemma => kernel_rfl : oblF prog f57 (s57_A Ψ) Ψ = (True ∧ True ∧ True ∧ True)) ⟨trivial, ⟨trivial, ⟨trivial, trivial⟩⟩⟩)
    (Eq.mpr (by as_aux_lemma => kernel_rfl : evF prog f57 (s57_A Ψ) Ψ [(.int .i64 z), c0, c1, c2] h = s57 Ψ z c0 c1 c2 h) H)

/- 59 slices.IndexFunc[[][]bool,[]bool] -/
abbrev s59l1_T := AVal → AVal → Int → Int → Heap → Prop
def s59l1_R (F : s59l1_T) (l : List AVal) (h : Heap) : Prop := J.cons l fun x0 l => J.cons l fun x1 l => J.cons l fun v l => J.int .i64 v fun x2 => J.cons l fun v l => J.int .i64 v fun x3 => J.nil l (F x0 x1 x2 x3 h)
def s59l1_G (F : s59l1_T) (x0 x1 : AVal) (x2 x3 : Int) (h : Heap) : Prop := gJ [.any, .any, .int .i64, .int .i64] [x0, x1, (.int .i64 x2), (.int .i64 x3)] h (s59l1_R F)
def s59l1_E (F : Nat → s59l1_T) (x0 x1 : AVal) (x2 x3 : Int) (h : Heap) : Prop := gJ [.any, .any, .int .i64, .int .i64] [x0, x1, (.int .i64 x2), (.int .i64 x3)] h (fun l h => ∃ n, s59l1_R (F n) l h)
theorem s59l1_go {F : s59l1_T} {x0 x1 : AVal} {x2 x3 : Int} {h : Heap} (H : F x0 x1 x2 x3 h) : s59l1_G F x0 x1 x2 x3 h := gJ_plain rfl H
theorem s59l1_in {F : Nat → s59l1_T} {x0 x1 : AVal} {x2 x3 : Int} {h : Heap} (n : Nat) (H : F n x0 x1 x2 x3 h) : s59l1_E F x0 x1 x2 x3 h := gJ_plain rfl ⟨n, H⟩

def s59l1 (Ψ : AVal → Heap → Prop) : Nat → s59l1_T
  | 0, _, _, _, _, _ => False
  | n1 + 1, s1, f1, t7, t8, h =>
    ifT (decide (t8 < t7)) (
      ixS 1 s1 t8 fun p =>
      ld1 h p fun v =>
      callV prog f1 [v] h fun v1 h_ =>
      tBool v1 fun v2 =>
      ifT v2 (
        retG (.int .i64 t8) h_ Ψ) (
        rg (t8 + 1) (
          s59l1_G (s59l1 Ψ n1) s1 f1 t7 (t8 + 1) h_))) (
      retG (.int .i64 (-1)) h Ψ)

def s59 (Ψ : AVal → Heap → Prop) (s : AVal) (f : AVal) (h : Heap) : Prop :=
  lenN s fun n =>
  s59l1_E (s59l1 Ψ) s f n 0 h

def s59_A (Ψ : AVal → Heap → Prop) : Ann :=
  .seq (rA 1)
  (.seq (.seq (rA 3)
  (.block (.loop [(0, .any), (1, .any), (7, .int .i64), (8, .int .i64)] (fun n l h => s59l1_R (s59l1 Ψ n) l h) (fun L1 =>
  .seq (rA 1)
  (.seq (.cond (.leaf)
  (.leaf))
  (.seq (.block (.seq (rA 2)
  (.seq (rA 6)
  (.cond (.seq (rA 2)
  (.leaf))
  (.leaf)))))
  (rA 2)))))))
  (.seq (rA 1)
  (.leaf)))

theorem s59_ok {Ψ : AVal → Heap → Prop} {s : AVal} {f : AVal} {h : Heap} (H : s59 Ψ s f h) : ACalls prog 59 [s, f] h Ψ :=
  calls_of_evF func59 (by kernel_rfl) (by kernel_rfl) (by kernel_rfl)
    (Eq.mpr (by as_aux_lemma => kernel_rfl : oblF prog f59 (s59_A Ψ) Ψ = (True ∧ (True ∧ (∀ (h : Heap) (x0 x1 : AVal) (x2 x3 : Int), ON (s59l1 Ψ 0 x0 x1 x2 x3 h)) ∧ ∀ n1 : Nat, (∀ (h : Heap) (x0 x1 : AVal) (x2 x3 : Int), OI (s59l1 Ψ (n1 + 1) x0 x1 x2 x3 h)) ∧ (True ∧ (True ∧ True) ∧ (True ∧ True ∧ (True ∧ True) ∧ True) ∧ True)) ∧ True ∧ True)) ⟨trivial, ⟨⟨trivial, ⟨fun _ _ _ _ _ H => H, fun _ => ⟨fun _ _ _ _ _ H => H, ⟨trivial, ⟨⟨trivial, trivial⟩, ⟨⟨trivial, ⟨trivial, ⟨⟨trivial, trivial⟩, trivial⟩⟩⟩, trivial⟩⟩⟩⟩⟩⟩, ⟨trivial, trivial⟩⟩⟩)
    (Eq.mpr (by as_aux_lemma => kernel_rfl : evF prog f59 (s59_A Ψ) Ψ [s, f] h = s59 Ψ s f h) H)

/- 61 slices.IndexFunc[[]int,int] -/
abbrev s61l1_T := AVal → AVal → Int → Int → Heap → Prop
def s61l1_R (F : s61l1_T) (l : List AVal) (h : Heap) : Prop := J.cons l fun x0 l => J.cons l fun x1 l => J.cons l fun v l => J.int .i64 v fun x2 => J.cons l fun v l => J.int .i64 v fun x3 => J.nil l (F x0 x1 x2 x3 h)
def s61l1_G (F : s61l1_T) (x0 x1 : AVal) (x2 x3 : Int) (h : Heap) : Prop := gJ [.any, .any, .int .i64, .int .i64] [x0, x1, (.int .i64 x2), (.int .i64 x3)] h (s61l1_R F)
def s61l1_E (F : Nat → s61l1_T) (x0 x1 : AVal) (x2 x3 : Int) (h : Heap) : Prop := gJ [.any, .any, .int .i64, .int .i64] [x0, x1, (.int .i64 x2), (.int .i64 x3)] h (fun l h => ∃ n, s61l1_R (F n) l h)
theorem s61l1_go {F : s61l1_T} {x0 x1 : AVal} {x2 x3 : Int} {h : Heap} (H : F x0 x1 x2 x3 h) : s61l1_G F x0 x1 x2 x3 h := gJ_plain rfl H
theorem s61l1_in {F : Nat → s61l1_T} {x0 x1 : AVal} {x2 x3 : Int} {h : Heap} (n : Nat) (H : F n x0 x1 x2 x3 h) : s61l1_E F x0 x1 x2 x3 h := gJ_plain rfl ⟨n, H⟩

def s61l1 (Ψ : AVal → Heap → Prop) : Nat → s61l1_T
  | 0, _, _, _, _, _ => False
  | n1 + 1, s1, f1, t7, t8, h =>
    ifT (decide (t8 < t7)) (
      ixS 1 s1 t8 fun p =>
      ld1 h p fun v =>
      tInt .i64 v fun v1 =>
      callV prog f1 [(.int .i64 v1)] h fun v2 h_ =>
      tBool v2 fun v3 =>
      ifT v3 (
        retG (.int .i64 t8) h_ Ψ) (
        rg (t8 + 1) (
          s61l1_G (s61l1 Ψ n1) s1 f1 t7 (t8 + 1) h_))) (
      retG (.int .i64 (-1)) h Ψ)

def s61 (Ψ : AVal → Heap → Prop) (s : AVal) (f : AVal) (h : Heap) : Prop :=
  lenN s fun n =>
  s61l1_E (s61l1 Ψ) s f n 0 h

def s61_A (Ψ : AVal → Heap → Prop) : Ann :=
  .seq (rA 1)
  (.seq (.seq (rA 3)
  (.block (.loop [(0, .any), (1, .any), (7, .int .i64), (8, .int .i64)] (fun n l h => s61l1_R (s61l1 Ψ n) l h) (fun L1 =>
  .seq (rA 1)
  (.seq (.cond (.leaf)
  (.leaf))
  (.seq (.block (.seq (rA 2)
  (.seq (rA 6)
  (.cond (.seq (rA 2)
  (.leaf))
  (.leaf)))))
  (rA 2)))))))
  (.seq (rA 1)
  (.leaf)))

theorem s61_ok {Ψ : AVal → Heap → Prop} {s : AVal} {f : AVal} {h : Heap} (H : s61 Ψ s f h) : ACalls prog 61 [s, f] h Ψ :=
  calls_of_evF func61 (by kernel_rfl) (by kernel_rfl) (by kernel_rfl)
    (Eq.mpr (by as_aux_lemma => kernel_rfl : oblF prog f61 (s61_A Ψ) Ψ = (True ∧ (True ∧ (∀ (h : Heap) (x0 x1 : AVal) (x2 x3 : Int), ON (s61l1 Ψ 0 x0 x1 x2 x3 h)) ∧ ∀ n1 : Nat, (∀ (h : Heap) (x0 x1 : AVal) (x2 x3 : Int), OI (s61l1 Ψ (n1 + 1) x0 x1 x2 x3 h)) ∧ (True ∧ (True ∧ True) ∧ (True ∧ True ∧ (True ∧ True) ∧ True) ∧ True)) ∧ True ∧ True)) ⟨trivial, ⟨⟨trivial, ⟨fun _ _ _ _ _ H => H, fun _ => ⟨fun _ _ _ _ _ H => H, ⟨trivial, ⟨⟨trivial, trivial⟩, ⟨⟨trivial, ⟨trivial, ⟨⟨trivial, trivial⟩, trivial⟩⟩⟩, trivial⟩⟩⟩⟩⟩⟩, ⟨trivial, trivial⟩⟩⟩)
    (Eq.mpr (by as_aux_lemma => kernel_rfl : evF prog f61 (s61_A Ψ) Ψ [s, f] h = s61 Ψ s f h) H)

/- 65 dictum/worlds.reckon -/
abbrev s65l1_T := AVal → Int → AVal → Int → Int → Heap → Prop
def s65l1_R (F : s65l1_T) (l : List AVal) (h : Heap) : Prop := J.cons l fun x0 l => J.cons l fun v l => J.int .i64 v fun x1 => J.cons l fun x2 l => J.cons l fun v l => J.int .i64 v fun x3 => J.cons l fun v l => J.int .i64 v fun x4 => J.nil l (F x0 x1 x2 x3 x4 h)
def s65l1_G (F : s65l1_T) (x0 : AVal) (x1 : Int) (x2 : AVal) (x3 x4 : Int) (h : Heap) : Prop := gJ [.any, .int .i64, .any, .int .i64, .int .i64] [x0, (.int .i64 x1), x2, (.int .i64 x3), (.int .i64 x4)] h (s65l1_R F)
def s65l1_E (F : Nat → s65l1_T) (x0 : AVal) (x1 : Int) (x2 : AVal) (x3 x4 : Int) (h : Heap) : Prop := gJ [.any, .int .i64, .any, .int .i64, .int .i64] [x0, (.int .i64 x1), x2, (.int .i64 x3), (.int .i64 x4)] h (fun l h => ∃ n, s65l1_R (F n) l h)
theorem s65l1_go {F : s65l1_T} {x0 : AVal} {x1 : Int} {x2 : AVal} {x3 x4 : Int} {h : Heap} (H : F x0 x1 x2 x3 x4 h) : s65l1_G F x0 x1 x2 x3 x4 h := gJ_plain rfl H
theorem s65l1_in {F : Nat → s65l1_T} {x0 : AVal} {x1 : Int} {x2 : AVal} {x3 x4 : Int} {h : Heap} (n : Nat) (H : F n x0 x1 x2 x3 x4 h) : s65l1_E F x0 x1 x2 x3 x4 h := gJ_plain rfl ⟨n, H⟩

abbrev s65l2_T := AVal → Int → AVal → AVal → AVal → Int → Int → Heap → Prop
def s65l2_R (F : s65l2_T) (l : List AVal) (h : Heap) : Prop := J.cons l fun x0 l => J.cons l fun v l => J.int .i64 v fun x1 => J.cons l fun x2 l => J.cons l fun x3 l => J.cons l fun x4 l => J.cons l fun v l => J.int .i64 v fun x5 => J.cons l fun v l => J.int .i64 v fun x6 => J.nil l (F x0 x1 x2 x3 x4 x5 x6 h)
def s65l2_G (F : s65l2_T) (x0 : AVal) (x1 : Int) (x2 x3 x4 : AVal) (x5 x6 : Int) (h : Heap) : Prop := gJ [.any, .int .i64, .any, .any, .any, .int .i64, .int .i64] [x0, (.int .i64 x1), x2, x3, x4, (.int .i64 x5), (.int .i64 x6)] h (s65l2_R F)
def s65l2_E (F : Nat → s65l2_T) (x0 : AVal) (x1 : Int) (x2 x3 x4 : AVal) (x5 x6 : Int) (h : Heap) : Prop := gJ [.any, .int .i64, .any, .any, .any, .int .i64, .int .i64] [x0, (.int .i64 x1), x2, x3, x4, (.int .i64 x5), (.int .i64 x6)] h (fun l h => ∃ n, s65l2_R (F n) l h)
theorem s65l2_go {F : s65l2_T} {x0 : AVal} {x1 : Int} {x2 x3 x4 : AVal} {x5 x6 : Int} {h : Heap} (H : F x0 x1 x2 x3 x4 x5 x6 h) : s65l2_G F x0 x1 x2 x3 x4 x5 x6 h := gJ_plain rfl H
theorem s65l2_in {F : Nat → s65l2_T} {x0 : AVal} {x1 : Int} {x2 x3 x4 : AVal} {x5 x6 : Int} {h : Heap} (n : Nat) (H : F n x0 x1 x2 x3 x4 x5 x6 h) : s65l2_E F x0 x1 x2 x3 x4 x5 x6 h := gJ_plain rfl ⟨n, H⟩

abbrev s65l3_T := AVal → Int → AVal → AVal → AVal → Int → Int → AVal → Int → Int → Heap → Prop
def s65l3_R (F : s65l3_T) (l : List AVal) (h : Heap) : Prop := J.cons l fun x0 l => J.cons l fun v l => J.int .i64 v fun x1 => J.cons l fun x2 l => J.cons l fun x3 l => J.cons l fun x4 l => J.cons l fun v l => J.int .i64 v fun x5 => J.cons l fun v l => J.int .i64 v fun x6 => J.cons l fun x7 l => J.cons l fun v l => J.int .i64 v fun x8 => J.cons l fun v l => J.int .i64 v fun x9 => J.nil l (F x0 x1 x2 x3 x4 x5 x6 x7 x8 x9 h)
def s65l3_G (F : s65l3_T) (x0 : AVal) (x1 : Int) (x2 x3 x4 : AVal) (x5 x6 : Int) (x7 : AVal) (x8 x9 : Int) (h : Heap) : Prop := gJ [.any, .int .i64, .any, .any, .any, .int .i64, .int .i64, .any, .int .i64, .int .i64] [x0, (.int .i64 x1), x2, x3, x4, (.int .i64 x5), (.int .i64 x6), x7, (.int .i64 x8), (.int .i64 x9)] h (s65l3_R F)
def s65l3_E (F : Nat → s65l3_T) (x0 : AVal) (x1 : Int) (x2 x3 x4 : AVal) (x5 x6 : Int) (x7 : AVal) (x8 x9 : Int) (h : Heap) : Prop := gJ [.any, .int .i64, .any, .any, .any, .int .i64, .int .i64, .any, .int .i64, .int .i64] [x0, (.int .i64 x1), x2, x3, x4, (.int .i64 x5), (.int .i64 x6), x7, (.int .i64 x8), (.int .i64 x9)] h (fun l h => ∃ n, s65l3_R (F n) l h)
theorem s65l3_go {F : s65l3_T} {x0 : AVal} {x1 : Int} {x2 x3 x4 : AVal} {x5 x6 : Int} {x7 : AVal} {x8 x9 : Int} {h : Heap} (H : F x0 x1 x2 x3 x4 x5 x6 x7 x8 x9 h) : s65l3_G F x0 x1 x2 x3 x4 x5 x6 x7 x8 x9 h := gJ_plain rfl H
theorem s65l3_in {F : Nat → s65l3_T} {x0 : AVal} {x1 : Int} {x2 x3 x4 : AVal} {x5 x6 : Int} {x7 : AVal} {x8 x9 : Int} {h : Heap} (n : Nat) (H : F n x0 x1 x2 x3 x4 x5 x6 x7 x8 x9 h) : s65l3_E F x0 x1 x2 x3 x4 x5 x6 x7 x8 x9 h := gJ_plain rfl ⟨n, H⟩

def s65c4 (Ψ : AVal → Heap → Prop) (L1 : s65l1_T) (L2 : s65l2_T) (L3 : s65l3_T) (m3 : AVal) (n12 : Int) (above3 row2 stack2 : AVal) (t18_3 t19_3 : Int) (t51_1 : AVal) (t52_1 t53_1 : Int) (h : Heap) : Prop :=
  rg (t53_1 + 1) (
    L3 m3 n12 above3 row2 stack2 t18_3 t19_3 t51_1 t52_1 (t53_1 + 1) h)

def s65c5 (Ψ : AVal → Heap → Prop) (L1 : s65l1_T) (L2 : s65l2_T) (L3 : s65l3_T) (m4 : AVal) (n13 : Int) (above4 row3 stack3 : AVal) (b t18_4 t19_4 : Int) (t51_2 : AVal) (t52_2 t53_2 : Int) (t63 : Bool) (h : Heap) : Prop :=
  ifT t63 (
    retG (.tuple [.nilfunc, (.bool false)]) h Ψ) (
    ixS 1 row3 b fun p6 =>
    ld1 h p6 fun v11 =>
    tBool v11 fun v12 =>
    ifT (!v12) (
      ixS 1 row3 b fun p7 =>
      st true h p7 [(.bool true)] fun h_7 =>
      appC 1 8 h_7 stack3 (.lsl 1 [(.int .i64 b)]) fun v13 h_8 =>
      s65c4 Ψ L1 L2 L3 m4 n13 above4 row3 v13 t18_4 t19_4 t51_2 t52_2 t53_2 h_8) (
      s65c4 Ψ L1 L2 L3 m4 n13 above4 row3 stack3 t18_4 t19_4 t51_2 t52_2 t53_2 h))

def s65l3 (Ψ : AVal → Heap → Prop) (L1 : s65l1_T) (L2 : s65l2_T) : Nat → s65l3_T
  | 0, _, _, _, _, _, _, _, _, _, _, _ => False
  | n11 + 1, m2, n10, above2, row1, stack1, t18_2, t19_2, t51, t52, t53, h =>
    ifT (decide (t53 < t52)) (
      ixS 1 t51 t53 fun p5 =>
      ld1 h p5 fun v9 =>
      tInt .i64 v9 fun v10 =>
      ifT (decide (v10 < 0)) (
        s65c5 Ψ L1 L2 (s65l3_G (s65l3 Ψ L1 L2 n11)) m2 n10 above2 row1 stack1 v10 t18_2 t19_2 t51 t52 t53 true h) (
        s65c5 Ψ L1 L2 (s65l3_G (s65l3 Ψ L1 L2 n11)) m2 n10 above2 row1 stack1 v10 t18_2 t19_2 t51 t52 t53 (decide (n10 ≤ v10)) h)) (
      L2 m2 n10 above2 row1 stack1 t18_2 t19_2 h)

def s65l2 (Ψ : AVal → Heap → Prop) (L1 : s65l1_T) : Nat → s65l2_T
  | 0, _, _, _, _, _, _, _, _ => False
  | n5 + 1, m1, n4, above1, row, stack, t18_1, t19_1, h =>
    lenN stack fun n6 =>
    ifT (decide (0 < n6)) (
      lenN stack fun n7 =>
      rg (n7 - 1) (
        ixS 1 stack (n7 - 1) fun p2 =>
        ld1 h p2 fun v4 =>
        tInt .i64 v4 fun v5 =>
        lenN stack fun n8 =>
        rg (n8 - 1) (
          slX 1 stack 0 (some (n8 - 1)) fun v6 =>
          addOff m1 0 fun p3 =>
          ld1 h p3 fun v7 =>
          ixS 1 v7 v5 fun p4 =>
          ld1 h p4 fun v8 =>
          lenN v8 fun n9 =>
          s65l3_E (s65l3 Ψ L1 (s65l2_G (s65l2 Ψ L1 n5))) m1 n4 above1 row v6 t18_1 t19_1 v8 n9 0 h))) (
      rg (t19_1 + 1) (
        L1 m1 n4 above1 t18_1 (t19_1 + 1) h))

def s65l1 (Ψ : AVal → Heap → Prop) : Nat → s65l1_T
  | 0, _, _, _, _, _, _ => False
  | n3 + 1, m, n2, above, t18, t19, h =>
    ifT (decide (t19 < t18)) (
      mkS false 1 1 (.bool false) h n2 n2 fun v2 h_3 =>
      ld1 h_3 above fun v3 =>
      ixS 1 v3 t19 fun p =>
      chk (sc v2) (
        st true h_3 p [v2] fun h_4 =>
        ixS 1 v2 t19 fun p1 =>
        st true h_4 p1 [(.bool true)] fun h_5 =>
        Sym.newRow 1 [(.int .i64 t19)] h_5 fun r1 h_6 =>
        s65l2_E (s65l2 Ψ (s65l1_G (s65l1 Ψ n3))) m n2 above v2 (.sl r1 1 0 1) t18 t19 h_6)) (
      retG (.tuple [(.func (.func 80) [] [above]), (.bool true)]) h Ψ)

def s65 (Ψ : AVal → Heap → Prop) (m_Up : AVal) (m_Val : AVal) (h : Heap) : Prop :=
  lenN m_Up fun n =>
  mkS false 1 24 .nilsl h n n fun v h_ =>
  Sym.newRow 1 [.nilsl] h_ fun r h_1 =>
  chk (sc v) (
    st true h_1 (.ptr r 0 0) [v] fun h_2 =>
    ld1 h_2 (.ptr r 0 0) fun v1 =>
    lenN v1 fun n1 =>
    s65l1_E (s65l1 Ψ) (.lptr [m_Up, m_Val]) n (.ptr r 0 0) n1 0 h_2)

def s65_A (Ψ : AVal → Heap → Prop) : Ann :=
  .seq (.reg [⟨none, [(0, true), (1, false), (2, false)]⟩])
  (.seq (rA 4)
  (.seq (rA 4)
  (.seq (.seq (rA 3)
  (.block (.loop [(1, .any), (4, .int .i64), (5, .any), (18, .int .i64), (19, .int .i64)] (fun n l h => s65l1_R (s65l1 Ψ n) l h) (fun L1 =>
  .seq (rA 1)
  (.seq (.cond (.leaf)
  (.leaf))
  (.seq (.block (.seq (rA 2)
  (.seq (rA 3)
  (.seq (rA 5)
  (.seq (rA 4)
  (.seq (rA 3)
  (.block (.loop [(1, .any), (4, .int .i64), (5, .any), (7, .any), (8, .any), (18, .int .i64), (19, .int .i64)] (fun n l h => s65l2_R (s65l2 Ψ (fun y0 y1 y2 y3 y4 h => L1 [y0, (.int .i64 y1), y2, (.int .i64 y3), (.int .i64 y4)] h) n) l h) (fun L2 =>
  .seq (.seq (rA 3)
  (.cond (.leaf)
  (.leaf)))
  (.block (.seq (rA 7)
  (.seq (rA 6)
  (.seq (rA 7)
  (.block (.loop [(1, .any), (4, .int .i64), (5, .any), (7, .any), (8, .any), (18, .int .i64), (19, .int .i64), (51, .any), (52, .int .i64), (53, .int .i64)] (fun n l h => s65l3_R (s65l3 Ψ (fun y0 y1 y2 y3 y4 h => L1 [y0, (.int .i64 y1), y2, (.int .i64 y3), (.int .i64 y4)] h) (fun y0 y1 y2 y3 y4 y5 y6 h => L2 [y0, (.int .i64 y1), y2, y3, y4, (.int .i64 y5), (.int .i64 y6)] h) n) l h) (fun L3 =>
  .seq (rA 1)
  (.seq (.cond (.leaf)
  (.leaf))
  (.cut [(1, .any), (4, .int .i64), (5, .any), (7, .any), (8, .any), (18, .int .i64), (19, .int .i64), (51, .any), (52, .int .i64), (53, .int .i64)] (fun l h => J.cons l fun x0 l => J.cons l fun v l => J.int .i64 v fun x1 => J.cons l fun x2 l => J.cons l fun x3 l => J.cons l fun x4 l => J.cons l fun v l => J.int .i64 v fun x5 => J.cons l fun v l => J.int .i64 v fun x6 => J.cons l fun x7 l => J.cons l fun v l => J.int .i64 v fun x8 => J.cons l fun v l => J.int .i64 v fun x9 => J.nil l (s65c4 Ψ (fun y0 y1 y2 y3 y4 h => L1 [y0, (.int .i64 y1), y2, (.int .i64 y3), (.int .i64 y4)] h) (fun y0 y1 y2 y3 y4 y5 y6 h => L2 [y0, (.int .i64 y1), y2, y3, y4, (.int .i64 y5), (.int .i64 y6)] h) (fun y0 y1 y2 y3 y4 y5 y6 y7 y8 y9 h => L3 [y0, (.int .i64 y1), y2, y3, y4, (.int .i64 y5), (.int .i64 y6), y7, (.int .i64 y8), (.int .i64 y9)] h) x0 x1 x2 x3 x4 x5 x6 x7 x8 x9 h)) (.block (.seq (rA 3)
  (.seq (.cut [(1, .any), (4, .int .i64), (5, .any), (7, .any), (8, .any), (11, .int .i64), (18, .int .i64), (19, .int .i64), (51, .any), (52, .int .i64), (53, .int .i64), (63, .bool)] (fun l h => J.cons l fun x0 l => J.cons l fun v l => J.int .i64 v fun x1 => J.cons l fun x2 l => J.cons l fun x3 l => J.cons l fun x4 l => J.cons l fun v l => J.int .i64 v fun x5 => J.cons l fun v l => J.int .i64 v fun x6 => J.cons l fun v l => J.int .i64 v fun x7 => J.cons l fun x8 l => J.cons l fun v l => J.int .i64 v fun x9 => J.cons l fun v l => J.int .i64 v fun x10 => J.cons l fun v l => J.bool v fun x11 => J.nil l (s65c5 Ψ (fun y0 y1 y2 y3 y4 h => L1 [y0, (.int .i64 y1), y2, (.int .i64 y3), (.int .i64 y4)] h) (fun y0 y1 y2 y3 y4 y5 y6 h => L2 [y0, (.int .i64 y1), y2, y3, y4, (.int .i64 y5), (.int .i64 y6)] h) (fun y0 y1 y2 y3 y4 y5 y6 y7 y8 y9 h => L3 [y0, (.int .i64 y1), y2, y3, y4, (.int .i64 y5), (.int .i64 y6), y7, (.int .i64 y8), (.int .i64 y9)] h) x0 x1 x2 x3 x4 x5 x6 x7 x8 x9 x10 x11 h)) (.reg [⟨none, [(0, false), (1, false), (2, false)]⟩, ⟨some (59, false), [(3, false), (4, false), (5, false)]⟩, ⟨none, [(6, false)]⟩])
  (.cond (.seq (rA 2)
  (.leaf))
  (.leaf)))
  (.seq (rA 5)
  (.cond (.seq (rA 4)
  (.reg [⟨none, [(0, false), (1, false), (2, true), (3, false), (4, false)]⟩]))
  (.leaf))))))
  (rA 2)))))))))))))))))))
  (rA 2)))))))
  (.seq (rA 3)
  (.leaf)))))

theorem s65_ok {Ψ : AVal → Heap → Prop} {m_Up : AVal} {m_Val : AVal} {h : Heap} (H : s65 Ψ m_Up m_Val h) : ACalls prog 65 [(.agg [m_Up, m_Val])] h Ψ :=
  calls_of_evF func65 (by kernel_rfl) (by kernel_rfl) (by kernel_rfl)
    (Eq.mpr (by as_aux_lemma => kernel_rfl : oblF prog f65 (s65_A Ψ) Ψ = (True ∧ True ∧ True ∧ (True ∧ (∀ (h : Heap) (x0 : AVal) (x1 : Int) (x2 : AVal) (x3 x4 : Int), ON (s65l1 Ψ 0 x0 x1 x2 x3 x4 h)) ∧ ∀ n1 : Nat, (∀ (h : Heap) (x0 : AVal) (x1 : Int) (x2 : AVal) (x3 x4 : Int), OI (s65l1 Ψ (n1 + 1) x0 x1 x2 x3 x4 h)) ∧ (True ∧ (True ∧ True) ∧ (True ∧ True ∧ True ∧ True ∧ True ∧ (∀ (h : Heap) (x0 : AVal) (x1 : Int) (x2 x3 x4 : AVal) (x5 x6 : Int), ON (s65l2 Ψ (s65l1_G (s65l1 Ψ n1)) 0 x0 x1 x2 x3 x4 x5 x6 h)) ∧ ∀ n2 : Nat, (∀ (h : Heap) (x0 : AVal) (x1 : Int) (x2 x3 x4 : AVal) (x5 x6 : Int), OI (s65l2 Ψ (s65l1_G (s65l1 Ψ n1)) (n2 + 1) x0 x1 x2 x3 x4 x5 x6 h)) ∧ ((True ∧ True ∧ True) ∧ True ∧ True ∧ True ∧ (∀ (h : Heap) (x0 : AVal) (x1 : Int) (x2 x3 x4 : AVal) (x5 x6 : Int) (x7 : AVal) (x8 x9 : Int), ON (s65l3 Ψ (s65l1_G (s65l1 Ψ n1)) (s65l2_G (s65l2 Ψ (s65l1_G (s65l1 Ψ n1)) n2)) 0 x0 x1 x2 x3 x4 x5 x6 x7 x8 x9 h)) ∧ ∀ n3 : Nat, (∀ (h : Heap) (x0 : AVal) (x1 : Int) (x2 x3 x4 : AVal) (x5 x6 : Int) (x7 : AVal) (x8 x9 : Int), OI (s65l3 Ψ (s65l1_G (s65l1 Ψ n1)) (s65l2_G (s65l2 Ψ (s65l1_G (s65l1 Ψ n1)) n2)) (n3 + 1) x0 x1 x2 x3 x4 x5 x6 x7 x8 x9 h)) ∧ (True ∧ (True ∧ True) ∧ (True ∧ ((True) ∧ (∀ (h : Heap) (x0 : AVal) (x1 : Int) (x2 x3 x4 : AVal) (x5 x6 x7 : Int) (x8 : AVal) (x9 x10 : Int) (x11 : Bool), OI (s65c5 Ψ (s65l1_G (s65l1 Ψ n1)) (s65l2_G (s65l2 Ψ (s65l1_G (s65l1 Ψ n1)) n2)) (s65l3_G (s65l3 Ψ (s65l1_G (s65l1 Ψ n1)) (s65l2_G (s65l2 Ψ (s65l1_G (s65l1 Ψ n1)) n2)) n3)) x0 x1 x2 x3 x4 x5 x6 x7 x8 x9 x10 x11 h)) ∧ ((True ∧ True) ∧ True)) ∧ True ∧ (True ∧ True) ∧ True) ∧ (∀ (h : Heap) (x0 : AVal) (x1 : Int) (x2 x3 x4 : AVal) (x5 x6 : Int) (x7 : AVal) (x8 x9 : Int), OI (s65c4 Ψ (s65l1_G (s65l1 Ψ n1)) (s65l2_G (s65l2 Ψ (s65l1_G (s65l1 Ψ n1)) n2)) (s65l3_G (s65l3 Ψ (s65l1_G (s65l1 Ψ n1)) (s65l2_G (s65l2 Ψ (s65l1_G (s65l1 Ψ n1)) n2)) n3)) x0 x1 x2 x3 x4 x5 x6 x7 x8 x9 h)) ∧ (True)))) ∧ True)) ∧ True ∧ True)) ⟨trivial, ⟨trivial, ⟨trivial, ⟨⟨trivial, ⟨fun _ _ _ _ _ _ H => H, fun _ => ⟨fun _ _ _ _ _ _ H => H, ⟨trivial, ⟨⟨trivial, trivial⟩, ⟨⟨trivial, ⟨trivial, ⟨trivial, ⟨trivial, ⟨trivial, ⟨fun _ _ _ _ _ _ _ _ H => H, fun _ => ⟨fun _ _ _ _ _ _ _ _ H => H, ⟨⟨trivial, ⟨trivial, trivial⟩⟩, ⟨trivial, ⟨trivial, ⟨trivial, ⟨fun _ _ _ _ _ _ _ _ _ _ _ H => H, fun _ => ⟨fun _ _ _ _ _ _ _ _ _ _ _ H => H, ⟨trivial, ⟨⟨trivial, trivial⟩, ⟨⟨trivial, ⟨⟨trivial, fun _ _ _ _ _ _ _ _ _ _ _ _ _ H => H, ⟨⟨trivial, trivial⟩, trivial⟩⟩, ⟨trivial, ⟨⟨trivial, trivial⟩, trivial⟩⟩⟩⟩, fun _ _ _ _ _ _ _ _ _ _ _ H => H, trivial⟩⟩⟩⟩⟩⟩⟩⟩⟩⟩⟩⟩⟩⟩⟩⟩, trivial⟩⟩⟩⟩⟩⟩, ⟨trivial, trivial⟩⟩⟩⟩⟩)
    (Eq.mpr (by as_aux_lemma => kernel_rfl : evF prog f65 (s65_A Ψ) Ψ [(.agg [m_Up, m_Val])] h = s65 Ψ m_Up m_Val h) H)

/- 67 slices.ContainsFunc[[]string,string] -/
def s67 (Ψ : AVal → Heap → Prop) (s : AVal) (f : AVal) (h : Heap) : Prop :=
  callG prog 82 [s, f] h fun v h_ =>
  tInt .i64 v fun v1 =>
  retG (.bool (decide (0 ≤ v1))) h_ Ψ

def s67_A (Ψ : AVal → Heap → Prop) : Ann :=
  .seq (rA 1)
  (.seq (rA 5)
  (.leaf))

theorem s67_ok {Ψ : AVal → Heap → Prop} {s : AVal} {f : AVal} {h : Heap} (H : s67 Ψ s f h) : ACalls prog 67 [s, f] h Ψ :=
  calls_of_evF func67 (by kernel_rfl) (by kernel_rfl) (by kernel_rfl)
    (Eq.mpr (by as_aux_lemma => kernel_rfl : oblF prog f67 (s67_A Ψ) Ψ = (True ∧ True ∧ True)) ⟨trivial, ⟨trivial, trivial⟩⟩)
    (Eq.mpr (by as_aux_lemma => kernel_rfl : evF prog f67 (s67_A Ψ) Ψ [s, f] h = s67 Ψ s f h) H)

/- 69 slices.Contains[[]string,string] -/
def s69 (Ψ : AVal → Heap → Prop) (s : AVal) (v : ByteArray) (h : Heap) : Prop :=
  callG prog 83 [s, (.str v)] h fun v1 h_ =>
  tInt .i64 v1 fun v2 =>
  retG (.bool (decide (0 ≤ v2))) h_ Ψ

def s69_A (Ψ : AVal → Heap → Prop) : Ann :=
  .seq (rA 1)
  (.seq (rA 5)
  (.leaf))

theorem s69_ok {Ψ : AVal → Heap → Prop} {s : AVal} {v : ByteArray} {h : Heap} (H : s69 Ψ s v h) : ACalls prog 69 [s, (.str v)] h Ψ :=
  calls_of_evF func69 (by kernel_rfl) (by kernel_rfl) (by kernel_rfl)
    (Eq.mpr (by as_aux_lemma => kernel_rfl : oblF prog f69 (s69_A Ψ) Ψ = (True ∧ True ∧ True)) ⟨trivial, ⟨trivial, trivial⟩⟩)
    (Eq.mpr (by as_aux_lemma => kernel_rfl : evF prog f69 (s69_A Ψ) Ψ [s, (.str v)] h = s69 Ψ s v h) H)

/- 81 dictum/formula.Word -/
abbrev s81l1_T := ByteArray → Int → Int → Heap → Prop
def s81l1_R (F : s81l1_T) (l : List AVal) (h : Heap) : Prop := J.cons l fun v l => J.str v fun x0 => J.cons l fun v l => J.int .i64 v fun x1 => J.cons l fun v l => J.int .i64 v fun x2 => J.nil l (F x0 x1 x2 h)
def s81l1_G (F : s81l1_T) (x0 : ByteArray) (x1 x2 : Int) (h : Heap) : Prop := gJ [.str, .int .i64, .int .i64] [(.str x0), (.int .i64 x1), (.int .i64 x2)] h (s81l1_R F)
def s81l1_E (F : Nat → s81l1_T) (x0 : ByteArray) (x1 x2 : Int) (h : Heap) : Prop := gJ [.str, .int .i64, .int .i64] [(.str x0), (.int .i64 x1), (.int .i64 x2)] h (fun l h => ∃ n, s81l1_R (F n) l h)
theorem s81l1_go {F : s81l1_T} {x0 : ByteArray} {x1 x2 : Int} {h : Heap} (H : F x0 x1 x2 h) : s81l1_G F x0 x1 x2 h := gJ_plain rfl H
theorem s81l1_in {F : Nat → s81l1_T} {x0 : ByteArray} {x1 x2 : Int} {h : Heap} (n : Nat) (H : F n x0 x1 x2 h) : s81l1_E F x0 x1 x2 h := gJ_plain rfl ⟨n, H⟩

def s81c3 (Ψ : AVal → Heap → Prop) (L1 : s81l1_T) (name3 : ByteArray) (t8_2 t9_2 : Int) (t44 : Bool) (h : Heap) : Prop :=
  ifT t44 (
    retG (.bool false) h Ψ) (
    rg (t9_2 + 1) (
      L1 name3 t8_2 (t9_2 + 1) h))

def s81c2 (Ψ : AVal → Heap → Prop) (L1 : s81l1_T) (name2 : ByteArray) (i c : Int) (letter : Bool) (t8_1 t9_1 : Int) (h : Heap) : Prop :=
  ifT (!letter) (
    ifT (i == 0) (
      s81c3 Ψ L1 name2 t8_1 t9_1 true h) (
      ifT (c != 95) (
        ifT (c != 39) (
          ifT (decide (c < 48)) (
            s81c3 Ψ L1 name2 t8_1 t9_1 true h) (
            s81c3 Ψ L1 name2 t8_1 t9_1 (decide (57 < c)) h)) (
          s81c3 Ψ L1 name2 t8_1 t9_1 false h)) (
        s81c3 Ψ L1 name2 t8_1 t9_1 false h))) (
    s81c3 Ψ L1 name2 t8_1 t9_1 false h)

def s81l1 (Ψ : AVal → Heap → Prop) : Nat → s81l1_T
  | 0, _, _, _, _ => False
  | n + 1, name1, t8, t9, h =>
    ifT (decide (t9 < t8)) (
      ((0 : Int) ≤ t9 ∧ t9 < (name1.size : Int)) ∧
      ifT (decide (97 ≤ (bitsI .or .u8 (btA name1 t9) 32))) (
        s81c2 Ψ (s81l1_G (s81l1 Ψ n)) name1 t9 (btA name1 t9) (decide ((bitsI .or .u8 (btA name1 t9) 32) ≤ 122)) t8 t9 h) (
        s81c2 Ψ (s81l1_G (s81l1 Ψ n)) name1 t9 (btA name1 t9) false t8 t9 h)) (
      ifT (!strEq name1 (ByteArray.mk #[])) (
        ifT (decide ((name1.size : Int) ≤ 31)) (
          callG prog 89 [(.str name1)] h fun v h_ =>
          tBool v fun v1 =>
          retG (.bool (!v1)) h_ Ψ) (
          retG (.bool false) h Ψ)) (
        retG (.bool false) h Ψ))

def s81 (Ψ : AVal → Heap → Prop) (name : ByteArray) (h : Heap) : Prop :=
  s81l1_E (s81l1 Ψ) name (name.size : Int) 0 h

def s81_A (Ψ : AVal → Heap → Prop) : Ann :=
  .seq (rA 1)
  (.seq (.seq (rA 3)
  (.block (.loop [(0, .str), (8, .int .i64), (9, .int .i64)] (fun n l h => s81l1_R (s81l1 Ψ n) l h) (fun L1 =>
  .seq (rA 1)
  (.seq (.cond (.leaf)
  (.leaf))
  (.seq (.block (.seq (rA 2)
  (.seq (rA 4)
  (.seq (rA 3)
  (.cut [(0, .str), (3, .int .i64), (4, .int .u8), (6, .bool), (8, .int .i64), (9, .int .i64)] (fun l h => J.cons l fun v l => J.str v fun x0 => J.cons l fun v l => J.int .i64 v fun x1 => J.cons l fun v l => J.int .u8 v fun x2 => J.cons l fun v l => J.bool v fun x3 => J.cons l fun v l => J.int .i64 v fun x4 => J.cons l fun v l => J.int .i64 v fun x5 => J.nil l (s81c2 Ψ (fun y0 y1 y2 h => L1 [(.str y0), (.int .i64 y1), (.int .i64 y2)] h) x0 x1 x2 x3 x4 x5 h)) (.reg [⟨none, [(0, false), (1, false), (2, false)]⟩, ⟨some (19, true), [(3, false), (4, false)]⟩, ⟨none, [(5, false), (6, false)]⟩])
  (.cut [(0, .str), (8, .int .i64), (9, .int .i64), (44, .bool)] (fun l h => J.cons l fun v l => J.str v fun x0 => J.cons l fun v l => J.int .i64 v fun x1 => J.cons l fun v l => J.int .i64 v fun x2 => J.cons l fun v l => J.bool v fun x3 => J.nil l (s81c3 Ψ (fun y0 y1 y2 h => L1 [(.str y0), (.int .i64 y1), (.int .i64 y2)] h) x0 x1 x2 x3 h)) (.reg [⟨none, [(0, false), (1, false), (2, false)]⟩, ⟨some (25, true), [(3, false), (4, false), (5, false)]⟩, ⟨some (28, false), [(6, false), (7, false), (8, false)]⟩, ⟨some (31, true), [(9, false), (10, false)]⟩, ⟨some (28, false), [(11, false), (12, false)]⟩, ⟨some (35, true), [(13, false), (14, false), (15, false)]⟩, ⟨some (38, false), [(16, false), (17, false)]⟩, ⟨some (35, true), [(18, false)]⟩, ⟨some (28, false), [(19, false)]⟩, ⟨some (25, true), [(20, false)]⟩, ⟨none, [(21, false)]⟩])
  (.cond (.seq (rA 1)
  (.leaf))
  (.leaf))))))))
  (rA 2)))))))
  (.seq (.reg [⟨none, [(0, false), (1, false), (2, false)]⟩, ⟨some (48, true), [(3, false), (4, false), (5, false)]⟩, ⟨none, [(6, false), (7, false)]⟩, ⟨some (53, true), [(8, false), (9, false), (10, false)]⟩, ⟨none, [(11, false), (12, false)]⟩])
  (.leaf)))

theorem s81_ok {Ψ : AVal → Heap → Prop} {name : ByteArray} {h : Heap} (H : s81 Ψ name h) : ACalls prog 81 [(.str name)] h Ψ :=
  calls_of_evF func81 (by kernel_rfl) (by kernel_rfl) (by kernel_rfl)
    (Eq.mpr (by as_aux_lemma => kernel_rfl : oblF prog f81 (s81_A Ψ) Ψ = (True ∧ (True ∧ (∀ (h : Heap) (x0 : ByteArray) (x1 x2 : Int), ON (s81l1 Ψ 0 x0 x1 x2 h)) ∧ ∀ n1 : Nat, (∀ (h : Heap) (x0 : ByteArray) (x1 x2 : Int), OI (s81l1 Ψ (n1 + 1) x0 x1 x2 h)) ∧ (True ∧ (True ∧ True) ∧ (True ∧ True ∧ True ∧ (True) ∧ (∀ (h : Heap) (x0 : ByteArray) (x1 x2 : Int) (x3 : Bool) (x4 x5 : Int), OI (s81c2 Ψ (s81l1_G (s81l1 Ψ n1)) x0 x1 x2 x3 x4 x5 h)) ∧ ((True) ∧ (∀ (h : Heap) (x0 : ByteArray) (x1 x2 : Int) (x3 : Bool), OI (s81c3 Ψ (s81l1_G (s81l1 Ψ n1)) x0 x1 x2 x3 h)) ∧ ((True ∧ True) ∧ True))) ∧ True)) ∧ True ∧ True)) ⟨trivial, ⟨⟨trivial, ⟨fun _ _ _ _ H => H, fun _ => ⟨fun _ _ _ _ H => H, ⟨trivial, ⟨⟨trivial, trivial⟩, ⟨⟨trivial, ⟨trivial, ⟨trivial, ⟨trivial, fun _ _ _ _ _ _ _ H => H, ⟨trivial, fun _ _ _ _ _ H => H, ⟨⟨trivial, trivial⟩, trivial⟩⟩⟩⟩⟩⟩, trivial⟩⟩⟩⟩⟩⟩, ⟨trivial, trivial⟩⟩⟩)
    (Eq.mpr (by as_aux_lemma => kernel_rfl : evF prog f81 (s81_A Ψ) Ψ [(.str name)] h = s81 Ψ name h) H)

/- 83 slices.Index[[]string,string] -/
abbrev s83l1_T := AVal → ByteArray → Int → Int → Heap → Prop
def s83l1_R (F : s83l1_T) (l : List AVal) (h : Heap) : Prop := J.cons l fun x0 l => J.cons l fun v l => J.str v fun x1 => J.cons l fun v l => J.int .i64 v fun x2 => J.cons l fun v l => J.int .i64 v fun x3 => J.nil l (F x0 x1 x2 x3 h)
def s83l1_G (F : s83l1_T) (x0 : AVal) (x1 : ByteArray) (x2 x3 : Int) (h : Heap) : Prop := gJ [.any, .str, .int .i64, .int .i64] [x0, (.str x1), (.int .i64 x2), (.int .i64 x3)] h (s83l1_R F)
def s83l1_E (F : Nat → s83l1_T) (x0 : AVal) (x1 : ByteArray) (x2 x3 : Int) (h : Heap) : Prop := gJ [.any, .str, .int .i64, .int .i64] [x0, (.str x1), (.int .i64 x2), (.int .i64 x3)] h (fun l h => ∃ n, s83l1_R (F n) l h)
theorem s83l1_go {F : s83l1_T} {x0 : AVal} {x1 : ByteArray} {x2 x3 : Int} {h : Heap} (H : F x0 x1 x2 x3 h) : s83l1_G F x0 x1 x2 x3 h := gJ_plain rfl H
theorem s83l1_in {F : Nat → s83l1_T} {x0 : AVal} {x1 : ByteArray} {x2 x3 : Int} {h : Heap} (n : Nat) (H : F n x0 x1 x2 x3 h) : s83l1_E F x0 x1 x2 x3 h := gJ_plain rfl ⟨n, H⟩

def s83l1 (Ψ : AVal → Heap → Prop) : Nat → s83l1_T
  | 0, _, _, _, _, _ => False
  | n1 + 1, s1, v1, t7, t8, h =>
    ifT (decide (t8 < t7)) (
      ixS 1 s1 t8 fun p =>
      ld1 h p fun v2 =>
      tStr v2 fun v3 =>
      ifT (strEq v1 v3) (
        retG (.int .i64 t8) h Ψ) (
        rg (t8 + 1) (
          s83l1_G (s83l1 Ψ n1) s1 v1 t7 (t8 + 1) h))) (
      retG (.int .i64 (-1)) h Ψ)

def s83 (Ψ : AVal → Heap → Prop) (s : AVal) (v : ByteArray) (h : Heap) : Prop :=
  lenN s fun n =>
  s83l1_E (s83l1 Ψ) s v n 0 h

def s83_A (Ψ : AVal → Heap → Prop) : Ann :=
  .seq (rA 1)
  (.seq (.seq (rA 3)
  (.block (.loop [(0, .any), (1, .str), (7, .int .i64), (8, .int .i64)] (fun n l h => s83l1_R (s83l1 Ψ n) l h) (fun L1 =>
  .seq (rA 1)
  (.seq (.cond (.leaf)
  (.leaf))
  (.seq (.block (.seq (rA 2)
  (.seq (rA 6)
  (.cond (.seq (rA 2)
  (.leaf))
  (.leaf)))))
  (rA 2)))))))
  (.seq (rA 1)
  (.leaf)))

theorem s83_ok {Ψ : AVal → Heap → Prop} {s : AVal} {v : ByteArray} {h : Heap} (H : s83 Ψ s v h) : ACalls prog 83 [s, (.str v)] h Ψ :=
  calls_of_evF func83 (by kernel_rfl) (by kernel_rfl) (by kernel_rfl)
    (Eq.mpr (by as_aux_lemma => kernel_rfl : oblF prog f83 (s83_A Ψ) Ψ = (True ∧ (True ∧ (∀ (h : Heap) (x0 : AVal) (x1 : ByteArray) (x2 x3 : Int), ON (s83l1 Ψ 0 x0 x1 x2 x3 h)) ∧ ∀ n1 : Nat, (∀ (h : Heap) (x0 : AVal) (x1 : ByteArray) (x2 x3 : Int), OI (s83l1 Ψ (n1 + 1) x0 x1 x2 x3 h)) ∧ (True ∧ (True ∧ True) ∧ (True ∧ True ∧ (True ∧ True) ∧ True) ∧ True)) ∧ True ∧ True)) ⟨trivial, ⟨⟨trivial, ⟨fun _ _ _ _ _ H => H, fun _ => ⟨fun _ _ _ _ _ H => H, ⟨trivial, ⟨⟨trivial, trivial⟩, ⟨⟨trivial, ⟨trivial, ⟨⟨trivial, trivial⟩, trivial⟩⟩⟩, trivial⟩⟩⟩⟩⟩⟩, ⟨trivial, trivial⟩⟩⟩)
    (Eq.mpr (by as_aux_lemma => kernel_rfl : evF prog f83 (s83_A Ψ) Ψ [s, (.str v)] h = s83 Ψ s v h) H)

end Go.Proofs.Ytljglglbfcgjpaa

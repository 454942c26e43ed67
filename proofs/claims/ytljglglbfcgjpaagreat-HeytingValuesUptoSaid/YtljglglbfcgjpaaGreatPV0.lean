/- The functions that the proof meets, each as a text that Lean has checked against the program. No condition. -/
import Derived.Test.YtljglglbfcgjpaaGreatM3
import Derived.Test.YtljglglbfcgjpaaGreatChecked
namespace Go.Proofs.YtljglglbfcgjpaaGreat
open Go Go.Sym Go.Proofs.Tryz
set_option maxRecDepth 100000
set_option linter.unusedVariables false

/- 4 dictum/dictumlaw23.HeytingValues -/
def s4 (Ψ : AVal → Heap → Prop) (a_Leq : AVal) (rows : AVal) (id_ : Int) (by_ : AVal) (h : Heap) : Prop :=
  callG prog 20 [rows] h fun v h_ =>
  tTup v fun l_ =>
  tCons l_ fun v1 l_1 =>
  tCons l_1 fun v2 l_2 =>
  tCons l_2 fun v3 l_3 =>
  tBool v3 fun v4 =>
  tNil l_3 (
    ifT (!v4) (
      callG prog 19 [] h_ fun v5 h_1 =>
      tBool v5 fun v6 =>
      retG (.bool v6) h_1 Ψ) (
      Sym.newRow 2 [] h_ fun r h_2 =>
      appC 2 24 h_2 (.sl r 2 0 0) by_ (litG true fun v7 h_3 =>
      callG prog 21 [(.agg [a_Leq]), v1, (.int .i64 id_), v7] h_3 fun v8 h_4 =>
      tTup v8 fun l_4 =>
      tCons l_4 fun v9 l_5 =>
      tInt .i64 v9 fun v10 =>
      tCons l_5 fun v11 l_6 =>
      tInt .i64 v11 fun v12 =>
      tNil l_6 (
        callG prog 22 [(.agg [a_Leq]), v2, (.int .i64 id_), by_] h_4 fun v13 h_5 =>
        tTup v13 fun l_7 =>
        tCons l_7 fun v14 l_8 =>
        tInt .i64 v14 fun v15 =>
        tCons l_8 fun v16 l_9 =>
        tInt .i64 v16 fun v17 =>
        tNil l_9 (
          callG prog 21 [(.agg [a_Leq]), .nilptr, (.int .i64 id_), v7] h_5 fun v18 h_6 =>
          tTup v18 fun l_10 =>
          tCons l_10 fun v19 l_11 =>
          tInt .i64 v19 fun v20 =>
          tCons l_11 fun v21 l_12 =>
          tInt .i64 v21 fun v22 =>
          tNil l_12 (
            callG prog 23 [(.agg [a_Leq])] h_6 fun v23 h_7 =>
            tInt .i64 v23 fun v24 =>
            ifT (v10 == v15) (
              ifT (v12 == v17) (
                callG prog 12 [v7, by_] h_7 fun v25 h_8 =>
                tBool v25 fun v26 =>
                ifT v26 (
                  ifT (v24 != 0) (
                    ifT (v22 == 230) (
                      callG prog 19 [] h_8 fun v29 h_10 =>
                      tBool v29 fun v30 =>
                      retG (.bool v30) h_10 Ψ) (
                      ifT (!(v24 != 0)) (
                        ifT (v22 == 1) (
                          callG prog 19 [] h_8 fun v27 h_9 =>
                          tBool v27 fun v28 =>
                          retG (.bool v28) h_9 Ψ) (
                          retG (.bool false) h_8 Ψ)) (
                        retG (.bool false) h_8 Ψ))) (
                    ifT (!(v24 != 0)) (
                      ifT (v22 == 1) (
                        callG prog 19 [] h_8 fun v31 h_11 =>
                        tBool v31 fun v32 =>
                        retG (.bool v32) h_11 Ψ) (
                        retG (.bool false) h_8 Ψ)) (
                      retG (.bool false) h_8 Ψ))) (
                  retG (.bool false) h_8 Ψ)) (
                retG (.bool false) h_7 Ψ)) (
              retG (.bool false) h_7 Ψ)))))))

def s4_A (Ψ : AVal → Heap → Prop) : Ann :=
  .seq (.reg [⟨none, [(0, true), (1, false)]⟩])
  (.seq (rA 9)
  (.seq (.seq (rA 2)
  (.cond (.seq (rA 2)
  (.leaf))
  (.leaf)))
  (.seq (.reg [⟨none, [(0, false), (1, false), (2, true), (3, false)]⟩])
  (.seq (rA 10)
  (.seq (rA 10)
  (.seq (rA 1)
  (.seq (rA 10)
  (.seq (rA 4)
  (.seq (.reg [⟨none, [(0, false), (1, false), (2, false), (3, false)]⟩, ⟨some (63, true), [(4, false), (5, false), (6, false)]⟩, ⟨none, [(7, false), (8, false)]⟩, ⟨some (68, true), [(9, false), (10, false), (11, false)]⟩, ⟨none, [(12, false), (13, false)]⟩, ⟨some (73, true), [(14, false), (15, false)]⟩, ⟨some (75, true), [(16, false), (17, false)]⟩, ⟨some (73, true), [(18, false), (19, false)]⟩, ⟨some (79, false), [(20, false), (21, false), (22, false)]⟩, ⟨some (82, true), [(23, false), (24, false)]⟩, ⟨some (79, false), [(25, false)]⟩, ⟨some (73, true), [(26, false)]⟩, ⟨none, [(27, false), (28, false)]⟩, ⟨some (88, true), [(29, false)]⟩, ⟨none, [(30, false), (31, false)]⟩])
  (.leaf))))))))))

theorem s4_ok {Ψ : AVal → Heap → Prop} {a_Leq : AVal} {rows : AVal} {id_ : Int} {by_ : AVal} {h : Heap} (H : s4 Ψ a_Leq rows id_ by_ h) : ACalls prog 4 [(.agg [a_Leq]), rows, (.int .i64 id_), by_] h Ψ :=
  calls_of_evF func4 (by kernel_rfl) (by kernel_rfl) (by kernel_rfl)
    (Eq.mpr (by as_aux_lemma => kernel_rfl : oblF prog f4 (s4_A Ψ) Ψ = (True ∧ True ∧ (True ∧ (True ∧ True) ∧ True) ∧ True ∧ True ∧ True ∧ True ∧ True ∧ True ∧ True ∧ True)) ⟨trivial, ⟨trivial, ⟨⟨trivial, ⟨⟨trivial, trivial⟩, trivial⟩⟩, ⟨trivial, ⟨trivial, ⟨trivial, ⟨trivial, ⟨trivial, ⟨trivial, ⟨trivial, trivial⟩⟩⟩⟩⟩⟩⟩⟩⟩⟩)
    (Eq.mpr (by as_aux_lemma => kernel_rfl : evF prog f4 (s4_A Ψ) Ψ [(.agg [a_Leq]), rows, (.int .i64 id_), by_] h = s4 Ψ a_Leq rows id_ by_ h) H)

/- 8 dictum/dictumref23.Same -/
abbrev s8l1_T := AVal → AVal → Int → Heap → Prop
def s8l1_R (F : s8l1_T) (l : List AVal) (h : Heap) : Prop := J.cons l fun x0 l => J.cons l fun x1 l => J.cons l fun v l => J.int .i64 v fun x2 => J.nil l (F x0 x1 x2 h)
def s8l1_G (F : s8l1_T) (x0 x1 : AVal) (x2 : Int) (h : Heap) : Prop := gJ [.any, .any, .int .i64] [x0, x1, (.int .i64 x2)] h (s8l1_R F)
def s8l1_E (F : Nat → s8l1_T) (x0 x1 : AVal) (x2 : Int) (h : Heap) : Prop := gJ [.any, .any, .int .i64] [x0, x1, (.int .i64 x2)] h (fun l h => ∃ n, s8l1_R (F n) l h)
theorem s8l1_go {F : s8l1_T} {x0 x1 : AVal} {x2 : Int} {h : Heap} (H : F x0 x1 x2 h) : s8l1_G F x0 x1 x2 h := gJ_plain rfl H
theorem s8l1_in {F : Nat → s8l1_T} {x0 x1 : AVal} {x2 : Int} {h : Heap} (n : Nat) (H : F n x0 x1 x2 h) : s8l1_E F x0 x1 x2 h := gJ_plain rfl ⟨n, H⟩

abbrev s8l2_T := AVal → AVal → Int → Int → Heap → Prop
def s8l2_R (F : s8l2_T) (l : List AVal) (h : Heap) : Prop := J.cons l fun x0 l => J.cons l fun x1 l => J.cons l fun v l => J.int .i64 v fun x2 => J.cons l fun v l => J.int .i64 v fun x3 => J.nil l (F x0 x1 x2 x3 h)
def s8l2_G (F : s8l2_T) (x0 x1 : AVal) (x2 x3 : Int) (h : Heap) : Prop := gJ [.any, .any, .int .i64, .int .i64] [x0, x1, (.int .i64 x2), (.int .i64 x3)] h (s8l2_R F)
def s8l2_E (F : Nat → s8l2_T) (x0 x1 : AVal) (x2 x3 : Int) (h : Heap) : Prop := gJ [.any, .any, .int .i64, .int .i64] [x0, x1, (.int .i64 x2), (.int .i64 x3)] h (fun l h => ∃ n, s8l2_R (F n) l h)
theorem s8l2_go {F : s8l2_T} {x0 x1 : AVal} {x2 x3 : Int} {h : Heap} (H : F x0 x1 x2 x3 h) : s8l2_G F x0 x1 x2 x3 h := gJ_plain rfl H
theorem s8l2_in {F : Nat → s8l2_T} {x0 x1 : AVal} {x2 x3 : Int} {h : Heap} (n : Nat) (H : F n x0 x1 x2 x3 h) : s8l2_E F x0 x1 x2 x3 h := gJ_plain rfl ⟨n, H⟩

def s8l2 (Ψ : AVal → Heap → Prop) (L1 : s8l1_T) : Nat → s8l2_T
  | 0, _, _, _, _, _ => False
  | n6 + 1, a1, b1, x1, y, h =>
    addOff a1 0 fun p5 =>
    ld1 h p5 fun v5 =>
    ixS 1 v5 x1 fun p6 =>
    ld1 h p6 fun v6 =>
    lenN v6 fun n7 =>
    ifT (decide (y < n7)) (
      addOff a1 0 fun p7 =>
      ld1 h p7 fun v7 =>
      ixS 1 v7 x1 fun p8 =>
      ld1 h p8 fun v8 =>
      ixS 1 v8 y fun p9 =>
      ld1 h p9 fun v9 =>
      tBool v9 fun v10 =>
      addOff b1 0 fun p10 =>
      ld1 h p10 fun v11 =>
      ixS 1 v11 x1 fun p11 =>
      ld1 h p11 fun v12 =>
      ixS 1 v12 y fun p12 =>
      ld1 h p12 fun v13 =>
      tBool v13 fun v14 =>
      eqQ prog 4 (.bool v10) (.bool v14) fun b2 =>
      ifT (!b2) (
        retG (.bool false) h Ψ) (
        rg (y + 1) (
          s8l2_G (s8l2 Ψ L1 n6) a1 b1 x1 (y + 1) h))) (
      rg (x1 + 1) (
        L1 a1 b1 (x1 + 1) h))

def s8l1 (Ψ : AVal → Heap → Prop) : Nat → s8l1_T
  | 0, _, _, _, _ => False
  | n2 + 1, a, b, x, h =>
    addOff a 0 fun p =>
    ld1 h p fun v =>
    lenN v fun n3 =>
    ifT (decide (x < n3)) (
      addOff a 0 fun p1 =>
      ld1 h p1 fun v1 =>
      ixS 1 v1 x fun p2 =>
      ld1 h p2 fun v2 =>
      lenN v2 fun n4 =>
      addOff b 0 fun p3 =>
      ld1 h p3 fun v3 =>
      ixS 1 v3 x fun p4 =>
      ld1 h p4 fun v4 =>
      lenN v4 fun n5 =>
      ifT (n4 != n5) (
        retG (.bool false) h Ψ) (
        s8l2_E (s8l2 Ψ (s8l1_G (s8l1 Ψ n2))) a b x 0 h)) (
      retG (.bool true) h Ψ)

def s8 (Ψ : AVal → Heap → Prop) (a_Leq : AVal) (b_Leq : AVal) (h : Heap) : Prop :=
  lenN a_Leq fun n =>
  lenN b_Leq fun n1 =>
  ifT (n != n1) (
    retG (.bool false) h Ψ) (
    s8l1_E (s8l1 Ψ) (.lptr [a_Leq]) (.lptr [b_Leq]) 0 h)

def s8_A (Ψ : AVal → Heap → Prop) : Ann :=
  .seq (.reg [⟨none, [(0, true), (1, true), (2, false)]⟩])
  (.seq (.seq (rA 7)
  (.cond (.seq (rA 1)
  (.leaf))
  (.leaf)))
  (.seq (.seq (rA 1)
  (.block (.loop [(2, .any), (3, .any), (5, .int .i64)] (fun n l h => s8l1_R (s8l1 Ψ n) l h) (fun L1 =>
  .seq (.seq (rA 5)
  (.cond (.leaf)
  (.leaf)))
  (.seq (.block (.seq (.seq (.draw [(0, false), (1, false), (2, false), (3, false), (4, false), (5, false), (6, false), (7, false), (8, false), (9, false), (10, false), (11, false), (12, false)] [0, 1, 0, 7, 15, 31, 0, 64, 0, 448, 960, 1984, 4095])
  (.cond (.seq (rA 1)
  (.leaf))
  (.leaf)))
  (.seq (rA 1)
  (.block (.loop [(2, .any), (3, .any), (5, .int .i64), (6, .int .i64)] (fun n l h => s8l2_R (s8l2 Ψ (fun y0 y1 y2 h => L1 [y0, y1, (.int .i64 y2)] h) n) l h) (fun L2 =>
  .seq (.seq (rA 8)
  (.cond (.leaf)
  (.leaf)))
  (.seq (.block (.seq (.draw [(0, false), (1, false), (2, false), (3, false), (4, false), (5, false), (6, false), (7, false), (8, false), (9, false), (10, false), (11, false), (12, false), (13, false), (14, false), (15, false), (16, false)] [0, 1, 0, 7, 15, 0, 63, 127, 0, 256, 0, 1792, 3840, 0, 16128, 32512, 65535])
  (.cond (.seq (rA 1)
  (.leaf))
  (.leaf))))
  (rA 3))))))))
  (rA 3))))))
  (.seq (rA 1)
  (.leaf))))

theorem s8_ok {Ψ : AVal → Heap → Prop} {a_Leq : AVal} {b_Leq : AVal} {h : Heap} (H : s8 Ψ a_Leq b_Leq h) : ACalls prog 8 [(.agg [a_Leq]), (.agg [b_Leq])] h Ψ :=
  calls_of_evF func8 (by kernel_rfl) (by kernel_rfl) (by kernel_rfl)
    (Eq.mpr (by as_aux_lemma => kernel_rfl : oblF prog f8 (s8_A Ψ) Ψ = (True ∧ (True ∧ (True ∧ True) ∧ True) ∧ (True ∧ (∀ (h : Heap) (x0 x1 : AVal) (x2 : Int), ON (s8l1 Ψ 0 x0 x1 x2 h)) ∧ ∀ n1 : Nat, (∀ (h : Heap) (x0 x1 : AVal) (x2 : Int), OI (s8l1 Ψ (n1 + 1) x0 x1 x2 h)) ∧ ((True ∧ True ∧ True) ∧ ((True ∧ (True ∧ True) ∧ True) ∧ True ∧ (∀ (h : Heap) (x0 x1 : AVal) (x2 x3 : Int), ON (s8l2 Ψ (s8l1_G (s8l1 Ψ n1)) 0 x0 x1 x2 x3 h)) ∧ ∀ n2 : Nat, (∀ (h : Heap) (x0 x1 : AVal) (x2 x3 : Int), OI (s8l2 Ψ (s8l1_G (s8l1 Ψ n1)) (n2 + 1) x0 x1 x2 x3 h)) ∧ ((True ∧ True ∧ True) ∧ (True ∧ (True ∧ True) ∧ True) ∧ True)) ∧ True)) ∧ True ∧ True)) ⟨trivial, ⟨⟨trivial, ⟨⟨trivial, trivial⟩, trivial⟩⟩, ⟨⟨trivial, ⟨fun _ _ _ _ H => H, fun _ => ⟨fun _ _ _ _ H => H, ⟨⟨trivial, ⟨trivial, trivial⟩⟩, ⟨⟨⟨trivial, ⟨⟨trivial, trivial⟩, trivial⟩⟩, ⟨trivial, ⟨fun _ _ _ _ _ H => H, fun _ => ⟨fun _ _ _ _ _ H => H, ⟨⟨trivial, ⟨trivial, trivial⟩⟩, ⟨⟨trivial, ⟨⟨trivial, trivial⟩, trivial⟩⟩, trivial⟩⟩⟩⟩⟩⟩, trivial⟩⟩⟩⟩⟩, ⟨trivial, trivial⟩⟩⟩⟩)
    (Eq.mpr (by as_aux_lemma => kernel_rfl : evF prog f8 (s8_A Ψ) Ψ [(.agg [a_Leq]), (.agg [b_Leq])] h = s8 Ψ a_Leq b_Leq h) H)

/- 13 dictum/heyting.Primes -/
abbrev s13l1_T := AVal → AVal → AVal → Int → Int → Heap → Prop
def s13l1_R (F : s13l1_T) (l : List AVal) (h : Heap) : Prop := J.cons l fun x0 l => J.cons l fun x1 l => J.cons l fun x2 l => J.cons l fun v l => J.int .i64 v fun x3 => J.cons l fun v l => J.int .i64 v fun x4 => J.nil l (F x0 x1 x2 x3 x4 h)
def s13l1_G (F : s13l1_T) (x0 x1 x2 : AVal) (x3 x4 : Int) (h : Heap) : Prop := gJ [.any, .any, .any, .int .i64, .int .i64] [x0, x1, x2, (.int .i64 x3), (.int .i64 x4)] h (s13l1_R F)
def s13l1_E (F : Nat → s13l1_T) (x0 x1 x2 : AVal) (x3 x4 : Int) (h : Heap) : Prop := gJ [.any, .any, .any, .int .i64, .int .i64] [x0, x1, x2, (.int .i64 x3), (.int .i64 x4)] h (fun l h => ∃ n, s13l1_R (F n) l h)
theorem s13l1_go {F : s13l1_T} {x0 x1 x2 : AVal} {x3 x4 : Int} {h : Heap} (H : F x0 x1 x2 x3 x4 h) : s13l1_G F x0 x1 x2 x3 x4 h := gJ_plain rfl H
theorem s13l1_in {F : Nat → s13l1_T} {x0 x1 x2 : AVal} {x3 x4 : Int} {h : Heap} (n : Nat) (H : F n x0 x1 x2 x3 x4 h) : s13l1_E F x0 x1 x2 x3 x4 h := gJ_plain rfl ⟨n, H⟩

abbrev s13l2_T := AVal → AVal → AVal → Int → Int → Int → Int → Int → Heap → Prop
def s13l2_R (F : s13l2_T) (l : List AVal) (h : Heap) : Prop := J.cons l fun x0 l => J.cons l fun x1 l => J.cons l fun x2 l => J.cons l fun v l => J.int .i64 v fun x3 => J.cons l fun v l => J.int .i64 v fun x4 => J.cons l fun v l => J.int .i64 v fun x5 => J.cons l fun v l => J.int .i64 v fun x6 => J.cons l fun v l => J.int .i64 v fun x7 => J.nil l (F x0 x1 x2 x3 x4 x5 x6 x7 h)
def s13l2_G (F : s13l2_T) (x0 x1 x2 : AVal) (x3 x4 x5 x6 x7 : Int) (h : Heap) : Prop := gJ [.any, .any, .any, .int .i64, .int .i64, .int .i64, .int .i64, .int .i64] [x0, x1, x2, (.int .i64 x3), (.int .i64 x4), (.int .i64 x5), (.int .i64 x6), (.int .i64 x7)] h (s13l2_R F)
def s13l2_E (F : Nat → s13l2_T) (x0 x1 x2 : AVal) (x3 x4 x5 x6 x7 : Int) (h : Heap) : Prop := gJ [.any, .any, .any, .int .i64, .int .i64, .int .i64, .int .i64, .int .i64] [x0, x1, x2, (.int .i64 x3), (.int .i64 x4), (.int .i64 x5), (.int .i64 x6), (.int .i64 x7)] h (fun l h => ∃ n, s13l2_R (F n) l h)
theorem s13l2_go {F : s13l2_T} {x0 x1 x2 : AVal} {x3 x4 x5 x6 x7 : Int} {h : Heap} (H : F x0 x1 x2 x3 x4 x5 x6 x7 h) : s13l2_G F x0 x1 x2 x3 x4 x5 x6 x7 h := gJ_plain rfl H
theorem s13l2_in {F : Nat → s13l2_T} {x0 x1 x2 : AVal} {x3 x4 x5 x6 x7 : Int} {h : Heap} (n : Nat) (H : F n x0 x1 x2 x3 x4 x5 x6 x7 h) : s13l2_E F x0 x1 x2 x3 x4 x5 x6 x7 h := gJ_plain rfl ⟨n, H⟩

def s13c3 (Ψ : AVal → Heap → Prop) (L1 : s13l1_T) (L2 : s13l2_T) (t2_2 l_17 split2 : AVal) (x1 t40_2 t41_2 t45_1 t46_1 : Int) (h : Heap) : Prop :=
  rg (t46_1 + 1) (
    L2 t2_2 l_17 split2 x1 t40_2 t41_2 t45_1 (t46_1 + 1) h)

def s13c4 (Ψ : AVal → Heap → Prop) (L1 : s13l1_T) (L2 : s13l2_T) (t2_3 l_24 split3 : AVal) (x2 z t40_3 t41_3 t45_2 t46_2 : Int) (t63 : Bool) (h : Heap) : Prop :=
  ifT t63 (
    mapPut h split3 (.int .i64 z) (.int .i64 1) fun h_9 =>
    s13c3 Ψ L1 L2 t2_3 l_24 split3 x2 t40_3 t41_3 t45_2 t46_2 h_9) (
    s13c3 Ψ L1 L2 t2_3 l_24 split3 x2 t40_3 t41_3 t45_2 t46_2 h)

def s13l2 (Ψ : AVal → Heap → Prop) (L1 : s13l1_T) : Nat → s13l2_T
  | 0, _, _, _, _, _, _, _, _, _ => False
  | n1 + 1, t2_1, l_16, split1, x, t40_1, t41_1, t45, t46, h =>
    ifT (decide (t46 < t45)) (
      ldN 2 h l_16 fun l_18 =>
      tCons l_18 fun v21 l_19 =>
      tInt .i64 v21 fun v22 =>
      tCons l_19 fun v23 l_20 =>
      tNil l_20 (
        callG prog 37 [(.agg [(.int .i64 v22), v23]), (.int .i64 x), (.int .i64 t46)] h fun v24 h_8 =>
        tTup v24 fun l_21 =>
        tCons l_21 fun v25 l_22 =>
        tInt .i64 v25 fun v26 =>
        tCons l_22 fun v27 l_23 =>
        tBool v27 fun v28 =>
        tNil l_23 (
          ifT (v26 != x) (
            s13c4 Ψ L1 (s13l2_G (s13l2 Ψ L1 n1)) t2_1 l_16 split1 x v26 t40_1 t41_1 t45 t46 (v26 != t46) h_8) (
            s13c4 Ψ L1 (s13l2_G (s13l2 Ψ L1 n1)) t2_1 l_16 split1 x v26 t40_1 t41_1 t45 t46 false h_8)))) (
      rg (t41_1 + 1) (
        L1 t2_1 l_16 split1 t40_1 (t41_1 + 1) h))

abbrev s13l5_T := AVal → AVal → AVal → AVal → Int → Int → Heap → Prop
def s13l5_R (F : s13l5_T) (l : List AVal) (h : Heap) : Prop := J.cons l fun x0 l => J.cons l fun x1 l => J.cons l fun x2 l => J.cons l fun x3 l => J.cons l fun v l => J.int .i64 v fun x4 => J.cons l fun v l => J.int .i64 v fun x5 => J.nil l (F x0 x1 x2 x3 x4 x5 h)
def s13l5_G (F : s13l5_T) (x0 x1 x2 x3 : AVal) (x4 x5 : Int) (h : Heap) : Prop := gJ [.any, .any, .any, .any, .int .i64, .int .i64] [x0, x1, x2, x3, (.int .i64 x4), (.int .i64 x5)] h (s13l5_R F)
def s13l5_E (F : Nat → s13l5_T) (x0 x1 x2 x3 : AVal) (x4 x5 : Int) (h : Heap) : Prop := gJ [.any, .any, .any, .any, .int .i64, .int .i64] [x0, x1, x2, x3, (.int .i64 x4), (.int .i64 x5)] h (fun l h => ∃ n, s13l5_R (F n) l h)
theorem s13l5_go {F : s13l5_T} {x0 x1 x2 x3 : AVal} {x4 x5 : Int} {h : Heap} (H : F x0 x1 x2 x3 x4 x5 h) : s13l5_G F x0 x1 x2 x3 x4 x5 h := gJ_plain rfl H
theorem s13l5_in {F : Nat → s13l5_T} {x0 x1 x2 x3 : AVal} {x4 x5 : Int} {h : Heap} (n : Nat) (H : F n x0 x1 x2 x3 x4 x5 h) : s13l5_E F x0 x1 x2 x3 x4 x5 h := gJ_plain rfl ⟨n, H⟩

def s13c6 (Ψ : AVal → Heap → Prop) (L5 : s13l5_T) (t2_5 l_26 split5 elems1 : AVal) (t69_1 t70_1 : Int) (h : Heap) : Prop :=
  rg (t70_1 + 1) (
    L5 t2_5 l_26 split5 elems1 t69_1 (t70_1 + 1) h)

abbrev s13l7_T := AVal → AVal → AVal → AVal → AVal → Int → Int → Heap → Prop
def s13l7_R (F : s13l7_T) (l : List AVal) (h : Heap) : Prop := J.cons l fun x0 l => J.cons l fun x1 l => J.cons l fun x2 l => J.cons l fun x3 l => J.cons l fun x4 l => J.cons l fun v l => J.int .i64 v fun x5 => J.cons l fun v l => J.int .i64 v fun x6 => J.nil l (F x0 x1 x2 x3 x4 x5 x6 h)
def s13l7_G (F : s13l7_T) (x0 x1 x2 x3 x4 : AVal) (x5 x6 : Int) (h : Heap) : Prop := gJ [.any, .any, .any, .any, .any, .int .i64, .int .i64] [x0, x1, x2, x3, x4, (.int .i64 x5), (.int .i64 x6)] h (s13l7_R F)
def s13l7_E (F : Nat → s13l7_T) (x0 x1 x2 x3 x4 : AVal) (x5 x6 : Int) (h : Heap) : Prop := gJ [.any, .any, .any, .any, .any, .int .i64, .int .i64] [x0, x1, x2, x3, x4, (.int .i64 x5), (.int .i64 x6)] h (fun l h => ∃ n, s13l7_R (F n) l h)
theorem s13l7_go {F : s13l7_T} {x0 x1 x2 x3 x4 : AVal} {x5 x6 : Int} {h : Heap} (H : F x0 x1 x2 x3 x4 x5 x6 h) : s13l7_G F x0 x1 x2 x3 x4 x5 x6 h := gJ_plain rfl H
theorem s13l7_in {F : Nat → s13l7_T} {x0 x1 x2 x3 x4 : AVal} {x5 x6 : Int} {h : Heap} (n : Nat) (H : F n x0 x1 x2 x3 x4 x5 x6 h) : s13l7_E F x0 x1 x2 x3 x4 x5 x6 h := gJ_plain rfl ⟨n, H⟩

abbrev s13l8_T := AVal → AVal → AVal → AVal → Int → Int → AVal → AVal → Int → Int → AVal → Int → Int → Heap → Prop
def s13l8_R (F : s13l8_T) (l : List AVal) (h : Heap) : Prop := J.cons l fun x0 l => J.cons l fun x1 l => J.cons l fun x2 l => J.cons l fun x3 l => J.cons l fun v l => J.int .i64 v fun x4 => J.cons l fun v l => J.int .i64 v fun x5 => J.cons l fun x6 l => J.cons l fun x7 l => J.cons l fun v l => J.int .i64 v fun x8 => J.cons l fun v l => J.int .i64 v fun x9 => J.cons l fun x10 l => J.cons l fun v l => J.int .i64 v fun x11 => J.cons l fun v l => J.int .i64 v fun x12 => J.nil l (F x0 x1 x2 x3 x4 x5 x6 x7 x8 x9 x10 x11 x12 h)
def s13l8_G (F : s13l8_T) (x0 x1 x2 x3 : AVal) (x4 x5 : Int) (x6 x7 : AVal) (x8 x9 : Int) (x10 : AVal) (x11 x12 : Int) (h : Heap) : Prop := gJ [.any, .any, .any, .any, .int .i64, .int .i64, .any, .any, .int .i64, .int .i64, .any, .int .i64, .int .i64] [x0, x1, x2, x3, (.int .i64 x4), (.int .i64 x5), x6, x7, (.int .i64 x8), (.int .i64 x9), x10, (.int .i64 x11), (.int .i64 x12)] h (s13l8_R F)
def s13l8_E (F : Nat → s13l8_T) (x0 x1 x2 x3 : AVal) (x4 x5 : Int) (x6 x7 : AVal) (x8 x9 : Int) (x10 : AVal) (x11 x12 : Int) (h : Heap) : Prop := gJ [.any, .any, .any, .any, .int .i64, .int .i64, .any, .any, .int .i64, .int .i64, .any, .int .i64, .int .i64] [x0, x1, x2, x3, (.int .i64 x4), (.int .i64 x5), x6, x7, (.int .i64 x8), (.int .i64 x9), x10, (.int .i64 x11), (.int .i64 x12)] h (fun l h => ∃ n, s13l8_R (F n) l h)
theorem s13l8_go {F : s13l8_T} {x0 x1 x2 x3 : AVal} {x4 x5 : Int} {x6 x7 : AVal} {x8 x9 : Int} {x10 : AVal} {x11 x12 : Int} {h : Heap} (H : F x0 x1 x2 x3 x4 x5 x6 x7 x8 x9 x10 x11 x12 h) : s13l8_G F x0 x1 x2 x3 x4 x5 x6 x7 x8 x9 x10 x11 x12 h := gJ_plain rfl H
theorem s13l8_in {F : Nat → s13l8_T} {x0 x1 x2 x3 : AVal} {x4 x5 : Int} {x6 x7 : AVal} {x8 x9 : Int} {x10 : AVal} {x11 x12 : Int} {h : Heap} (n : Nat) (H : F n x0 x1 x2 x3 x4 x5 x6 x7 x8 x9 x10 x11 x12 h) : s13l8_E F x0 x1 x2 x3 x4 x5 x6 x7 x8 x9 x10 x11 x12 h := gJ_plain rfl ⟨n, H⟩

def s13c9 (Ψ : AVal → Heap → Prop) (L7 : s13l7_T) (L8 : s13l8_T) (t2_8 l_32 elems4 m2 : AVal) (w1 x4 : Int) (up1 t86_2 : AVal) (t87_2 t88_2 : Int) (t93_1 : AVal) (t94_1 t95_1 : Int) (h : Heap) : Prop :=
  rg (t95_1 + 1) (
    L8 t2_8 l_32 elems4 m2 w1 x4 up1 t86_2 t87_2 t88_2 t93_1 t94_1 (t95_1 + 1) h)

def s13c10 (Ψ : AVal → Heap → Prop) (L7 : s13l7_T) (L8 : s13l8_T) (t2_9 l_33 elems5 m3 : AVal) (w2 x5 : Int) (up2 : AVal) (v40 : Int) (t86_3 : AVal) (t87_3 t88_3 : Int) (t93_2 : AVal) (t94_2 t95_2 : Int) (t109 : Bool) (h : Heap) : Prop :=
  ifT t109 (
    appC 1 8 h up2 (.lsl 1 [(.int .i64 v40)]) fun v41 h_13 =>
    s13c9 Ψ L7 L8 t2_9 l_33 elems5 m3 w2 x5 v41 t86_3 t87_3 t88_3 t93_2 t94_2 t95_2 h_13) (
    s13c9 Ψ L7 L8 t2_9 l_33 elems5 m3 w2 x5 up2 t86_3 t87_3 t88_3 t93_2 t94_2 t95_2 h)

def s13l8 (Ψ : AVal → Heap → Prop) (L7 : s13l7_T) : Nat → s13l8_T
  | 0, _, _, _, _, _, _, _, _, _, _, _, _, _, _ => False
  | n8 + 1, t2_7, l_31, elems3, m1, w, x3, up, t86_1, t87_1, t88_1, t93, t94, t95, h =>
    ifT (decide (t95 < t94)) (
      ixS 1 t93 t95 fun p3 =>
      ld1 h p3 fun v38 =>
      tInt .i64 v38 fun v39 =>
      ifT (t95 != w) (
        addOff l_31 1 fun p4 =>
        ld1 h p4 fun v42 =>
        callV prog v42 [(.int .i64 v39), (.int .i64 x3)] h fun v43 h_14 =>
        tBool v43 fun v44 =>
        s13c10 Ψ L7 (s13l8_G (s13l8 Ψ L7 n8)) t2_7 l_31 elems3 m1 w x3 up t95 t86_1 t87_1 t88_1 t93 t94 t95 v44 h_14) (
        s13c10 Ψ L7 (s13l8_G (s13l8 Ψ L7 n8)) t2_7 l_31 elems3 m1 w x3 up t95 t86_1 t87_1 t88_1 t93 t94 t95 false h)) (
      addOff m1 0 fun p5 =>
      ld1 h p5 fun v45 =>
      chk (sc up) (
        appC 1 24 h v45 (.lsl 1 [up]) fun v46 h_15 =>
        addOff m1 0 fun p6 =>
        chk (sc v46) (
          st true h_15 p6 [v46] fun h_16 =>
          addOff m1 1 fun p7 =>
          ld1 h_16 p7 fun v47 =>
          appC 1 24 h_16 v47 (.lsl 1 [.nilsl]) fun v48 h_17 =>
          addOff m1 1 fun p8 =>
          chk (sc v48) (
            st true h_17 p8 [v48] fun h_18 =>
            rg (t88_1 + 1) (
              L7 t2_7 l_31 elems3 m1 t86_1 t87_1 (t88_1 + 1) h_18)))))

def s13l7 (Ψ : AVal → Heap → Prop) : Nat → s13l7_T
  | 0, _, _, _, _, _, _, _, _ => False
  | n6 + 1, t2_6, l_30, elems2, m, t86, t87, t88, h =>
    ifT (decide (t88 < t87)) (
      ixS 1 t86 t88 fun p2 =>
      ld1 h p2 fun v36 =>
      tInt .i64 v36 fun v37 =>
      lenN elems2 fun n7 =>
      s13l8_E (s13l8 Ψ (s13l7_G (s13l7 Ψ n6))) t2_6 l_30 elems2 m t88 v37 .nilsl t86 t87 t88 elems2 n7 0 h) (
      ldN 2 h m fun l_34 =>
      tCons l_34 fun v49 l_35 =>
      tCons l_35 fun v50 l_36 =>
      tNil l_36 (
        callG prog 38 [(.agg [v49, v50])] h fun v51 h_19 =>
        tTup v51 fun l_37 =>
        tCons l_37 fun v52 l_38 =>
        tCons l_38 fun v53 l_39 =>
        tInt .i64 v53 fun v54 =>
        tNil l_39 (
          tAgg v52 fun l_40 =>
          tCons l_40 fun v55 l_41 =>
          tCons l_41 fun v56 l_42 =>
          tNil l_42 (
            st false h_19 m [v55, v56] fun h_20 =>
            ldN 2 h_20 m fun l_43 =>
            tCons l_43 fun v57 l_44 =>
            tCons l_44 fun v58 l_45 =>
            tNil l_45 (
              st false h_20 t2_6 [v57, v58] fun h_21 =>
              ldN 2 h_21 t2_6 fun l_46 =>
              tCons l_46 fun v59 l_47 =>
              tCons l_47 fun v60 l_48 =>
              tNil l_48 (
                retG (.tuple [(.agg [v59, v60]), elems2, (.int .i64 0)]) h_21 Ψ))))))

def s13l5 (Ψ : AVal → Heap → Prop) : Nat → s13l5_T
  | 0, _, _, _, _, _, _, _ => False
  | n3 + 1, t2_4, l_25, split4, elems, t69, t70, h =>
    ifT (decide (t70 < t69)) (
      mapGet (.int .i64 0) h split4 (.int .i64 t70) fun v31 b =>
      tInt .i64 v31 fun v32 =>
      ifT (v32 == 0) (
        appC 1 8 h elems (.lsl 1 [(.int .i64 t70)]) fun v33 h_10 =>
        s13c6 Ψ (s13l5_G (s13l5 Ψ n3)) t2_4 l_25 split4 v33 t69 t70 h_10) (
        s13c6 Ψ (s13l5_G (s13l5 Ψ n3)) t2_4 l_25 split4 elems t69 t70 h)) (
      lenN elems fun n4 =>
      ifT (n4 == 0) (
        st false h t2_4 [.nilsl, .nilsl] fun h_11 =>
        ldN 2 h_11 t2_4 fun l_27 =>
        tCons l_27 fun v34 l_28 =>
        tCons l_28 fun v35 l_29 =>
        tNil l_29 (
          retG (.tuple [(.agg [v34, v35]), .nilsl, (.int .i64 231)]) h_11 Ψ)) (
        Sym.newRow 2 [(.agg [.nilsl, .nilsl])] h fun r3 h_12 =>
        lenN elems fun n5 =>
        s13l7_E (s13l7 Ψ) t2_4 l_25 elems (.ptr r3 0 0) elems n5 0 h_12))

def s13l1 (Ψ : AVal → Heap → Prop) : Nat → s13l1_T
  | 0, _, _, _, _, _, _ => False
  | n + 1, t2, l_15, split, t40, t41, h =>
    ifT (decide (t41 < t40)) (
      addOff l_15 0 fun p =>
      ld1 h p fun v19 =>
      tInt .i64 v19 fun v20 =>
      s13l2_E (s13l2 Ψ (s13l1_G (s13l1 Ψ n))) t2 l_15 split t41 t40 t41 v20 0 h) (
      addOff l_15 0 fun p1 =>
      ld1 h p1 fun v29 =>
      tInt .i64 v29 fun v30 =>
      s13l5_E (s13l5 Ψ) t2 l_15 split .nilsl v30 0 h)

def s13 (Ψ : AVal → Heap → Prop) (a_Leq : AVal) (h : Heap) : Prop :=
  Sym.newRow 2 [(.agg [.nilsl, .nilsl])] h fun r h_ =>
  callG prog 35 [(.agg [a_Leq]), .nilsl] h_ fun v h_1 =>
  tTup v fun l_ =>
  tCons l_ fun v1 l_1 =>
  tCons l_1 fun v2 l_2 =>
  tInt .i64 v2 fun v3 =>
  tNil l_2 (
    tAgg v1 fun l_3 =>
    tCons l_3 fun v4 l_4 =>
    tInt .i64 v4 fun v5 =>
    tCons l_4 fun v6 l_5 =>
    tNil l_5 (
      Sym.newRow 2 [(.agg [(.int .i64 0), .nilfunc])] h_1 fun r1 h_2 =>
      st false h_2 (.ptr r1 0 0) [(.int .i64 v5), v6] fun h_3 =>
      ifT (v3 != 0) (
        st false h_3 (.ptr r 0 0) [.nilsl, .nilsl] fun h_4 =>
        ldN 2 h_4 (.ptr r 0 0) fun l_6 =>
        tCons l_6 fun v7 l_7 =>
        tCons l_7 fun v8 l_8 =>
        tNil l_8 (
          retG (.tuple [(.agg [v7, v8]), .nilsl, (.int .i64 v3)]) h_4 Ψ)) (
        ldN 2 h_3 (.ptr r1 0 0) fun l_9 =>
        tCons l_9 fun v9 l_10 =>
        tInt .i64 v9 fun v10 =>
        tCons l_10 fun v11 l_11 =>
        tNil l_11 (
          callG prog 36 [(.agg [(.int .i64 v10), v11])] h_3 fun v12 h_5 =>
          tTup v12 fun l_12 =>
          tCons l_12 fun v13 l_13 =>
          tInt .i64 v13 fun v14 =>
          tCons l_13 fun v15 l_14 =>
          tInt .i64 v15 fun v16 =>
          tNil l_14 (
            newMap h_5 fun r2 h_6 =>
            mapPut h_6 (.mapr r2) (.int .i64 v14) (.int .i64 1) fun h_7 =>
            ld1 h_7 (.ptr r1 0 0) fun v17 =>
            tInt .i64 v17 fun v18 =>
            s13l1_E (s13l1 Ψ) (.ptr r 0 0) (.ptr r1 0 0) (.mapr r2) v18 0 h_7)))))

def s13_A (Ψ : AVal → Heap → Prop) : Ann :=
  .seq (.reg [⟨none, [(0, true), (1, false), (2, false), (3, false)]⟩])
  (.seq (rA 8)
  (.seq (.seq (rA 2)
  (.cond (.seq (rA 5)
  (.leaf))
  (.leaf)))
  (.seq (rA 7)
  (.seq (rA 5)
  (.seq (.seq (rA 3)
  (.block (.loop [(2, .any), (5, .any), (9, .any), (40, .int .i64), (41, .int .i64)] (fun n l h => s13l1_R (s13l1 Ψ n) l h) (fun L1 =>
  .seq (rA 1)
  (.seq (.cond (.leaf)
  (.leaf))
  (.seq (.block (.seq (rA 2)
  (.seq (rA 3)
  (.block (.loop [(2, .any), (5, .any), (9, .any), (10, .int .i64), (40, .int .i64), (41, .int .i64), (45, .int .i64), (46, .int .i64)] (fun n l h => s13l2_R (s13l2 Ψ (fun y0 y1 y2 y3 y4 h => L1 [y0, y1, y2, (.int .i64 y3), (.int .i64 y4)] h) n) l h) (fun L2 =>
  .seq (rA 1)
  (.seq (.cond (.leaf)
  (.leaf))
  (.cut [(2, .any), (5, .any), (9, .any), (10, .int .i64), (40, .int .i64), (41, .int .i64), (45, .int .i64), (46, .int .i64)] (fun l h => J.cons l fun x0 l => J.cons l fun x1 l => J.cons l fun x2 l => J.cons l fun v l => J.int .i64 v fun x3 => J.cons l fun v l => J.int .i64 v fun x4 => J.cons l fun v l => J.int .i64 v fun x5 => J.cons l fun v l => J.int .i64 v fun x6 => J.cons l fun v l => J.int .i64 v fun x7 => J.nil l (s13c3 Ψ (fun y0 y1 y2 y3 y4 h => L1 [y0, y1, y2, (.int .i64 y3), (.int .i64 y4)] h) (fun y0 y1 y2 y3 y4 y5 y6 y7 h => L2 [y0, y1, y2, (.int .i64 y3), (.int .i64 y4), (.int .i64 y5), (.int .i64 y6), (.int .i64 y7)] h) x0 x1 x2 x3 x4 x5 x6 x7 h)) (.block (.seq (rA 2)
  (.seq (rA 9)
  (.cut [(2, .any), (5, .any), (9, .any), (10, .int .i64), (12, .int .i64), (40, .int .i64), (41, .int .i64), (45, .int .i64), (46, .int .i64), (63, .bool)] (fun l h => J.cons l fun x0 l => J.cons l fun x1 l => J.cons l fun x2 l => J.cons l fun v l => J.int .i64 v fun x3 => J.cons l fun v l => J.int .i64 v fun x4 => J.cons l fun v l => J.int .i64 v fun x5 => J.cons l fun v l => J.int .i64 v fun x6 => J.cons l fun v l => J.int .i64 v fun x7 => J.cons l fun v l => J.int .i64 v fun x8 => J.cons l fun v l => J.bool v fun x9 => J.nil l (s13c4 Ψ (fun y0 y1 y2 y3 y4 h => L1 [y0, y1, y2, (.int .i64 y3), (.int .i64 y4)] h) (fun y0 y1 y2 y3 y4 y5 y6 y7 h => L2 [y0, y1, y2, (.int .i64 y3), (.int .i64 y4), (.int .i64 y5), (.int .i64 y6), (.int .i64 y7)] h) x0 x1 x2 x3 x4 x5 x6 x7 x8 x9 h)) (.reg [⟨none, [(0, false), (1, false), (2, false), (3, false)]⟩, ⟨some (59, true), [(4, false), (5, false), (6, false)]⟩, ⟨none, [(7, false)]⟩])
  (.cond (rA 3)
  (.leaf))))))
  (rA 2)))))))))
  (rA 2)))))))
  (.seq (rA 1)
  (.seq (.seq (rA 3)
  (.block (.loop [(2, .any), (5, .any), (9, .any), (14, .any), (69, .int .i64), (70, .int .i64)] (fun n l h => s13l5_R (s13l5 Ψ n) l h) (fun L5 =>
  .seq (rA 1)
  (.seq (.cond (.leaf)
  (.leaf))
  (.cut [(2, .any), (5, .any), (9, .any), (14, .any), (69, .int .i64), (70, .int .i64)] (fun l h => J.cons l fun x0 l => J.cons l fun x1 l => J.cons l fun x2 l => J.cons l fun x3 l => J.cons l fun v l => J.int .i64 v fun x4 => J.cons l fun v l => J.int .i64 v fun x5 => J.nil l (s13c6 Ψ (fun y0 y1 y2 y3 y4 y5 h => L5 [y0, y1, y2, y3, (.int .i64 y4), (.int .i64 y5)] h) x0 x1 x2 x3 x4 x5 h)) (.block (.seq (rA 2)
  (.seq (rA 4)
  (.cond (.reg [⟨none, [(0, false), (1, false), (2, true), (3, false), (4, false)]⟩])
  (.leaf)))))
  (rA 2)))))))
  (.seq (.seq (rA 3)
  (.cond (.seq (rA 4)
  (.leaf))
  (.leaf)))
  (.seq (rA 1)
  (.seq (.seq (rA 3)
  (.block (.loop [(2, .any), (5, .any), (14, .any), (16, .any), (86, .any), (87, .int .i64), (88, .int .i64)] (fun n l h => s13l7_R (s13l7 Ψ n) l h) (fun L7 =>
  .seq (rA 1)
  (.seq (.cond (.leaf)
  (.leaf))
  (.seq (.block (.seq (rA 5)
  (.seq (rA 1)
  (.seq (.seq (rA 3)
  (.block (.loop [(2, .any), (5, .any), (14, .any), (16, .any), (17, .int .i64), (18, .int .i64), (19, .any), (86, .any), (87, .int .i64), (88, .int .i64), (93, .any), (94, .int .i64), (95, .int .i64)] (fun n l h => s13l8_R (s13l8 Ψ (fun y0 y1 y2 y3 y4 y5 y6 h => L7 [y0, y1, y2, y3, y4, (.int .i64 y5), (.int .i64 y6)] h) n) l h) (fun L8 =>
  .seq (rA 1)
  (.seq (.cond (.leaf)
  (.leaf))
  (.cut [(2, .any), (5, .any), (14, .any), (16, .any), (17, .int .i64), (18, .int .i64), (19, .any), (86, .any), (87, .int .i64), (88, .int .i64), (93, .any), (94, .int .i64), (95, .int .i64)] (fun l h => J.cons l fun x0 l => J.cons l fun x1 l => J.cons l fun x2 l => J.cons l fun x3 l => J.cons l fun v l => J.int .i64 v fun x4 => J.cons l fun v l => J.int .i64 v fun x5 => J.cons l fun x6 l => J.cons l fun x7 l => J.cons l fun v l => J.int .i64 v fun x8 => J.cons l fun v l => J.int .i64 v fun x9 => J.cons l fun x10 l => J.cons l fun v l => J.int .i64 v fun x11 => J.cons l fun v l => J.int .i64 v fun x12 => J.nil l (s13c9 Ψ (fun y0 y1 y2 y3 y4 y5 y6 h => L7 [y0, y1, y2, y3, y4, (.int .i64 y5), (.int .i64 y6)] h) (fun y0 y1 y2 y3 y4 y5 y6 y7 y8 y9 y10 y11 y12 h => L8 [y0, y1, y2, y3, (.int .i64 y4), (.int .i64 y5), y6, y7, (.int .i64 y8), (.int .i64 y9), y10, (.int .i64 y11), (.int .i64 y12)] h) x0 x1 x2 x3 x4 x5 x6 x7 x8 x9 x10 x11 x12 h)) (.block (.seq (rA 5)
  (.cut [(2, .any), (5, .any), (14, .any), (16, .any), (17, .int .i64), (18, .int .i64), (19, .any), (20, .int .i64), (86, .any), (87, .int .i64), (88, .int .i64), (93, .any), (94, .int .i64), (95, .int .i64), (109, .bool)] (fun l h => J.cons l fun x0 l => J.cons l fun x1 l => J.cons l fun x2 l => J.cons l fun x3 l => J.cons l fun v l => J.int .i64 v fun x4 => J.cons l fun v l => J.int .i64 v fun x5 => J.cons l fun x6 l => J.cons l fun v l => J.int .i64 v fun x7 => J.cons l fun x8 l => J.cons l fun v l => J.int .i64 v fun x9 => J.cons l fun v l => J.int .i64 v fun x10 => J.cons l fun x11 l => J.cons l fun v l => J.int .i64 v fun x12 => J.cons l fun v l => J.int .i64 v fun x13 => J.cons l fun v l => J.bool v fun x14 => J.nil l (s13c10 Ψ (fun y0 y1 y2 y3 y4 y5 y6 h => L7 [y0, y1, y2, y3, y4, (.int .i64 y5), (.int .i64 y6)] h) (fun y0 y1 y2 y3 y4 y5 y6 y7 y8 y9 y10 y11 y12 h => L8 [y0, y1, y2, y3, (.int .i64 y4), (.int .i64 y5), y6, y7, (.int .i64 y8), (.int .i64 y9), y10, (.int .i64 y11), (.int .i64 y12)] h) x0 x1 x2 x3 x4 x5 x6 x7 x8 x9 x10 x11 x12 x13 x14 h)) (.reg [⟨none, [(0, false), (1, false), (2, false), (3, false)]⟩, ⟨some (103, true), [(4, false), (5, false), (6, false), (7, false), (8, false)]⟩, ⟨none, [(9, false)]⟩])
  (.cond (.reg [⟨none, [(0, false), (1, false), (2, true), (3, false), (4, false)]⟩])
  (.leaf)))))
  (rA 2)))))))
  (.seq (.reg [⟨none, [(0, false), (1, false), (2, false), (3, true), (4, false), (5, false), (6, false)]⟩])
  (.reg [⟨none, [(0, false), (1, false), (2, true), (3, false), (4, false), (5, false)]⟩]))))))
  (rA 2)))))))
  (.seq (rA 6)
  (.seq (rA 5)
  (.leaf)))))))))))))

theorem s13_ok {Ψ : AVal → Heap → Prop} {a_Leq : AVal} {h : Heap} (H : s13 Ψ a_Leq h) : ACalls prog 13 [(.agg [a_Leq])] h Ψ :=
  calls_of_evF func13 (by kernel_rfl) (by kernel_rfl) (by kernel_rfl)
    (Eq.mpr (by as_aux_lemma => kernel_rfl : oblF prog f13 (s13_A Ψ) Ψ = (True ∧ True ∧ (True ∧ (True ∧ True) ∧ True) ∧ True ∧ True ∧ (True ∧ (∀ (h : Heap) (x0 x1 x2 : AVal) (x3 x4 : Int), ON (s13l1 Ψ 0 x0 x1 x2 x3 x4 h)) ∧ ∀ n1 : Nat, (∀ (h : Heap) (x0 x1 x2 : AVal) (x3 x4 : Int), OI (s13l1 Ψ (n1 + 1) x0 x1 x2 x3 x4 h)) ∧ (True ∧ (True ∧ True) ∧ (True ∧ True ∧ (∀ (h : Heap) (x0 x1 x2 : AVal) (x3 x4 x5 x6 x7 : Int), ON (s13l2 Ψ (s13l1_G (s13l1 Ψ n1)) 0 x0 x1 x2 x3 x4 x5 x6 x7 h)) ∧ ∀ n2 : Nat, (∀ (h : Heap) (x0 x1 x2 : AVal) (x3 x4 x5 x6 x7 : Int), OI (s13l2 Ψ (s13l1_G (s13l1 Ψ n1)) (n2 + 1) x0 x1 x2 x3 x4 x5 x6 x7 h)) ∧ (True ∧ (True ∧ True) ∧ (True ∧ True ∧ (True) ∧ (∀ (h : Heap) (x0 x1 x2 : AVal) (x3 x4 x5 x6 x7 x8 : Int) (x9 : Bool), OI (s13c4 Ψ (s13l1_G (s13l1 Ψ n1)) (s13l2_G (s13l2 Ψ (s13l1_G (s13l1 Ψ n1)) n2)) x0 x1 x2 x3 x4 x5 x6 x7 x8 x9 h)) ∧ (True ∧ True)) ∧ (∀ (h : Heap) (x0 x1 x2 : AVal) (x3 x4 x5 x6 x7 : Int), OI (s13c3 Ψ (s13l1_G (s13l1 Ψ n1)) (s13l2_G (s13l2 Ψ (s13l1_G (s13l1 Ψ n1)) n2)) x0 x1 x2 x3 x4 x5 x6 x7 h)) ∧ (True))) ∧ True)) ∧ True ∧ (True ∧ (∀ (h : Heap) (x0 x1 x2 x3 : AVal) (x4 x5 : Int), ON (s13l5 Ψ 0 x0 x1 x2 x3 x4 x5 h)) ∧ ∀ n5 : Nat, (∀ (h : Heap) (x0 x1 x2 x3 : AVal) (x4 x5 : Int), OI (s13l5 Ψ (n5 + 1) x0 x1 x2 x3 x4 x5 h)) ∧ (True ∧ (True ∧ True) ∧ (True ∧ True ∧ True ∧ True) ∧ (∀ (h : Heap) (x0 x1 x2 x3 : AVal) (x4 x5 : Int), OI (s13c6 Ψ (s13l5_G (s13l5 Ψ n5)) x0 x1 x2 x3 x4 x5 h)) ∧ (True))) ∧ (True ∧ (True ∧ True) ∧ True) ∧ True ∧ (True ∧ (∀ (h : Heap) (x0 x1 x2 x3 x4 : AVal) (x5 x6 : Int), ON (s13l7 Ψ 0 x0 x1 x2 x3 x4 x5 x6 h)) ∧ ∀ n7 : Nat, (∀ (h : Heap) (x0 x1 x2 x3 x4 : AVal) (x5 x6 : Int), OI (s13l7 Ψ (n7 + 1) x0 x1 x2 x3 x4 x5 x6 h)) ∧ (True ∧ (True ∧ True) ∧ (True ∧ True ∧ (True ∧ (∀ (h : Heap) (x0 x1 x2 x3 : AVal) (x4 x5 : Int) (x6 x7 : AVal) (x8 x9 : Int) (x10 : AVal) (x11 x12 : Int), ON (s13l8 Ψ (s13l7_G (s13l7 Ψ n7)) 0 x0 x1 x2 x3 x4 x5 x6 x7 x8 x9 x10 x11 x12 h)) ∧ ∀ n8 : Nat, (∀ (h : Heap) (x0 x1 x2 x3 : AVal) (x4 x5 : Int) (x6 x7 : AVal) (x8 x9 : Int) (x10 : AVal) (x11 x12 : Int), OI (s13l8 Ψ (s13l7_G (s13l7 Ψ n7)) (n8 + 1) x0 x1 x2 x3 x4 x5 x6 x7 x8 x9 x10 x11 x12 h)) ∧ (True ∧ (True ∧ True) ∧ (True ∧ (True) ∧ (∀ (h : Heap) (x0 x1 x2 x3 : AVal) (x4 x5 : Int) (x6 : AVal) (x7 : Int) (x8 : AVal) (x9 x10 : Int) (x11 : AVal) (x12 x13 : Int) (x14 : Bool), OI (s13c10 Ψ (s13l7_G (s13l7 Ψ n7)) (s13l8_G (s13l8 Ψ (s13l7_G (s13l7 Ψ n7)) n8)) x0 x1 x2 x3 x4 x5 x6 x7 x8 x9 x10 x11 x12 x13 x14 h)) ∧ (True ∧ True)) ∧ (∀ (h : Heap) (x0 x1 x2 x3 : AVal) (x4 x5 : Int) (x6 x7 : AVal) (x8 x9 : Int) (x10 : AVal) (x11 x12 : Int), OI (s13c9 Ψ (s13l7_G (s13l7 Ψ n7)) (s13l8_G (s13l8 Ψ (s13l7_G (s13l7 Ψ n7)) n8)) x0 x1 x2 x3 x4 x5 x6 x7 x8 x9 x10 x11 x12 h)) ∧ (True))) ∧ True ∧ True) ∧ True)) ∧ True ∧ True ∧ True)) ⟨trivial, ⟨trivial, ⟨⟨trivial, ⟨⟨trivial, trivial⟩, trivial⟩⟩, ⟨trivial, ⟨trivial, ⟨⟨trivial, ⟨fun _ _ _ _ _ _ H => H, fun _ => ⟨fun _ _ _ _ _ _ H => H, ⟨trivial, ⟨⟨trivial, trivial⟩, ⟨⟨trivial, ⟨trivial, ⟨fun _ _ _ _ _ _ _ _ _ H => H, fun _ => ⟨fun _ _ _ _ _ _ _ _ _ H => H, ⟨trivial, ⟨⟨trivial, trivial⟩, ⟨⟨trivial, ⟨trivial, ⟨trivial, fun _ _ _ _ _ _ _ _ _ _ _ H => H, ⟨trivial, trivial⟩⟩⟩⟩, fun _ _ _ _ _ _ _ _ _ H => H, trivial⟩⟩⟩⟩⟩⟩⟩, trivial⟩⟩⟩⟩⟩⟩, ⟨trivial, ⟨⟨trivial, ⟨fun _ _ _ _ _ _ _ H => H, fun _ => ⟨fun _ _ _ _ _ _ _ H => H, ⟨trivial, ⟨⟨trivial, trivial⟩, ⟨⟨trivial, ⟨trivial, ⟨trivial, trivial⟩⟩⟩, fun _ _ _ _ _ _ _ H => H, trivial⟩⟩⟩⟩⟩⟩, ⟨⟨trivial, ⟨⟨trivial, trivial⟩, trivial⟩⟩, ⟨trivial, ⟨⟨trivial, ⟨fun _ _ _ _ _ _ _ _ H => H, fun _ => ⟨fun _ _ _ _ _ _ _ _ H => H, ⟨trivial, ⟨⟨trivial, trivial⟩, ⟨⟨trivial, ⟨trivial, ⟨⟨trivial, ⟨fun _ _ _ _ _ _ _ _ _ _ _ _ _ _ H => H, fun _ => ⟨fun _ _ _ _ _ _ _ _ _ _ _ _ _ _ H => H, ⟨trivial, ⟨⟨trivial, trivial⟩, ⟨⟨trivial, ⟨trivial, fun _ _ _ _ _ _ _ _ _ _ _ _ _ _ _ _ H => H, ⟨trivial, trivial⟩⟩⟩, fun _ _ _ _ _ _ _ _ _ _ _ _ _ _ H => H, trivial⟩⟩⟩⟩⟩⟩, ⟨trivial, trivial⟩⟩⟩⟩, trivial⟩⟩⟩⟩⟩⟩, ⟨trivial, ⟨trivial, trivial⟩⟩⟩⟩⟩⟩⟩⟩⟩⟩⟩⟩⟩)
    (Eq.mpr (by as_aux_lemma => kernel_rfl : evF prog f13 (s13_A Ψ) Ψ [(.agg [a_Leq])] h = s13 Ψ a_Leq h) H)

/- 18 dictum/dictumref03.Ints -/
abbrev s18l1_T := AVal → AVal → Int → Heap → Prop
def s18l1_R (F : s18l1_T) (l : List AVal) (h : Heap) : Prop := J.cons l fun x0 l => J.cons l fun x1 l => J.cons l fun v l => J.int .i64 v fun x2 => J.nil l (F x0 x1 x2 h)
def s18l1_G (F : s18l1_T) (x0 x1 : AVal) (x2 : Int) (h : Heap) : Prop := gJ [.any, .any, .int .i64] [x0, x1, (.int .i64 x2)] h (s18l1_R F)
def s18l1_E (F : Nat → s18l1_T) (x0 x1 : AVal) (x2 : Int) (h : Heap) : Prop := gJ [.any, .any, .int .i64] [x0, x1, (.int .i64 x2)] h (fun l h => ∃ n, s18l1_R (F n) l h)
theorem s18l1_go {F : s18l1_T} {x0 x1 : AVal} {x2 : Int} {h : Heap} (H : F x0 x1 x2 h) : s18l1_G F x0 x1 x2 h := gJ_plain rfl H
theorem s18l1_in {F : Nat → s18l1_T} {x0 x1 : AVal} {x2 : Int} {h : Heap} (n : Nat) (H : F n x0 x1 x2 h) : s18l1_E F x0 x1 x2 h := gJ_plain rfl ⟨n, H⟩

def s18l1 (Ψ : AVal → Heap → Prop) : Nat → s18l1_T
  | 0, _, _, _, _ => False
  | n2 + 1, a1, b1, i, h =>
    lenN a1 fun n3 =>
    ifT (decide (i < n3)) (
      ixS 1 a1 i fun p =>
      ld1 h p fun v =>
      tInt .i64 v fun v1 =>
      ixS 1 b1 i fun p1 =>
      ld1 h p1 fun v2 =>
      tInt .i64 v2 fun v3 =>
      ifT (v1 != v3) (
        retG (.bool false) h Ψ) (
        rg (i + 1) (
          s18l1_G (s18l1 Ψ n2) a1 b1 (i + 1) h))) (
      retG (.bool true) h Ψ)

def s18 (Ψ : AVal → Heap → Prop) (a : AVal) (b : AVal) (h : Heap) : Prop :=
  lenN a fun n =>
  lenN b fun n1 =>
  ifT (n != n1) (
    retG (.bool false) h Ψ) (
    s18l1_E (s18l1 Ψ) a b 0 h)

def s18_A (Ψ : AVal → Heap → Prop) : Ann :=
  .seq (rA 1)
  (.seq (.seq (rA 5)
  (.cond (.seq (rA 1)
  (.leaf))
  (.leaf)))
  (.seq (.seq (rA 1)
  (.block (.loop [(0, .any), (1, .any), (5, .int .i64)] (fun n l h => s18l1_R (s18l1 Ψ n) l h) (fun L1 =>
  .seq (.seq (rA 4)
  (.cond (.leaf)
  (.leaf)))
  (.seq (.block (.seq (.draw [(0, false), (1, false), (2, false), (3, false), (4, false), (5, false), (6, false), (7, false), (8, false)] [0, 0, 3, 7, 0, 0, 48, 112, 255])
  (.cond (.seq (rA 1)
  (.leaf))
  (.leaf))))
  (rA 3))))))
  (.seq (rA 1)
  (.leaf))))

theorem s18_ok {Ψ : AVal → Heap → Prop} {a : AVal} {b : AVal} {h : Heap} (H : s18 Ψ a b h) : ACalls prog 18 [a, b] h Ψ :=
  calls_of_evF func18 (by kernel_rfl) (by kernel_rfl) (by kernel_rfl)
    (Eq.mpr (by as_aux_lemma => kernel_rfl : oblF prog f18 (s18_A Ψ) Ψ = (True ∧ (True ∧ (True ∧ True) ∧ True) ∧ (True ∧ (∀ (h : Heap) (x0 x1 : AVal) (x2 : Int), ON (s18l1 Ψ 0 x0 x1 x2 h)) ∧ ∀ n1 : Nat, (∀ (h : Heap) (x0 x1 : AVal) (x2 : Int), OI (s18l1 Ψ (n1 + 1) x0 x1 x2 h)) ∧ ((True ∧ True ∧ True) ∧ (True ∧ (True ∧ True) ∧ True) ∧ True)) ∧ True ∧ True)) ⟨trivial, ⟨⟨trivial, ⟨⟨trivial, trivial⟩, trivial⟩⟩, ⟨⟨trivial, ⟨fun _ _ _ _ H => H, fun _ => ⟨fun _ _ _ _ H => H, ⟨⟨trivial, ⟨trivial, trivial⟩⟩, ⟨⟨trivial, ⟨⟨trivial, trivial⟩, trivial⟩⟩, trivial⟩⟩⟩⟩⟩, ⟨trivial, trivial⟩⟩⟩⟩)
    (Eq.mpr (by as_aux_lemma => kernel_rfl : evF prog f18 (s18_A Ψ) Ψ [a, b] h = s18 Ψ a b h) H)

/- 20 dictum/dictumlaw03.Both -/
def s20 (Ψ : AVal → Heap → Prop) (rows : AVal) (h : Heap) : Prop :=
  Sym.newRow 4 [] h fun r h_ =>
  appC 4 40 h_ (.sl r 4 0 0) rows (litG true fun v h_1 =>
  callG prog 46 [rows] h_1 fun v1 h_2 =>
  tTup v1 fun l_ =>
  tCons l_ fun v2 l_1 =>
  tCons l_1 fun v3 l_2 =>
  tInt .i64 v3 fun v4 =>
  tNil l_2 (
    ifT (v4 != 0) (
      retG (.tuple [.nilptr, .nilptr, (.bool false)]) h_2 Ψ) (
      callG prog 47 [v] h_2 fun v5 h_3 =>
      tTup v5 fun l_3 =>
      tCons l_3 fun v6 l_4 =>
      tCons l_4 fun v7 l_5 =>
      tInt .i64 v7 fun v8 =>
      tNil l_5 (
        retG (.tuple [v6, v2, (.bool true)]) h_3 Ψ))))

def s20_A (Ψ : AVal → Heap → Prop) : Ann :=
  .seq (rA 3)
  (.seq (.reg [⟨none, [(0, false), (1, false), (2, true), (3, false)]⟩])
  (.seq (rA 7)
  (.seq (.seq (rA 2)
  (.cond (.seq (rA 3)
  (.leaf))
  (.leaf)))
  (.seq (rA 7)
  (.seq (rA 5)
  (.leaf))))))

theorem s20_ok {Ψ : AVal → Heap → Prop} {rows : AVal} {h : Heap} (H : s20 Ψ rows h) : ACalls prog 20 [rows] h Ψ :=
  calls_of_evF func20 (by kernel_rfl) (by kernel_rfl) (by kernel_rfl)
    (Eq.mpr (by as_aux_lemma => kernel_rfl : oblF prog f20 (s20_A Ψ) Ψ = (True ∧ True ∧ True ∧ (True ∧ (True ∧ True) ∧ True) ∧ True ∧ True ∧ True)) ⟨trivial, ⟨trivial, ⟨trivial, ⟨⟨trivial, ⟨⟨trivial, trivial⟩, trivial⟩⟩, ⟨trivial, ⟨trivial, trivial⟩⟩⟩⟩⟩⟩)
    (Eq.mpr (by as_aux_lemma => kernel_rfl : evF prog f20 (s20_A Ψ) Ψ [rows] h = s20 Ψ rows h) H)

/- 22 dictum/dictumref23.Value -/
abbrev s22l1_T := AVal → Int → AVal → AVal → Int → Heap → Prop
def s22l1_R (F : s22l1_T) (l : List AVal) (h : Heap) : Prop := J.cons l fun x0 l => J.cons l fun v l => J.int .i64 v fun x1 => J.cons l fun x2 l => J.cons l fun x3 l => J.cons l fun v l => J.int .i64 v fun x4 => J.nil l (F x0 x1 x2 x3 x4 h)
def s22l1_G (F : s22l1_T) (x0 : AVal) (x1 : Int) (x2 x3 : AVal) (x4 : Int) (h : Heap) : Prop := gJ [.any, .int .i64, .any, .any, .int .i64] [x0, (.int .i64 x1), x2, x3, (.int .i64 x4)] h (s22l1_R F)
def s22l1_E (F : Nat → s22l1_T) (x0 : AVal) (x1 : Int) (x2 x3 : AVal) (x4 : Int) (h : Heap) : Prop := gJ [.any, .int .i64, .any, .any, .int .i64] [x0, (.int .i64 x1), x2, x3, (.int .i64 x4)] h (fun l h => ∃ n, s22l1_R (F n) l h)
theorem s22l1_go {F : s22l1_T} {x0 : AVal} {x1 : Int} {x2 x3 : AVal} {x4 : Int} {h : Heap} (H : F x0 x1 x2 x3 x4 h) : s22l1_G F x0 x1 x2 x3 x4 h := gJ_plain rfl H
theorem s22l1_in {F : Nat → s22l1_T} {x0 : AVal} {x1 : Int} {x2 x3 : AVal} {x4 : Int} {h : Heap} (n : Nat) (H : F n x0 x1 x2 x3 x4 h) : s22l1_E F x0 x1 x2 x3 x4 h := gJ_plain rfl ⟨n, H⟩

abbrev s22l3_T := AVal → Int → AVal → AVal → Int → Int → Heap → Prop
def s22l3_R (F : s22l3_T) (l : List AVal) (h : Heap) : Prop := J.cons l fun x0 l => J.cons l fun v l => J.int .i64 v fun x1 => J.cons l fun x2 l => J.cons l fun x3 l => J.cons l fun v l => J.int .i64 v fun x4 => J.cons l fun v l => J.int .i64 v fun x5 => J.nil l (F x0 x1 x2 x3 x4 x5 h)
def s22l3_G (F : s22l3_T) (x0 : AVal) (x1 : Int) (x2 x3 : AVal) (x4 x5 : Int) (h : Heap) : Prop := gJ [.any, .int .i64, .any, .any, .int .i64, .int .i64] [x0, (.int .i64 x1), x2, x3, (.int .i64 x4), (.int .i64 x5)] h (s22l3_R F)
def s22l3_E (F : Nat → s22l3_T) (x0 : AVal) (x1 : Int) (x2 x3 : AVal) (x4 x5 : Int) (h : Heap) : Prop := gJ [.any, .int .i64, .any, .any, .int .i64, .int .i64] [x0, (.int .i64 x1), x2, x3, (.int .i64 x4), (.int .i64 x5)] h (fun l h => ∃ n, s22l3_R (F n) l h)
theorem s22l3_go {F : s22l3_T} {x0 : AVal} {x1 : Int} {x2 x3 : AVal} {x4 x5 : Int} {h : Heap} (H : F x0 x1 x2 x3 x4 x5 h) : s22l3_G F x0 x1 x2 x3 x4 x5 h := gJ_plain rfl H
theorem s22l3_in {F : Nat → s22l3_T} {x0 : AVal} {x1 : Int} {x2 x3 : AVal} {x4 x5 : Int} {h : Heap} (n : Nat) (H : F n x0 x1 x2 x3 x4 x5 h) : s22l3_E F x0 x1 x2 x3 x4 x5 h := gJ_plain rfl ⟨n, H⟩

def s22l3 (Ψ : AVal → Heap → Prop) (L1 : s22l1_T) : Nat → s22l3_T
  | 0, _, _, _, _, _, _, _ => False
  | n2 + 1, t3, id_3, by_3, h_4, i2, k, h =>
    ifT (decide (k < i2)) (
      ixS 2 by_3 k fun p =>
      addOff p 0 fun p1 =>
      ld1 h p1 fun v6 =>
      tStr v6 fun v7 =>
      ixS 2 by_3 i2 fun p2 =>
      addOff p2 0 fun p3 =>
      ld1 h p3 fun v8 =>
      tStr v8 fun v9 =>
      ifT (strEq v7 v9) (
        retG (.tuple [(.int .i64 0), (.int .i64 2)]) h Ψ) (
        rg (k + 1) (
          s22l3_G (s22l3 Ψ L1 n2) t3 id_3 by_3 h_4 i2 (k + 1) h))) (
      rg (i2 + 1) (
        L1 t3 id_3 by_3 h_4 (i2 + 1) h))

def s22c2 (Ψ : AVal → Heap → Prop) (L1 : s22l1_T) (t2 : AVal) (id_2 : Int) (by_2 h_3 : AVal) (i1 : Int) (t56 : Bool) (h : Heap) : Prop :=
  ifT t56 (
    retG (.tuple [(.int .i64 0), (.int .i64 2)]) h Ψ) (
    s22l3_E (s22l3 Ψ L1) t2 id_2 by_2 h_3 i1 0 h)

abbrev s22l4_T := AVal → Int → AVal → AVal → Int → AVal → AVal → Int → Heap → Prop
def s22l4_R (F : s22l4_T) (l : List AVal) (h : Heap) : Prop := J.cons l fun x0 l => J.cons l fun v l => J.int .i64 v fun x1 => J.cons l fun x2 l => J.cons l fun x3 l => J.cons l fun v l => J.int .i64 v fun x4 => J.cons l fun x5 l => J.cons l fun x6 l => J.cons l fun v l => J.int .i64 v fun x7 => J.nil l (F x0 x1 x2 x3 x4 x5 x6 x7 h)
def s22l4_G (F : s22l4_T) (x0 : AVal) (x1 : Int) (x2 x3 : AVal) (x4 : Int) (x5 x6 : AVal) (x7 : Int) (h : Heap) : Prop := gJ [.any, .int .i64, .any, .any, .int .i64, .any, .any, .int .i64] [x0, (.int .i64 x1), x2, x3, (.int .i64 x4), x5, x6, (.int .i64 x7)] h (s22l4_R F)
def s22l4_E (F : Nat → s22l4_T) (x0 : AVal) (x1 : Int) (x2 x3 : AVal) (x4 : Int) (x5 x6 : AVal) (x7 : Int) (h : Heap) : Prop := gJ [.any, .int .i64, .any, .any, .int .i64, .any, .any, .int .i64] [x0, (.int .i64 x1), x2, x3, (.int .i64 x4), x5, x6, (.int .i64 x7)] h (fun l h => ∃ n, s22l4_R (F n) l h)
theorem s22l4_go {F : s22l4_T} {x0 : AVal} {x1 : Int} {x2 x3 : AVal} {x4 : Int} {x5 x6 : AVal} {x7 : Int} {h : Heap} (H : F x0 x1 x2 x3 x4 x5 x6 x7 h) : s22l4_G F x0 x1 x2 x3 x4 x5 x6 x7 h := gJ_plain rfl H
theorem s22l4_in {F : Nat → s22l4_T} {x0 : AVal} {x1 : Int} {x2 x3 : AVal} {x4 : Int} {x5 x6 : AVal} {x7 : Int} {h : Heap} (n : Nat) (H : F n x0 x1 x2 x3 x4 x5 x6 x7 h) : s22l4_E F x0 x1 x2 x3 x4 x5 x6 x7 h := gJ_plain rfl ⟨n, H⟩

def s22c5 (Ψ : AVal → Heap → Prop) (L4 : s22l4_T) (t5 : AVal) (id_5 : Int) (by_5 h_9 : AVal) (low1 : Int) (l_10 v27 : AVal) (i4 : Int) (h : Heap) : Prop :=
  rg (i4 + 1) (
    L4 t5 id_5 by_5 h_9 low1 l_10 v27 (i4 + 1) h)

def s22l4 (Ψ : AVal → Heap → Prop) : Nat → s22l4_T
  | 0, _, _, _, _, _, _, _, _, _ => False
  | n6 + 1, t4, id_4, by_4, h_8, low, l_9, v26, i3, h =>
    lenN l_9 fun n7 =>
    ifT (decide (i3 < n7)) (
      nilCheckA t4 fun p12 =>
      addOff p12 0 fun p13 =>
      ld1 h p13 fun v28 =>
      ixS 1 l_9 i3 fun p14 =>
      ld1 h p14 fun v29 =>
      tInt .i64 v29 fun v30 =>
      ixS 4 v28 v30 fun p15 =>
      ldN 4 h p15 fun l_11 =>
      tCons l_11 fun v31 l_12 =>
      tInt .i64 v31 fun v32 =>
      tCons l_12 fun v33 l_13 =>
      tStr v33 fun v34 =>
      tCons l_13 fun v35 l_14 =>
      tInt .i64 v35 fun v36 =>
      tCons l_14 fun v37 l_15 =>
      tInt .i64 v37 fun v38 =>
      tNil l_15 (
        Sym.newRow 4 [(.agg [(.int .i64 0), (.str (ByteArray.mk #[])), (.int .i64 0), (.int .i64 0)])] h fun r h_10 =>
        (ldN 4 h_10 p15 fun l_16 =>
        (AVal.agg l_16) = (.agg [(.int .i64 v32), (.str v34), (.int .i64 v36), (.int .i64 v38)])) ∧
        (ld1 h_10 p14 fun v39 =>
        v39 = (.int .i64 v30)) ∧
        (ld1 h_10 p13 fun v40 =>
        v40 = v28) ∧
        st false h_10 (.ptr r 0 0) [(.int .i64 v32), (.str v34), (.int .i64 v36), (.int .i64 v38)] fun h_11 =>
        ld1 h_11 (.ptr r 0 0) fun v41 =>
        tInt .i64 v41 fun v42 =>
        ifT (v42 == 1) (
          ixS 1 l_9 i3 fun p16 =>
          ld1 h_11 p16 fun v43 =>
          tInt .i64 v43 fun v44 =>
          ld1 h_11 (.ptr r 0 1) fun v45 =>
          tStr v45 fun v46 =>
          callG prog 53 [by_4, (.str v46)] h_11 fun v47 h_12 =>
          tInt .i64 v47 fun v48 =>
          (ld1 h_12 p16 fun v49 =>
          v49 = (.int .i64 v44)) ∧
          ixS 1 v26 v44 fun p17 =>
          st true h_12 p17 [(.int .i64 v48)] fun h_13 =>
          ixS 1 l_9 i3 fun p18 =>
          ld1 h_13 p18 fun v50 =>
          tInt .i64 v50 fun v51 =>
          ixS 1 v26 v51 fun p19 =>
          ld1 h_13 p19 fun v52 =>
          tInt .i64 v52 fun v53 =>
          ifT (decide (v53 < 0)) (
            retG (.tuple [(.int .i64 0), (.int .i64 2)]) h_13 Ψ) (
            s22c5 Ψ (s22l4_G (s22l4 Ψ n6)) t4 id_4 by_4 h_8 low l_9 v26 i3 h_13)) (
          ifT (v42 == 2) (
            ixS 1 l_9 i3 fun p20 =>
            ld1 h_11 p20 fun v54 =>
            tInt .i64 v54 fun v55 =>
            ixS 1 v26 v55 fun p21 =>
            st true h_11 p21 [(.int .i64 low)] fun h_14 =>
            s22c5 Ψ (s22l4_G (s22l4 Ψ n6)) t4 id_4 by_4 h_8 low l_9 v26 i3 h_14) (
            ifT (v42 == 3) (
              ixS 1 l_9 i3 fun p22 =>
              ld1 h_11 p22 fun v56 =>
              tInt .i64 v56 fun v57 =>
              nilCheckA h_8 fun p23 =>
              addOff p23 1 fun p24 =>
              ld1 h_11 p24 fun v58 =>
              ld1 h_11 (.ptr r 0 2) fun v59 =>
              tInt .i64 v59 fun v60 =>
              ixS 1 v26 v60 fun p25 =>
              ld1 h_11 p25 fun v61 =>
              tInt .i64 v61 fun v62 =>
              ixS 1 v58 v62 fun p26 =>
              ld1 h_11 p26 fun v63 =>
              ld1 h_11 (.ptr r 0 3) fun v64 =>
              tInt .i64 v64 fun v65 =>
              ixS 1 v26 v65 fun p27 =>
              ld1 h_11 p27 fun v66 =>
              tInt .i64 v66 fun v67 =>
              ixS 1 v63 v67 fun p28 =>
              ld1 h_11 p28 fun v68 =>
              tInt .i64 v68 fun v69 =>
              ixS 1 v26 v57 fun p29 =>
              st true h_11 p29 [(.int .i64 v69)] fun h_15 =>
              s22c5 Ψ (s22l4_G (s22l4 Ψ n6)) t4 id_4 by_4 h_8 low l_9 v26 i3 h_15) (
              ifT (v42 == 4) (
                ixS 1 l_9 i3 fun p30 =>
                ld1 h_11 p30 fun v70 =>
                tInt .i64 v70 fun v71 =>
                nilCheckA h_8 fun p31 =>
                addOff p31 2 fun p32 =>
                ld1 h_11 p32 fun v72 =>
                ld1 h_11 (.ptr r 0 2) fun v73 =>
                tInt .i64 v73 fun v74 =>
                ixS 1 v26 v74 fun p33 =>
                ld1 h_11 p33 fun v75 =>
                tInt .i64 v75 fun v76 =>
                ixS 1 v72 v76 fun p34 =>
                ld1 h_11 p34 fun v77 =>
                ld1 h_11 (.ptr r 0 3) fun v78 =>
                tInt .i64 v78 fun v79 =>
                ixS 1 v26 v79 fun p35 =>
                ld1 h_11 p35 fun v80 =>
                tInt .i64 v80 fun v81 =>
                ixS 1 v77 v81 fun p36 =>
                ld1 h_11 p36 fun v82 =>
                tInt .i64 v82 fun v83 =>
                ixS 1 v26 v71 fun p37 =>
                st true h_11 p37 [(.int .i64 v83)] fun h_16 =>
                s22c5 Ψ (s22l4_G (s22l4 Ψ n6)) t4 id_4 by_4 h_8 low l_9 v26 i3 h_16) (
                ixS 1 l_9 i3 fun p38 =>
                ld1 h_11 p38 fun v84 =>
                tInt .i64 v84 fun v85 =>
                ld1 h_11 (.ptr r 0 2) fun v86 =>
                tInt .i64 v86 fun v87 =>
                ixS 1 v26 v87 fun p39 =>
                ld1 h_11 p39 fun v88 =>
                tInt .i64 v88 fun v89 =>
                ld1 h_11 (.ptr r 0 3) fun v90 =>
                tInt .i64 v90 fun v91 =>
                ixS 1 v26 v91 fun p40 =>
                ld1 h_11 p40 fun v92 =>
                tInt .i64 v92 fun v93 =>
                callG prog 54 [h_8, (.int .i64 v89), (.int .i64 v93)] h_11 fun v94 h_17 =>
                tInt .i64 v94 fun v95 =>
                (ld1 h_17 p38 fun v96 =>
                v96 = (.int .i64 v85)) ∧
                ixS 1 v26 v85 fun p41 =>
                st true h_17 p41 [(.int .i64 v95)] fun h_18 =>
                s22c5 Ψ (s22l4_G (s22l4 Ψ n6)) t4 id_4 by_4 h_8 low l_9 v26 i3 h_18)))))) (
      ixS 1 v26 id_4 fun p42 =>
      ld1 h p42 fun v97 =>
      tInt .i64 v97 fun v98 =>
      retG (.tuple [(.int .i64 v98), (.int .i64 0)]) h Ψ)

def s22l1 (Ψ : AVal → Heap → Prop) : Nat → s22l1_T
  | 0, _, _, _, _, _, _ => False
  | n + 1, t1, id_1, by_1, h_2, i, h =>
    lenN by_1 fun n1 =>
    ifT (decide (i < n1)) (
      ixS 2 by_1 i fun p4 =>
      addOff p4 1 fun p5 =>
      ld1 h p5 fun v10 =>
      tInt .i64 v10 fun v11 =>
      ifT (decide (v11 < 0)) (
        s22c2 Ψ (s22l1_G (s22l1 Ψ n)) t1 id_1 by_1 h_2 i true h) (
        ixS 2 by_1 i fun p6 =>
        addOff p6 1 fun p7 =>
        ld1 h p7 fun v12 =>
        tInt .i64 v12 fun v13 =>
        nilCheckA h_2 fun p8 =>
        addOff p8 0 fun p9 =>
        ld1 h p9 fun v14 =>
        lenN v14 fun n4 =>
        s22c2 Ψ (s22l1_G (s22l1 Ψ n)) t1 id_1 by_1 h_2 i (decide (n4 ≤ v13)) h)) (
      callG prog 40 [h_2] h fun v15 h_5 =>
      tTup v15 fun l_3 =>
      tCons l_3 fun v16 l_4 =>
      tInt .i64 v16 fun v17 =>
      tCons l_4 fun v18 l_5 =>
      tInt .i64 v18 fun v19 =>
      tNil l_5 (
        callG prog 52 [t1, (.int .i64 id_1)] h_5 fun v20 h_6 =>
        tTup v20 fun l_6 =>
        tCons l_6 fun v21 l_7 =>
        tCons l_7 fun v22 l_8 =>
        tInt .i64 v22 fun v23 =>
        tNil l_8 (
          nilCheckA t1 fun p10 =>
          addOff p10 0 fun p11 =>
          ld1 h_6 p11 fun v24 =>
          lenN v24 fun n5 =>
          mkS false 1 8 (.int .i64 0) h_6 n5 n5 fun v25 h_7 =>
          s22l4_E (s22l4 Ψ) t1 id_1 by_1 h_2 v17 v21 v25 0 h_7)))

def s22 (Ψ : AVal → Heap → Prop) (a_Leq : AVal) (t : AVal) (id_ : Int) (by_ : AVal) (h : Heap) : Prop :=
  callG prog 39 [(.agg [a_Leq])] h fun v h_ =>
  tTup v fun l_ =>
  tCons l_ fun v1 l_1 =>
  tCons l_1 fun v2 l_2 =>
  tBool v2 fun v3 =>
  tNil l_2 (
    ifT (!v3) (
      retG (.tuple [(.int .i64 0), (.int .i64 230)]) h_ Ψ) (
      callG prog 24 [t, (.int .i64 id_)] h_ fun v4 h_1 =>
      tBool v4 fun v5 =>
      ifT (!v5) (
        retG (.tuple [(.int .i64 0), (.int .i64 31)]) h_1 Ψ) (
        s22l1_E (s22l1 Ψ) t id_ by_ v1 0 h_1)))

def s22_A (Ψ : AVal → Heap → Prop) : Ann :=
  .seq (.reg [⟨none, [(0, true), (1, false), (2, false)]⟩])
  (.seq (rA 7)
  (.seq (.seq (rA 2)
  (.cond (.seq (rA 2)
  (.leaf))
  (.leaf)))
  (.seq (.seq (rA 4)
  (.cond (.seq (rA 2)
  (.leaf))
  (.leaf)))
  (.seq (.seq (rA 1)
  (.block (.loop [(1, .any), (2, .int .i64), (3, .any), (10, .any), (12, .int .i64)] (fun n l h => s22l1_R (s22l1 Ψ n) l h) (fun L1 =>
  .seq (.seq (rA 4)
  (.cond (.leaf)
  (.leaf)))
  (.seq (.block (.seq (.cut [(1, .any), (2, .int .i64), (3, .any), (10, .any), (12, .int .i64), (56, .bool)] (fun l h => J.cons l fun x0 l => J.cons l fun v l => J.int .i64 v fun x1 => J.cons l fun x2 l => J.cons l fun x3 l => J.cons l fun v l => J.int .i64 v fun x4 => J.cons l fun v l => J.bool v fun x5 => J.nil l (s22c2 Ψ (fun y0 y1 y2 y3 y4 h => L1 [y0, (.int .i64 y1), y2, y3, (.int .i64 y4)] h) x0 x1 x2 x3 x4 x5 h)) (.draw [(0, false), (1, false), (2, false), (3, false), (4, false), (5, false), (6, false), (7, false), (8, false), (9, false), (10, false), (11, false), (12, false), (13, false), (14, false), (15, false), (16, false), (17, false), (18, false)] [0, 0, 3, 7, 15, 31, 63, 127, 127, 511, 1023, 2047, 127, 4223, 12415, 28799, 61567, 131071, 262143])
  (.cond (.seq (rA 2)
  (.leaf))
  (.leaf)))
  (.seq (rA 1)
  (.block (.loop [(1, .any), (2, .int .i64), (3, .any), (10, .any), (12, .int .i64), (13, .int .i64)] (fun n l h => s22l3_R (s22l3 Ψ (fun y0 y1 y2 y3 y4 h => L1 [y0, (.int .i64 y1), y2, y3, (.int .i64 y4)] h) n) l h) (fun L3 =>
  .seq (.seq (rA 3)
  (.cond (.leaf)
  (.leaf)))
  (.seq (.block (.seq (.draw [(0, false), (1, false), (2, false), (3, false), (4, false), (5, false), (6, false), (7, false), (8, false), (9, false), (10, false)] [0, 0, 3, 7, 15, 0, 0, 96, 224, 480, 1023])
  (.cond (.seq (rA 2)
  (.leaf))
  (.leaf))))
  (rA 3))))))))
  (rA 3))))))
  (.seq (rA 7)
  (.seq (rA 8)
  (.seq (rA 7)
  (.seq (.seq (rA 1)
  (.block (.loop [(1, .any), (2, .int .i64), (3, .any), (10, .any), (14, .int .i64), (16, .any), (18, .any), (19, .int .i64)] (fun n l h => s22l4_R (s22l4 Ψ n) l h) (fun L4 =>
  .seq (.seq (rA 4)
  (.cond (.leaf)
  (.leaf)))
  (.cut [(1, .any), (2, .int .i64), (3, .any), (10, .any), (14, .int .i64), (16, .any), (18, .any), (19, .int .i64)] (fun l h => J.cons l fun x0 l => J.cons l fun v l => J.int .i64 v fun x1 => J.cons l fun x2 l => J.cons l fun x3 l => J.cons l fun v l => J.int .i64 v fun x4 => J.cons l fun x5 l => J.cons l fun x6 l => J.cons l fun v l => J.int .i64 v fun x7 => J.nil l (s22c5 Ψ (fun y0 y1 y2 y3 y4 y5 y6 y7 h => L4 [y0, (.int .i64 y1), y2, y3, (.int .i64 y4), y5, y6, (.int .i64 y7)] h) x0 x1 x2 x3 x4 x5 x6 x7 h)) (.block (.seq (.draw [(0, false), (1, false), (2, false), (3, false), (4, false), (5, false), (6, false), (7, false), (8, false), (9, false), (10, false), (11, false)] [0, 1, 3, 7, 0, 0, 48, 112, 255, 511, 0, 2047])
  (.seq (rA 2)
  (.block (.seq (rA 2)
  (.cond (.seq (.draw [(0, false), (1, false), (2, false), (3, false), (4, false), (5, false), (6, false), (7, false), (8, false), (9, false), (10, false)] [0, 0, 0, 6, 14, 0, 0, 64, 224, 511, 1023])
  (.seq (rA 8)
  (.cond (.seq (rA 2)
  (.leaf))
  (.leaf))))
  (.seq (rA 2)
  (.cond (rA 8)
  (.seq (rA 2)
  (.cond (.draw [(0, false), (1, false), (2, false), (3, false), (4, false), (5, false), (6, false), (7, false), (8, false), (9, false), (10, false), (11, false), (12, false), (13, false), (14, false), (15, false), (16, false), (17, false), (18, false), (19, false), (20, false), (21, false), (22, false), (23, false), (24, false)] [0, 0, 0, 6, 14, 0, 32, 96, 224, 0, 0, 1024, 3584, 7680, 16352, 32736, 0, 0, 131072, 458752, 983040, 2097120, 4194272, 8388607, 16777215])
  (.seq (rA 2)
  (.cond (.draw [(0, false), (1, false), (2, false), (3, false), (4, false), (5, false), (6, false), (7, false), (8, false), (9, false), (10, false), (11, false), (12, false), (13, false), (14, false), (15, false), (16, false), (17, false), (18, false), (19, false), (20, false), (21, false), (22, false), (23, false), (24, false)] [0, 0, 0, 6, 14, 0, 32, 96, 224, 0, 0, 1024, 3584, 7680, 16352, 32736, 0, 0, 131072, 458752, 983040, 2097120, 4194272, 8388607, 16777215])
  (.draw [(0, false), (1, false), (2, false), (3, false), (4, false), (5, false), (6, false), (7, false), (8, false), (9, false), (10, false), (11, false), (12, false), (13, false), (14, false), (15, false), (16, false), (17, false), (18, false)] [0, 0, 0, 6, 14, 0, 0, 0, 128, 448, 960, 0, 0, 4096, 14336, 30720, 65504, 131071, 262143])))))))))))))
  (rA 3))))))
  (.seq (rA 6)
  (.leaf))))))))))

theorem s22_ok {Ψ : AVal → Heap → Prop} {a_Leq : AVal} {t : AVal} {id_ : Int} {by_ : AVal} {h : Heap} (H : s22 Ψ a_Leq t id_ by_ h) : ACalls prog 22 [(.agg [a_Leq]), t, (.int .i64 id_), by_] h Ψ :=
  calls_of_evF func22 (by kernel_rfl) (by kernel_rfl) (by kernel_rfl)
    (Eq.mpr (by as_aux_lemma => kernel_rfl : oblF prog f22 (s22_A Ψ) Ψ = (True ∧ True ∧ (True ∧ (True ∧ True) ∧ True) ∧ (True ∧ (True ∧ True) ∧ True) ∧ (True ∧ (∀ (h : Heap) (x0 : AVal) (x1 : Int) (x2 x3 : AVal) (x4 : Int), ON (s22l1 Ψ 0 x0 x1 x2 x3 x4 h)) ∧ ∀ n1 : Nat, (∀ (h : Heap) (x0 : AVal) (x1 : Int) (x2 x3 : AVal) (x4 : Int), OI (s22l1 Ψ (n1 + 1) x0 x1 x2 x3 x4 h)) ∧ ((True ∧ True ∧ True) ∧ (((True) ∧ (∀ (h : Heap) (x0 : AVal) (x1 : Int) (x2 x3 : AVal) (x4 : Int) (x5 : Bool), OI (s22c2 Ψ (s22l1_G (s22l1 Ψ n1)) x0 x1 x2 x3 x4 x5 h)) ∧ ((True ∧ True) ∧ True)) ∧ True ∧ (∀ (h : Heap) (x0 : AVal) (x1 : Int) (x2 x3 : AVal) (x4 x5 : Int), ON (s22l3 Ψ (s22l1_G (s22l1 Ψ n1)) 0 x0 x1 x2 x3 x4 x5 h)) ∧ ∀ n3 : Nat, (∀ (h : Heap) (x0 : AVal) (x1 : Int) (x2 x3 : AVal) (x4 x5 : Int), OI (s22l3 Ψ (s22l1_G (s22l1 Ψ n1)) (n3 + 1) x0 x1 x2 x3 x4 x5 h)) ∧ ((True ∧ True ∧ True) ∧ (True ∧ (True ∧ True) ∧ True) ∧ True)) ∧ True)) ∧ True ∧ True ∧ True ∧ (True ∧ (∀ (h : Heap) (x0 : AVal) (x1 : Int) (x2 x3 : AVal) (x4 : Int) (x5 x6 : AVal) (x7 : Int), ON (s22l4 Ψ 0 x0 x1 x2 x3 x4 x5 x6 x7 h)) ∧ ∀ n4 : Nat, (∀ (h : Heap) (x0 : AVal) (x1 : Int) (x2 x3 : AVal) (x4 : Int) (x5 x6 : AVal) (x7 : Int), OI (s22l4 Ψ (n4 + 1) x0 x1 x2 x3 x4 x5 x6 x7 h)) ∧ ((True ∧ True ∧ True) ∧ (True ∧ True ∧ True ∧ (True ∧ True ∧ (True ∧ True) ∧ True) ∧ True ∧ True ∧ True ∧ True ∧ True ∧ True ∧ True) ∧ (∀ (h : Heap) (x0 : AVal) (x1 : Int) (x2 x3 : AVal) (x4 : Int) (x5 x6 : AVal) (x7 : Int), OI (s22c5 Ψ (s22l4_G (s22l4 Ψ n4)) x0 x1 x2 x3 x4 x5 x6 x7 h)) ∧ (True))) ∧ True ∧ True)) ⟨trivial, ⟨trivial, ⟨⟨trivial, ⟨⟨trivial, trivial⟩, trivial⟩⟩, ⟨⟨trivial, ⟨⟨trivial, trivial⟩, trivial⟩⟩, ⟨⟨trivial, ⟨fun _ _ _ _ _ _ H => H, fun _ => ⟨fun _ _ _ _ _ _ H => H, ⟨⟨trivial, ⟨trivial, trivial⟩⟩, ⟨⟨⟨trivial, fun _ _ _ _ _ _ _ H => H, ⟨⟨trivial, trivial⟩, trivial⟩⟩, ⟨trivial, ⟨fun _ _ _ _ _ _ _ H => H, fun _ => ⟨fun _ _ _ _ _ _ _ H => H, ⟨⟨trivial, ⟨trivial, trivial⟩⟩, ⟨⟨trivial, ⟨⟨trivial, trivial⟩, trivial⟩⟩, trivial⟩⟩⟩⟩⟩⟩, trivial⟩⟩⟩⟩⟩, ⟨trivial, ⟨trivial, ⟨trivial, ⟨⟨trivial, ⟨fun _ _ _ _ _ _ _ _ _ H => H, fun _ => ⟨fun _ _ _ _ _ _ _ _ _ H => H, ⟨⟨trivial, ⟨trivial, trivial⟩⟩, ⟨⟨trivial, ⟨trivial, ⟨trivial, ⟨⟨trivial, ⟨trivial, ⟨⟨trivial, trivial⟩, trivial⟩⟩⟩, ⟨trivial, ⟨trivial, ⟨trivial, ⟨trivial, ⟨trivial, ⟨trivial, trivial⟩⟩⟩⟩⟩⟩⟩⟩⟩⟩, fun _ _ _ _ _ _ _ _ _ H => H, trivial⟩⟩⟩⟩⟩, ⟨trivial, trivial⟩⟩⟩⟩⟩⟩⟩⟩⟩⟩)
    (Eq.mpr (by as_aux_lemma => kernel_rfl : evF prog f22 (s22_A Ψ) Ψ [(.agg [a_Leq]), t, (.int .i64 id_), by_] h = s22 Ψ a_Leq t id_ by_ h) H)

/- 24 (*dictum/dictumref03.T).Has -/
def s24 (Ψ : AVal → Heap → Prop) (t : AVal) (id_ : Int) (h : Heap) : Prop :=
  ifT (decide (0 ≤ id_)) (
    nilCheckA t fun p =>
    addOff p 0 fun p1 =>
    ld1 h p1 fun v =>
    lenN v fun n =>
    retG (.bool (decide (id_ < n))) h Ψ) (
    retG (.bool false) h Ψ)

def s24_A (Ψ : AVal → Heap → Prop) : Ann :=
  .seq (rA 1)
  (.seq (.reg [⟨none, [(0, false), (1, false), (2, false)]⟩, ⟨some (7, true), [(3, false), (4, false), (5, false), (6, false), (7, false), (8, false), (9, false)]⟩, ⟨none, [(10, false), (11, false)]⟩])
  (.leaf))

theorem s24_ok {Ψ : AVal → Heap → Prop} {t : AVal} {id_ : Int} {h : Heap} (H : s24 Ψ t id_ h) : ACalls prog 24 [t, (.int .i64 id_)] h Ψ :=
  calls_of_evF func24 (by kernel_rfl) (by kernel_rfl) (by kernel_rfl)
    (Eq.mpr (by as_aux_lemma => kernel_rfl : oblF prog f24 (s24_A Ψ) Ψ = (True ∧ True ∧ True)) ⟨trivial, ⟨trivial, trivial⟩⟩)
    (Eq.mpr (by as_aux_lemma => kernel_rfl : evF prog f24 (s24_A Ψ) Ψ [t, (.int .i64 id_)] h = s24 Ψ t id_ h) H)

/- 27 dictum/heyting.upsets -/
abbrev s27l1_T := AVal → AVal → Int → Int → Heap → Prop
def s27l1_R (F : s27l1_T) (l : List AVal) (h : Heap) : Prop := J.cons l fun x0 l => J.cons l fun x1 l => J.cons l fun v l => J.int .i64 v fun x2 => J.cons l fun v l => J.int .i64 v fun x3 => J.nil l (F x0 x1 x2 x3 h)
def s27l1_G (F : s27l1_T) (x0 x1 : AVal) (x2 x3 : Int) (h : Heap) : Prop := gJ [.any, .any, .int .i64, .int .i64] [x0, x1, (.int .i64 x2), (.int .i64 x3)] h (s27l1_R F)
def s27l1_E (F : Nat → s27l1_T) (x0 x1 : AVal) (x2 x3 : Int) (h : Heap) : Prop := gJ [.any, .any, .int .i64, .int .i64] [x0, x1, (.int .i64 x2), (.int .i64 x3)] h (fun l h => ∃ n, s27l1_R (F n) l h)
theorem s27l1_go {F : s27l1_T} {x0 x1 : AVal} {x2 x3 : Int} {h : Heap} (H : F x0 x1 x2 x3 h) : s27l1_G F x0 x1 x2 x3 h := gJ_plain rfl H
theorem s27l1_in {F : Nat → s27l1_T} {x0 x1 : AVal} {x2 x3 : Int} {h : Heap} (n : Nat) (H : F n x0 x1 x2 x3 h) : s27l1_E F x0 x1 x2 x3 h := gJ_plain rfl ⟨n, H⟩

abbrev s27l2_T := AVal → AVal → AVal → Int → Heap → Prop
def s27l2_R (F : s27l2_T) (l : List AVal) (h : Heap) : Prop := J.cons l fun x0 l => J.cons l fun x1 l => J.cons l fun x2 l => J.cons l fun v l => J.int .i64 v fun x3 => J.nil l (F x0 x1 x2 x3 h)
def s27l2_G (F : s27l2_T) (x0 x1 x2 : AVal) (x3 : Int) (h : Heap) : Prop := gJ [.any, .any, .any, .int .i64] [x0, x1, x2, (.int .i64 x3)] h (s27l2_R F)
def s27l2_E (F : Nat → s27l2_T) (x0 x1 x2 : AVal) (x3 : Int) (h : Heap) : Prop := gJ [.any, .any, .any, .int .i64] [x0, x1, x2, (.int .i64 x3)] h (fun l h => ∃ n, s27l2_R (F n) l h)
theorem s27l2_go {F : s27l2_T} {x0 x1 x2 : AVal} {x3 : Int} {h : Heap} (H : F x0 x1 x2 x3 h) : s27l2_G F x0 x1 x2 x3 h := gJ_plain rfl H
theorem s27l2_in {F : Nat → s27l2_T} {x0 x1 x2 : AVal} {x3 : Int} {h : Heap} (n : Nat) (H : F n x0 x1 x2 x3 h) : s27l2_E F x0 x1 x2 x3 h := gJ_plain rfl ⟨n, H⟩

abbrev s27l3_T := AVal → AVal → AVal → Int → AVal → Int → Int → Heap → Prop
def s27l3_R (F : s27l3_T) (l : List AVal) (h : Heap) : Prop := J.cons l fun x0 l => J.cons l fun x1 l => J.cons l fun x2 l => J.cons l fun v l => J.int .i64 v fun x3 => J.cons l fun x4 l => J.cons l fun v l => J.int .i64 v fun x5 => J.cons l fun v l => J.int .i64 v fun x6 => J.nil l (F x0 x1 x2 x3 x4 x5 x6 h)
def s27l3_G (F : s27l3_T) (x0 x1 x2 : AVal) (x3 : Int) (x4 : AVal) (x5 x6 : Int) (h : Heap) : Prop := gJ [.any, .any, .any, .int .i64, .any, .int .i64, .int .i64] [x0, x1, x2, (.int .i64 x3), x4, (.int .i64 x5), (.int .i64 x6)] h (s27l3_R F)
def s27l3_E (F : Nat → s27l3_T) (x0 x1 x2 : AVal) (x3 : Int) (x4 : AVal) (x5 x6 : Int) (h : Heap) : Prop := gJ [.any, .any, .any, .int .i64, .any, .int .i64, .int .i64] [x0, x1, x2, (.int .i64 x3), x4, (.int .i64 x5), (.int .i64 x6)] h (fun l h => ∃ n, s27l3_R (F n) l h)
theorem s27l3_go {F : s27l3_T} {x0 x1 x2 : AVal} {x3 : Int} {x4 : AVal} {x5 x6 : Int} {h : Heap} (H : F x0 x1 x2 x3 x4 x5 x6 h) : s27l3_G F x0 x1 x2 x3 x4 x5 x6 h := gJ_plain rfl H
theorem s27l3_in {F : Nat → s27l3_T} {x0 x1 x2 : AVal} {x3 : Int} {x4 : AVal} {x5 x6 : Int} {h : Heap} (n : Nat) (H : F n x0 x1 x2 x3 x4 x5 x6 h) : s27l3_E F x0 x1 x2 x3 x4 x5 x6 h := gJ_plain rfl ⟨n, H⟩

def s27c4 (Ψ : AVal → Heap → Prop) (L2 : s27l2_T) (L3 : s27l3_T) (cones3 l_8 seen2 : AVal) (i2 : Int) (t54_1 : AVal) (t55_1 t56_1 : Int) (h : Heap) : Prop :=
  rg (t56_1 + 1) (
    L3 cones3 l_8 seen2 i2 t54_1 t55_1 (t56_1 + 1) h)

def s27l3 (Ψ : AVal → Heap → Prop) (L2 : s27l2_T) : Nat → s27l3_T
  | 0, _, _, _, _, _, _, _, _ => False
  | n6 + 1, cones2, l_7, seen1, i1, t54, t55, t56, h =>
    ifT (decide (t56 < t55)) (
      ixS 1 t54 t56 fun p2 =>
      ld1 h p2 fun v13 =>
      ixS 1 l_7 i1 fun p3 =>
      ld1 h p3 fun v14 =>
      tStr v14 fun v15 =>
      callG prog 28 [(.str v15), v13] h fun v16 h_7 =>
      tStr v16 fun v17 =>
      mapGet (.int .i64 0) h_7 seen1 (.str v17) fun v18 b =>
      tInt .i64 v18 fun v19 =>
      ifT (decide (0 < v19)) (
        s27c4 Ψ L2 (s27l3_G (s27l3 Ψ L2 n6)) cones2 l_7 seen1 i1 t54 t55 t56 h_7) (
        lenN l_7 fun n7 =>
        ifT (n7 == 64) (
          retG (.tuple [.nilsl, (.int .i64 231)]) h_7 Ψ) (
          mapPut h_7 seen1 (.str v17) (.int .i64 1) fun h_8 =>
          appC 1 16 h_8 l_7 (.lsl 1 [(.str v17)]) fun v20 h_9 =>
          s27c4 Ψ L2 (s27l3_G (s27l3 Ψ L2 n6)) cones2 v20 seen1 i1 t54 t55 t56 h_9))) (
      rg (i1 + 1) (
        L2 cones2 l_7 seen1 (i1 + 1) h))

def s27l2 (Ψ : AVal → Heap → Prop) : Nat → s27l2_T
  | 0, _, _, _, _, _ => False
  | n3 + 1, cones1, l_6, seen, i, h =>
    lenN l_6 fun n4 =>
    ifT (decide (i < n4)) (
      lenN cones1 fun n5 =>
      s27l3_E (s27l3 Ψ (s27l2_G (s27l2 Ψ n3))) cones1 l_6 seen i cones1 n5 0 h) (
      callG prog 61 [l_6, (.func (.func 62) [] [])] h fun v21 h_10 =>
      retG (.tuple [l_6, (.int .i64 0)]) h_10 Ψ)

def s27l1 (Ψ : AVal → Heap → Prop) : Nat → s27l1_T
  | 0, _, _, _, _, _ => False
  | n1 + 1, m, cones, t22, t23, h =>
    ifT (decide (t23 < t22)) (
      ldN 2 h m fun l_ =>
      tCons l_ fun v2 l_1 =>
      tCons l_1 fun v3 l_2 =>
      tNil l_2 (
        callG prog 60 [(.agg [v2, v3]), (.int .i64 t23)] h fun v4 h_1 =>
        tTup v4 fun l_3 =>
        tCons l_3 fun v5 l_4 =>
        tCons l_4 fun v6 l_5 =>
        tInt .i64 v6 fun v7 =>
        tNil l_5 (
          chk (sc v5) (
            appC 1 24 h_1 cones (.lsl 1 [v5]) fun v8 h_2 =>
            rg (t23 + 1) (
              s27l1_G (s27l1 Ψ n1) m v8 t22 (t23 + 1) h_2))))) (
      addOff m 0 fun p =>
      ld1 h p fun v9 =>
      lenN v9 fun n2 =>
      mkS false 1 1 (.int .u8 0) h n2 n2 fun v10 h_3 =>
      bStr h_3 v10 fun s =>
      Sym.newRow 1 [(.str s)] h_3 fun r h_4 =>
      newMap h_4 fun r1 h_5 =>
      ixS 1 (.sl r 1 0 1) 0 fun p1 =>
      ld1 h_5 p1 fun v11 =>
      tStr v11 fun v12 =>
      mapPut h_5 (.mapr r1) (.str v12) (.int .i64 1) fun h_6 =>
      s27l2_E (s27l2 Ψ) cones (.sl r 1 0 1) (.mapr r1) 0 h_6)

def s27 (Ψ : AVal → Heap → Prop) (m_Up : AVal) (m_Val : AVal) (h : Heap) : Prop :=
  callG prog 59 [(.agg [m_Up, m_Val])] h fun v h_ =>
  tInt .i64 v fun v1 =>
  ifT (v1 != 0) (
    retG (.tuple [.nilsl, (.int .i64 v1)]) h_ Ψ) (
    lenN m_Up fun n =>
    s27l1_E (s27l1 Ψ) (.lptr [m_Up, m_Val]) .nilsl n 0 h_)

def s27_A (Ψ : AVal → Heap → Prop) : Ann :=
  .seq (.reg [⟨none, [(0, true), (1, false), (2, false)]⟩])
  (.seq (.seq (rA 3)
  (.seq (rA 2)
  (.cond (.seq (rA 3)
  (.leaf))
  (.leaf))))
  (.seq (rA 1)
  (.seq (.seq (rA 4)
  (.block (.loop [(1, .any), (5, .any), (22, .int .i64), (23, .int .i64)] (fun n l h => s27l1_R (s27l1 Ψ n) l h) (fun L1 =>
  .seq (rA 1)
  (.seq (.cond (.leaf)
  (.leaf))
  (.seq (.block (.seq (rA 2)
  (.seq (rA 8)
  (.reg [⟨none, [(0, false), (1, false), (2, true), (3, false), (4, false)]⟩]))))
  (rA 2)))))))
  (.seq (rA 7)
  (.seq (rA 7)
  (.seq (.seq (rA 1)
  (.block (.loop [(5, .any), (9, .any), (10, .any), (11, .int .i64)] (fun n l h => s27l2_R (s27l2 Ψ n) l h) (fun L2 =>
  .seq (.seq (rA 4)
  (.cond (.leaf)
  (.leaf)))
  (.seq (.block (.seq (rA 3)
  (.block (.loop [(5, .any), (9, .any), (10, .any), (11, .int .i64), (54, .any), (55, .int .i64), (56, .int .i64)] (fun n l h => s27l3_R (s27l3 Ψ (fun y0 y1 y2 y3 h => L2 [y0, y1, y2, (.int .i64 y3)] h) n) l h) (fun L3 =>
  .seq (rA 1)
  (.seq (.cond (.leaf)
  (.leaf))
  (.cut [(5, .any), (9, .any), (10, .any), (11, .int .i64), (54, .any), (55, .int .i64), (56, .int .i64)] (fun l h => J.cons l fun x0 l => J.cons l fun x1 l => J.cons l fun x2 l => J.cons l fun v l => J.int .i64 v fun x3 => J.cons l fun x4 l => J.cons l fun v l => J.int .i64 v fun x5 => J.cons l fun v l => J.int .i64 v fun x6 => J.nil l (s27c4 Ψ (fun y0 y1 y2 y3 h => L2 [y0, y1, y2, (.int .i64 y3)] h) (fun y0 y1 y2 y3 y4 y5 y6 h => L3 [y0, y1, y2, (.int .i64 y3), y4, (.int .i64 y5), (.int .i64 y6)] h) x0 x1 x2 x3 x4 x5 x6 h)) (.block (.seq (rA 3)
  (.seq (rA 7)
  (.seq (.seq (rA 4)
  (.cond (.leaf)
  (.leaf)))
  (.seq (.seq (rA 3)
  (.cond (.seq (rA 2)
  (.leaf))
  (.leaf)))
  (.seq (rA 3)
  (.reg [⟨none, [(0, false), (1, false), (2, true), (3, false), (4, false)]⟩])))))))
  (rA 2))))))))
  (rA 3))))))
  (.seq (rA 2)
  (.seq (rA 3)
  (.leaf)))))))))

theorem s27_ok {Ψ : AVal → Heap → Prop} {m_Up : AVal} {m_Val : AVal} {h : Heap} (H : s27 Ψ m_Up m_Val h) : ACalls prog 27 [(.agg [m_Up, m_Val])] h Ψ :=
  calls_of_evF func27 (by kernel_rfl) (by kernel_rfl) (by kernel_rfl)
    (Eq.mpr (by as_aux_lemma => kernel_rfl : oblF prog f27 (s27_A Ψ) Ψ = (True ∧ (True ∧ True ∧ (True ∧ True) ∧ True) ∧ True ∧ (True ∧ (∀ (h : Heap) (x0 x1 : AVal) (x2 x3 : Int), ON (s27l1 Ψ 0 x0 x1 x2 x3 h)) ∧ ∀ n1 : Nat, (∀ (h : Heap) (x0 x1 : AVal) (x2 x3 : Int), OI (s27l1 Ψ (n1 + 1) x0 x1 x2 x3 h)) ∧ (True ∧ (True ∧ True) ∧ (True ∧ True ∧ True) ∧ True)) ∧ True ∧ True ∧ (True ∧ (∀ (h : Heap) (x0 x1 x2 : AVal) (x3 : Int), ON (s27l2 Ψ 0 x0 x1 x2 x3 h)) ∧ ∀ n2 : Nat, (∀ (h : Heap) (x0 x1 x2 : AVal) (x3 : Int), OI (s27l2 Ψ (n2 + 1) x0 x1 x2 x3 h)) ∧ ((True ∧ True ∧ True) ∧ (True ∧ (∀ (h : Heap) (x0 x1 x2 : AVal) (x3 : Int) (x4 : AVal) (x5 x6 : Int), ON (s27l3 Ψ (s27l2_G (s27l2 Ψ n2)) 0 x0 x1 x2 x3 x4 x5 x6 h)) ∧ ∀ n3 : Nat, (∀ (h : Heap) (x0 x1 x2 : AVal) (x3 : Int) (x4 : AVal) (x5 x6 : Int), OI (s27l3 Ψ (s27l2_G (s27l2 Ψ n2)) (n3 + 1) x0 x1 x2 x3 x4 x5 x6 h)) ∧ (True ∧ (True ∧ True) ∧ (True ∧ True ∧ (True ∧ True ∧ True) ∧ (True ∧ (True ∧ True) ∧ True) ∧ True ∧ True) ∧ (∀ (h : Heap) (x0 x1 x2 : AVal) (x3 : Int) (x4 : AVal) (x5 x6 : Int), OI (s27c4 Ψ (s27l2_G (s27l2 Ψ n2)) (s27l3_G (s27l3 Ψ (s27l2_G (s27l2 Ψ n2)) n3)) x0 x1 x2 x3 x4 x5 x6 h)) ∧ (True))) ∧ True)) ∧ True ∧ True ∧ True)) ⟨trivial, ⟨⟨trivial, ⟨trivial, ⟨⟨trivial, trivial⟩, trivial⟩⟩⟩, ⟨trivial, ⟨⟨trivial, ⟨fun _ _ _ _ _ H => H, fun _ => ⟨fun _ _ _ _ _ H => H, ⟨trivial, ⟨⟨trivial, trivial⟩, ⟨⟨trivial, ⟨trivial, trivial⟩⟩, trivial⟩⟩⟩⟩⟩⟩, ⟨trivial, ⟨trivial, ⟨⟨trivial, ⟨fun _ _ _ _ _ H => H, fun _ => ⟨fun _ _ _ _ _ H => H, ⟨⟨trivial, ⟨trivial, trivial⟩⟩, ⟨⟨trivial, ⟨fun _ _ _ _ _ _ _ _ H => H, fun _ => ⟨fun _ _ _ _ _ _ _ _ H => H, ⟨trivial, ⟨⟨trivial, trivial⟩, ⟨⟨trivial, ⟨trivial, ⟨⟨trivial, ⟨trivial, trivial⟩⟩, ⟨⟨trivial, ⟨⟨trivial, trivial⟩, trivial⟩⟩, ⟨trivial, trivial⟩⟩⟩⟩⟩, fun _ _ _ _ _ _ _ _ H => H, trivial⟩⟩⟩⟩⟩⟩, trivial⟩⟩⟩⟩⟩, ⟨trivial, ⟨trivial, trivial⟩⟩⟩⟩⟩⟩⟩⟩⟩)
    (Eq.mpr (by as_aux_lemma => kernel_rfl : evF prog f27 (s27_A Ψ) Ψ [(.agg [m_Up, m_Val])] h = s27 Ψ m_Up m_Val h) H)

/- 35 dictum/heyting.look -/
abbrev s35l2_T := AVal → AVal → AVal → AVal → AVal → AVal → Int → Int → Heap → Prop
def s35l2_R (F : s35l2_T) (l : List AVal) (h : Heap) : Prop := J.cons l fun x0 l => J.cons l fun x1 l => J.cons l fun x2 l => J.cons l fun x3 l => J.cons l fun x4 l => J.cons l fun x5 l => J.cons l fun v l => J.int .i64 v fun x6 => J.cons l fun v l => J.int .i64 v fun x7 => J.nil l (F x0 x1 x2 x3 x4 x5 x6 x7 h)
def s35l2_G (F : s35l2_T) (x0 x1 x2 x3 x4 x5 : AVal) (x6 x7 : Int) (h : Heap) : Prop := gJ [.any, .any, .any, .any, .any, .any, .int .i64, .int .i64] [x0, x1, x2, x3, x4, x5, (.int .i64 x6), (.int .i64 x7)] h (s35l2_R F)
def s35l2_E (F : Nat → s35l2_T) (x0 x1 x2 x3 x4 x5 : AVal) (x6 x7 : Int) (h : Heap) : Prop := gJ [.any, .any, .any, .any, .any, .any, .int .i64, .int .i64] [x0, x1, x2, x3, x4, x5, (.int .i64 x6), (.int .i64 x7)] h (fun l h => ∃ n, s35l2_R (F n) l h)
theorem s35l2_go {F : s35l2_T} {x0 x1 x2 x3 x4 x5 : AVal} {x6 x7 : Int} {h : Heap} (H : F x0 x1 x2 x3 x4 x5 x6 x7 h) : s35l2_G F x0 x1 x2 x3 x4 x5 x6 x7 h := gJ_plain rfl H
theorem s35l2_in {F : Nat → s35l2_T} {x0 x1 x2 x3 x4 x5 : AVal} {x6 x7 : Int} {h : Heap} (n : Nat) (H : F n x0 x1 x2 x3 x4 x5 x6 x7 h) : s35l2_E F x0 x1 x2 x3 x4 x5 x6 x7 h := gJ_plain rfl ⟨n, H⟩

abbrev s35l3_T := AVal → AVal → AVal → AVal → AVal → AVal → Int → Int → Int → Int → Int → Heap → Prop
def s35l3_R (F : s35l3_T) (l : List AVal) (h : Heap) : Prop := J.cons l fun x0 l => J.cons l fun x1 l => J.cons l fun x2 l => J.cons l fun x3 l => J.cons l fun x4 l => J.cons l fun x5 l => J.cons l fun v l => J.int .i64 v fun x6 => J.cons l fun v l => J.int .i64 v fun x7 => J.cons l fun v l => J.int .i64 v fun x8 => J.cons l fun v l => J.int .i64 v fun x9 => J.cons l fun v l => J.int .i64 v fun x10 => J.nil l (F x0 x1 x2 x3 x4 x5 x6 x7 x8 x9 x10 h)
def s35l3_G (F : s35l3_T) (x0 x1 x2 x3 x4 x5 : AVal) (x6 x7 x8 x9 x10 : Int) (h : Heap) : Prop := gJ [.any, .any, .any, .any, .any, .any, .int .i64, .int .i64, .int .i64, .int .i64, .int .i64] [x0, x1, x2, x3, x4, x5, (.int .i64 x6), (.int .i64 x7), (.int .i64 x8), (.int .i64 x9), (.int .i64 x10)] h (s35l3_R F)
def s35l3_E (F : Nat → s35l3_T) (x0 x1 x2 x3 x4 x5 : AVal) (x6 x7 x8 x9 x10 : Int) (h : Heap) : Prop := gJ [.any, .any, .any, .any, .any, .any, .int .i64, .int .i64, .int .i64, .int .i64, .int .i64] [x0, x1, x2, x3, x4, x5, (.int .i64 x6), (.int .i64 x7), (.int .i64 x8), (.int .i64 x9), (.int .i64 x10)] h (fun l h => ∃ n, s35l3_R (F n) l h)
theorem s35l3_go {F : s35l3_T} {x0 x1 x2 x3 x4 x5 : AVal} {x6 x7 x8 x9 x10 : Int} {h : Heap} (H : F x0 x1 x2 x3 x4 x5 x6 x7 x8 x9 x10 h) : s35l3_G F x0 x1 x2 x3 x4 x5 x6 x7 x8 x9 x10 h := gJ_plain rfl H
theorem s35l3_in {F : Nat → s35l3_T} {x0 x1 x2 x3 x4 x5 : AVal} {x6 x7 x8 x9 x10 : Int} {h : Heap} (n : Nat) (H : F n x0 x1 x2 x3 x4 x5 x6 x7 x8 x9 x10 h) : s35l3_E F x0 x1 x2 x3 x4 x5 x6 x7 x8 x9 x10 h := gJ_plain rfl ⟨n, H⟩

abbrev s35l4_T := AVal → AVal → AVal → AVal → AVal → AVal → Int → Int → Int → Int → Int → Int → Int → Int → Heap → Prop
def s35l4_R (F : s35l4_T) (l : List AVal) (h : Heap) : Prop := J.cons l fun x0 l => J.cons l fun x1 l => J.cons l fun x2 l => J.cons l fun x3 l => J.cons l fun x4 l => J.cons l fun x5 l => J.cons l fun v l => J.int .i64 v fun x6 => J.cons l fun v l => J.int .i64 v fun x7 => J.cons l fun v l => J.int .i64 v fun x8 => J.cons l fun v l => J.int .i64 v fun x9 => J.cons l fun v l => J.int .i64 v fun x10 => J.cons l fun v l => J.int .i64 v fun x11 => J.cons l fun v l => J.int .i64 v fun x12 => J.cons l fun v l => J.int .i64 v fun x13 => J.nil l (F x0 x1 x2 x3 x4 x5 x6 x7 x8 x9 x10 x11 x12 x13 h)
def s35l4_G (F : s35l4_T) (x0 x1 x2 x3 x4 x5 : AVal) (x6 x7 x8 x9 x10 x11 x12 x13 : Int) (h : Heap) : Prop := gJ [.any, .any, .any, .any, .any, .any, .int .i64, .int .i64, .int .i64, .int .i64, .int .i64, .int .i64, .int .i64, .int .i64] [x0, x1, x2, x3, x4, x5, (.int .i64 x6), (.int .i64 x7), (.int .i64 x8), (.int .i64 x9), (.int .i64 x10), (.int .i64 x11), (.int .i64 x12), (.int .i64 x13)] h (s35l4_R F)
def s35l4_E (F : Nat → s35l4_T) (x0 x1 x2 x3 x4 x5 : AVal) (x6 x7 x8 x9 x10 x11 x12 x13 : Int) (h : Heap) : Prop := gJ [.any, .any, .any, .any, .any, .any, .int .i64, .int .i64, .int .i64, .int .i64, .int .i64, .int .i64, .int .i64, .int .i64] [x0, x1, x2, x3, x4, x5, (.int .i64 x6), (.int .i64 x7), (.int .i64 x8), (.int .i64 x9), (.int .i64 x10), (.int .i64 x11), (.int .i64 x12), (.int .i64 x13)] h (fun l h => ∃ n, s35l4_R (F n) l h)
theorem s35l4_go {F : s35l4_T} {x0 x1 x2 x3 x4 x5 : AVal} {x6 x7 x8 x9 x10 x11 x12 x13 : Int} {h : Heap} (H : F x0 x1 x2 x3 x4 x5 x6 x7 x8 x9 x10 x11 x12 x13 h) : s35l4_G F x0 x1 x2 x3 x4 x5 x6 x7 x8 x9 x10 x11 x12 x13 h := gJ_plain rfl H
theorem s35l4_in {F : Nat → s35l4_T} {x0 x1 x2 x3 x4 x5 : AVal} {x6 x7 x8 x9 x10 x11 x12 x13 : Int} {h : Heap} (n : Nat) (H : F n x0 x1 x2 x3 x4 x5 x6 x7 x8 x9 x10 x11 x12 x13 h) : s35l4_E F x0 x1 x2 x3 x4 x5 x6 x7 x8 x9 x10 x11 x12 x13 h := gJ_plain rfl ⟨n, H⟩

def s35l4 (Ψ : AVal → Heap → Prop) (L2 : s35l2_T) (L3 : s35l3_T) : Nat → s35l4_T
  | 0, _, _, _, _, _, _, _, _, _, _, _, _, _, _, _ => False
  | n7 + 1, elems4, t4_3, n6, l_22, meets2, joins2, x1, y, t49_2, t50_2, t53_1, t54_1, t57, t58, h =>
    ifT (decide (t58 < t57)) (
      ixS 1 meets2 x1 fun p =>
      ld1 h p fun v28 =>
      ixS 1 joins2 y fun p1 =>
      ld1 h p1 fun v29 =>
      ixS 1 v29 t58 fun p2 =>
      ld1 h p2 fun v30 =>
      tInt .i64 v30 fun v31 =>
      ixS 1 v28 v31 fun p3 =>
      ld1 h p3 fun v32 =>
      tInt .i64 v32 fun v33 =>
      ixS 1 meets2 x1 fun p4 =>
      ld1 h p4 fun v34 =>
      ixS 1 v34 y fun p5 =>
      ld1 h p5 fun v35 =>
      tInt .i64 v35 fun v36 =>
      ixS 1 joins2 v36 fun p6 =>
      ld1 h p6 fun v37 =>
      ixS 1 meets2 x1 fun p7 =>
      ld1 h p7 fun v38 =>
      ixS 1 v38 t58 fun p8 =>
      ld1 h p8 fun v39 =>
      tInt .i64 v39 fun v40 =>
      ixS 1 v37 v40 fun p9 =>
      ld1 h p9 fun v41 =>
      tInt .i64 v41 fun v42 =>
      ifT (v33 != v42) (
        ldN 2 h l_22 fun l_23 =>
        tCons l_23 fun v43 l_24 =>
        tInt .i64 v43 fun v44 =>
        tCons l_24 fun v45 l_25 =>
        tNil l_25 (
          st false h t4_3 [(.int .i64 v44), v45] fun h_8 =>
          ldN 2 h_8 t4_3 fun l_26 =>
          tCons l_26 fun v46 l_27 =>
          tInt .i64 v46 fun v47 =>
          tCons l_27 fun v48 l_28 =>
          tNil l_28 (
            retG (.tuple [(.agg [(.int .i64 v47), v48]), (.int .i64 230)]) h_8 Ψ))) (
        rg (t58 + 1) (
          s35l4_G (s35l4 Ψ L2 L3 n7) elems4 t4_3 n6 l_22 meets2 joins2 x1 y t49_2 t50_2 t53_1 t54_1 t57 (t58 + 1) h))) (
      rg (t54_1 + 1) (
        L3 elems4 t4_3 n6 l_22 meets2 joins2 x1 t49_2 t50_2 t53_1 (t54_1 + 1) h))

def s35l3 (Ψ : AVal → Heap → Prop) (L2 : s35l2_T) : Nat → s35l3_T
  | 0, _, _, _, _, _, _, _, _, _, _, _, _ => False
  | n5 + 1, elems3, t4_2, n4, l_21, meets1, joins1, x, t49_1, t50_1, t53, t54, h =>
    ifT (decide (t54 < t53)) (
      ld1 h n4 fun v26 =>
      tInt .i64 v26 fun v27 =>
      s35l4_E (s35l4 Ψ L2 (s35l3_G (s35l3 Ψ L2 n5))) elems3 t4_2 n4 l_21 meets1 joins1 x t54 t49_1 t50_1 t53 t54 v27 0 h) (
      rg (t50_1 + 1) (
        L2 elems3 t4_2 n4 l_21 meets1 joins1 t49_1 (t50_1 + 1) h))

abbrev s35l5_T := AVal → AVal → AVal → AVal → Int → Int → Heap → Prop
def s35l5_R (F : s35l5_T) (l : List AVal) (h : Heap) : Prop := J.cons l fun x0 l => J.cons l fun x1 l => J.cons l fun x2 l => J.cons l fun x3 l => J.cons l fun v l => J.int .i64 v fun x4 => J.cons l fun v l => J.int .i64 v fun x5 => J.nil l (F x0 x1 x2 x3 x4 x5 h)
def s35l5_G (F : s35l5_T) (x0 x1 x2 x3 : AVal) (x4 x5 : Int) (h : Heap) : Prop := gJ [.any, .any, .any, .any, .int .i64, .int .i64] [x0, x1, x2, x3, (.int .i64 x4), (.int .i64 x5)] h (s35l5_R F)
def s35l5_E (F : Nat → s35l5_T) (x0 x1 x2 x3 : AVal) (x4 x5 : Int) (h : Heap) : Prop := gJ [.any, .any, .any, .any, .int .i64, .int .i64] [x0, x1, x2, x3, (.int .i64 x4), (.int .i64 x5)] h (fun l h => ∃ n, s35l5_R (F n) l h)
theorem s35l5_go {F : s35l5_T} {x0 x1 x2 x3 : AVal} {x4 x5 : Int} {h : Heap} (H : F x0 x1 x2 x3 x4 x5 h) : s35l5_G F x0 x1 x2 x3 x4 x5 h := gJ_plain rfl H
theorem s35l5_in {F : Nat → s35l5_T} {x0 x1 x2 x3 : AVal} {x4 x5 : Int} {h : Heap} (n : Nat) (H : F n x0 x1 x2 x3 x4 x5 h) : s35l5_E F x0 x1 x2 x3 x4 x5 h := gJ_plain rfl ⟨n, H⟩

def s35c6 (Ψ : AVal → Heap → Prop) (L5 : s35l5_T) (t4_5 n13 l_30 t98_1 : AVal) (t99_1 t100_1 : Int) (t110 : Bool) (h : Heap) : Prop :=
  ifT t110 (
    ldN 2 h l_30 fun l_31 =>
    tCons l_31 fun v51 l_32 =>
    tInt .i64 v51 fun v52 =>
    tCons l_32 fun v53 l_33 =>
    tNil l_33 (
      st false h t4_5 [(.int .i64 v52), v53] fun h_9 =>
      ldN 2 h_9 t4_5 fun l_34 =>
      tCons l_34 fun v54 l_35 =>
      tInt .i64 v54 fun v55 =>
      tCons l_35 fun v56 l_36 =>
      tNil l_36 (
        retG (.tuple [(.agg [(.int .i64 v55), v56]), (.int .i64 2)]) h_9 Ψ))) (
    rg (t100_1 + 1) (
      L5 t4_5 n13 l_30 t98_1 t99_1 (t100_1 + 1) h))

def s35l5 (Ψ : AVal → Heap → Prop) : Nat → s35l5_T
  | 0, _, _, _, _, _, _, _ => False
  | n12 + 1, t4_4, n11, l_29, t98, t99, t100, h =>
    ifT (decide (t100 < t99)) (
      ixS 1 t98 t100 fun p10 =>
      ld1 h p10 fun v49 =>
      tInt .i64 v49 fun v50 =>
      ifT (decide (v50 < 0)) (
        s35c6 Ψ (s35l5_G (s35l5 Ψ n12)) t4_4 n11 l_29 t98 t99 t100 true h) (
        ld1 h n11 fun v57 =>
        tInt .i64 v57 fun v58 =>
        s35c6 Ψ (s35l5_G (s35l5 Ψ n12)) t4_4 n11 l_29 t98 t99 t100 (decide (v58 ≤ v50)) h)) (
      ldN 2 h l_29 fun l_37 =>
      tCons l_37 fun v59 l_38 =>
      tInt .i64 v59 fun v60 =>
      tCons l_38 fun v61 l_39 =>
      tNil l_39 (
        st false h t4_4 [(.int .i64 v60), v61] fun h_10 =>
        ldN 2 h_10 t4_4 fun l_40 =>
        tCons l_40 fun v62 l_41 =>
        tInt .i64 v62 fun v63 =>
        tCons l_41 fun v64 l_42 =>
        tNil l_42 (
          retG (.tuple [(.agg [(.int .i64 v63), v64]), (.int .i64 0)]) h_10 Ψ)))

def s35l2 (Ψ : AVal → Heap → Prop) : Nat → s35l2_T
  | 0, _, _, _, _, _, _, _, _, _ => False
  | n3 + 1, elems2, t4_1, n2, l_20, meets, joins, t49, t50, h =>
    ifT (decide (t50 < t49)) (
      ld1 h n2 fun v24 =>
      tInt .i64 v24 fun v25 =>
      s35l3_E (s35l3 Ψ (s35l2_G (s35l2 Ψ n3))) elems2 t4_1 n2 l_20 meets joins t50 t49 t50 v25 0 h) (
      lenN elems2 fun n10 =>
      s35l5_E (s35l5 Ψ) t4_1 n2 l_20 elems2 n10 0 h)

def s35c1 (Ψ : AVal → Heap → Prop) (elems1 t4 n1 l_ : AVal) (t38 : Bool) (h : Heap) : Prop :=
  ifT t38 (
    ldN 2 h l_ fun l_1 =>
    tCons l_1 fun v2 l_2 =>
    tInt .i64 v2 fun v3 =>
    tCons l_2 fun v4 l_3 =>
    tNil l_3 (
      st false h t4 [(.int .i64 v3), v4] fun h_5 =>
      ldN 2 h_5 t4 fun l_4 =>
      tCons l_4 fun v5 l_5 =>
      tInt .i64 v5 fun v6 =>
      tCons l_5 fun v7 l_6 =>
      tNil l_6 (
        retG (.tuple [(.agg [(.int .i64 v6), v7]), (.int .i64 230)]) h_5 Ψ))) (
    ldN 2 h l_ fun l_7 =>
    tCons l_7 fun v8 l_8 =>
    tInt .i64 v8 fun v9 =>
    tCons l_8 fun v10 l_9 =>
    tNil l_9 (
      callG prog 73 [(.agg [(.int .i64 v9), v10])] h fun v11 h_6 =>
      tTup v11 fun l_10 =>
      tCons l_10 fun v12 l_11 =>
      tCons l_11 fun v13 l_12 =>
      tCons l_12 fun v14 l_13 =>
      tBool v14 fun v15 =>
      tNil l_13 (
        ifT (!v15) (
          ldN 2 h_6 l_ fun l_14 =>
          tCons l_14 fun v16 l_15 =>
          tInt .i64 v16 fun v17 =>
          tCons l_15 fun v18 l_16 =>
          tNil l_16 (
            st false h_6 t4 [(.int .i64 v17), v18] fun h_7 =>
            ldN 2 h_7 t4 fun l_17 =>
            tCons l_17 fun v19 l_18 =>
            tInt .i64 v19 fun v20 =>
            tCons l_18 fun v21 l_19 =>
            tNil l_19 (
              retG (.tuple [(.agg [(.int .i64 v20), v21]), (.int .i64 230)]) h_7 Ψ))) (
          ld1 h_6 n1 fun v22 =>
          tInt .i64 v22 fun v23 =>
          s35l2_E (s35l2 Ψ) elems1 t4 n1 l_ v12 v13 v23 0 h_6))))

def s35 (Ψ : AVal → Heap → Prop) (a_Leq : AVal) (elems : AVal) (h : Heap) : Prop :=
  Sym.newRow 2 [(.agg [(.int .i64 0), .nilfunc])] h fun r h_ =>
  lenN a_Leq fun n =>
  Sym.newRow 1 [(.int .i64 0)] h_ fun r1 h_1 =>
  st true h_1 (.ptr r1 0 0) [(.int .i64 n)] fun h_2 =>
  ld1 h_2 (.ptr r1 0 0) fun v =>
  tInt .i64 v fun v1 =>
  Sym.newRow 2 [(.agg [(.int .i64 0), .nilfunc])] h_2 fun r2 h_3 =>
  st false h_3 (.ptr r2 0 0) [(.int .i64 v1), (.func (.func 69) [] [(.lptr [a_Leq])])] fun h_4 =>
  ld1 h_4 (.ptr r1 0 0) fun v65 =>
  tInt .i64 v65 fun v66 =>
  ifT (decide (v66 < 1)) (
    s35c1 Ψ elems (.ptr r 0 0) (.ptr r1 0 0) (.ptr r2 0 0) true h_4) (
    ld1 h_4 (.ptr r1 0 0) fun v67 =>
    tInt .i64 v67 fun v68 =>
    ifT (decide (64 < v68)) (
      s35c1 Ψ elems (.ptr r 0 0) (.ptr r1 0 0) (.ptr r2 0 0) true h_4) (
      callG prog 70 [a_Leq, (.func (.func 71) [] [(.ptr r1 0 0)])] h_4 fun v69 h_11 =>
      tBool v69 fun v70 =>
      ifT v70 (
        s35c1 Ψ elems (.ptr r 0 0) (.ptr r1 0 0) (.ptr r2 0 0) true h_11) (
        ldN 2 h_11 (.ptr r2 0 0) fun l_43 =>
        tCons l_43 fun v71 l_44 =>
        tInt .i64 v71 fun v72 =>
        tCons l_44 fun v73 l_45 =>
        tNil l_45 (
          callG prog 72 [(.agg [(.int .i64 v72), v73])] h_11 fun v74 h_12 =>
          tBool v74 fun v75 =>
          s35c1 Ψ elems (.ptr r 0 0) (.ptr r1 0 0) (.ptr r2 0 0) (!v75) h_12))))

def s35_A (Ψ : AVal → Heap → Prop) : Ann :=
  .seq (.reg [⟨none, [(0, true), (1, false), (2, false)]⟩])
  (.seq (rA 5)
  (.seq (rA 5)
  (.seq (.cut [(1, .any), (4, .any), (6, .any), (7, .any), (38, .bool)] (fun l h => J.cons l fun x0 l => J.cons l fun x1 l => J.cons l fun x2 l => J.cons l fun x3 l => J.cons l fun v l => J.bool v fun x4 => J.nil l (s35c1 Ψ x0 x1 x2 x3 x4 h)) (.reg [⟨none, [(0, false), (1, false), (2, false)]⟩, ⟨some (24, false), [(3, false), (4, false)]⟩, ⟨none, [(5, false), (6, false)]⟩, ⟨some (28, false), [(7, false), (8, false), (9, false), (10, false)]⟩, ⟨none, [(11, false), (12, false)]⟩, ⟨some (34, false), [(13, false), (14, false), (15, false)]⟩, ⟨none, [(16, false)]⟩])
  (.cond (.seq (rA 3)
  (.leaf))
  (.leaf)))
  (.seq (rA 9)
  (.seq (.seq (rA 2)
  (.cond (.seq (rA 3)
  (.leaf))
  (.leaf)))
  (.seq (.seq (rA 2)
  (.block (.loop [(1, .any), (4, .any), (6, .any), (7, .any), (8, .any), (9, .any), (49, .int .i64), (50, .int .i64)] (fun n l h => s35l2_R (s35l2 Ψ n) l h) (fun L2 =>
  .seq (rA 1)
  (.seq (.cond (.leaf)
  (.leaf))
  (.seq (.block (.seq (rA 2)
  (.seq (rA 2)
  (.block (.loop [(1, .any), (4, .any), (6, .any), (7, .any), (8, .any), (9, .any), (11, .int .i64), (49, .int .i64), (50, .int .i64), (53, .int .i64), (54, .int .i64)] (fun n l h => s35l3_R (s35l3 Ψ (fun y0 y1 y2 y3 y4 y5 y6 y7 h => L2 [y0, y1, y2, y3, y4, y5, (.int .i64 y6), (.int .i64 y7)] h) n) l h) (fun L3 =>
  .seq (rA 1)
  (.seq (.cond (.leaf)
  (.leaf))
  (.seq (.block (.seq (rA 2)
  (.seq (rA 2)
  (.block (.loop [(1, .any), (4, .any), (6, .any), (7, .any), (8, .any), (9, .any), (11, .int .i64), (12, .int .i64), (49, .int .i64), (50, .int .i64), (53, .int .i64), (54, .int .i64), (57, .int .i64), (58, .int .i64)] (fun n l h => s35l4_R (s35l4 Ψ (fun y0 y1 y2 y3 y4 y5 y6 y7 h => L2 [y0, y1, y2, y3, y4, y5, (.int .i64 y6), (.int .i64 y7)] h) (fun y0 y1 y2 y3 y4 y5 y6 y7 y8 y9 y10 h => L3 [y0, y1, y2, y3, y4, y5, (.int .i64 y6), (.int .i64 y7), (.int .i64 y8), (.int .i64 y9), (.int .i64 y10)] h) n) l h) (fun L4 =>
  .seq (rA 1)
  (.seq (.cond (.leaf)
  (.leaf))
  (.seq (.block (.seq (rA 2)
  (.seq (.draw [(0, false), (1, false), (2, false), (3, false), (4, false), (5, false), (6, false), (7, false), (8, false), (9, false), (10, false), (11, false), (12, false), (13, false), (14, false), (15, false), (16, false), (17, false), (18, false), (19, false), (20, false), (21, false), (22, false), (23, false), (24, false), (25, false), (26, false), (27, false), (28, false), (29, false), (30, false), (31, false), (32, false)] [0, 0, 3, 7, 0, 0, 48, 112, 0, 496, 1008, 2047, 4095, 0, 0, 0, 49152, 114688, 0, 507904, 1032192, 2088960, 4186112, 0, 0, 25165824, 58720256, 0, 260046848, 528482304, 1073733632, 2147475456, 4294967295])
  (.cond (.seq (rA 3)
  (.leaf))
  (.leaf)))))
  (rA 2)))))))))
  (rA 2)))))))))
  (rA 2)))))))
  (.seq (.seq (rA 3)
  (.block (.loop [(4, .any), (6, .any), (7, .any), (98, .any), (99, .int .i64), (100, .int .i64)] (fun n l h => s35l5_R (s35l5 Ψ n) l h) (fun L5 =>
  .seq (rA 1)
  (.seq (.cond (.leaf)
  (.leaf))
  (.seq (.block (.seq (rA 3)
  (.cut [(4, .any), (6, .any), (7, .any), (98, .any), (99, .int .i64), (100, .int .i64), (110, .bool)] (fun l h => J.cons l fun x0 l => J.cons l fun x1 l => J.cons l fun x2 l => J.cons l fun x3 l => J.cons l fun v l => J.int .i64 v fun x4 => J.cons l fun v l => J.int .i64 v fun x5 => J.cons l fun v l => J.bool v fun x6 => J.nil l (s35c6 Ψ (fun y0 y1 y2 y3 y4 y5 h => L5 [y0, y1, y2, y3, (.int .i64 y4), (.int .i64 y5)] h) x0 x1 x2 x3 x4 x5 x6 h)) (.reg [⟨none, [(0, false), (1, false), (2, false)]⟩, ⟨some (106, false), [(3, false), (4, false), (5, false)]⟩, ⟨none, [(6, false)]⟩])
  (.cond (.seq (rA 3)
  (.leaf))
  (.leaf)))))
  (rA 2)))))))
  (.seq (rA 3)
  (.leaf)))))))))

theorem s35_ok {Ψ : AVal → Heap → Prop} {a_Leq : AVal} {elems : AVal} {h : Heap} (H : s35 Ψ a_Leq elems h) : ACalls prog 35 [(.agg [a_Leq]), elems] h Ψ :=
  calls_of_evF func35 (by kernel_rfl) (by kernel_rfl) (by kernel_rfl)
    (Eq.mpr (by as_aux_lemma => kernel_rfl : oblF prog f35 (s35_A Ψ) Ψ = (True ∧ True ∧ True ∧ ((True) ∧ (∀ (h : Heap) (x0 x1 x2 x3 : AVal) (x4 : Bool), OI (s35c1 Ψ x0 x1 x2 x3 x4 h)) ∧ ((True ∧ True) ∧ True)) ∧ True ∧ (True ∧ (True ∧ True) ∧ True) ∧ (True ∧ (∀ (h : Heap) (x0 x1 x2 x3 x4 x5 : AVal) (x6 x7 : Int), ON (s35l2 Ψ 0 x0 x1 x2 x3 x4 x5 x6 x7 h)) ∧ ∀ n2 : Nat, (∀ (h : Heap) (x0 x1 x2 x3 x4 x5 : AVal) (x6 x7 : Int), OI (s35l2 Ψ (n2 + 1) x0 x1 x2 x3 x4 x5 x6 x7 h)) ∧ (True ∧ (True ∧ True) ∧ (True ∧ True ∧ (∀ (h : Heap) (x0 x1 x2 x3 x4 x5 : AVal) (x6 x7 x8 x9 x10 : Int), ON (s35l3 Ψ (s35l2_G (s35l2 Ψ n2)) 0 x0 x1 x2 x3 x4 x5 x6 x7 x8 x9 x10 h)) ∧ ∀ n3 : Nat, (∀ (h : Heap) (x0 x1 x2 x3 x4 x5 : AVal) (x6 x7 x8 x9 x10 : Int), OI (s35l3 Ψ (s35l2_G (s35l2 Ψ n2)) (n3 + 1) x0 x1 x2 x3 x4 x5 x6 x7 x8 x9 x10 h)) ∧ (True ∧ (True ∧ True) ∧ (True ∧ True ∧ (∀ (h : Heap) (x0 x1 x2 x3 x4 x5 : AVal) (x6 x7 x8 x9 x10 x11 x12 x13 : Int), ON (s35l4 Ψ (s35l2_G (s35l2 Ψ n2)) (s35l3_G (s35l3 Ψ (s35l2_G (s35l2 Ψ n2)) n3)) 0 x0 x1 x2 x3 x4 x5 x6 x7 x8 x9 x10 x11 x12 x13 h)) ∧ ∀ n4 : Nat, (∀ (h : Heap) (x0 x1 x2 x3 x4 x5 : AVal) (x6 x7 x8 x9 x10 x11 x12 x13 : Int), OI (s35l4 Ψ (s35l2_G (s35l2 Ψ n2)) (s35l3_G (s35l3 Ψ (s35l2_G (s35l2 Ψ n2)) n3)) (n4 + 1) x0 x1 x2 x3 x4 x5 x6 x7 x8 x9 x10 x11 x12 x13 h)) ∧ (True ∧ (True ∧ True) ∧ (True ∧ True ∧ (True ∧ True) ∧ True) ∧ True)) ∧ True)) ∧ True)) ∧ (True ∧ (∀ (h : Heap) (x0 x1 x2 x3 : AVal) (x4 x5 : Int), ON (s35l5 Ψ 0 x0 x1 x2 x3 x4 x5 h)) ∧ ∀ n5 : Nat, (∀ (h : Heap) (x0 x1 x2 x3 : AVal) (x4 x5 : Int), OI (s35l5 Ψ (n5 + 1) x0 x1 x2 x3 x4 x5 h)) ∧ (True ∧ (True ∧ True) ∧ (True ∧ (True) ∧ (∀ (h : Heap) (x0 x1 x2 x3 : AVal) (x4 x5 : Int) (x6 : Bool), OI (s35c6 Ψ (s35l5_G (s35l5 Ψ n5)) x0 x1 x2 x3 x4 x5 x6 h)) ∧ ((True ∧ True) ∧ True)) ∧ True)) ∧ True ∧ True)) ⟨trivial, ⟨trivial, ⟨trivial, ⟨⟨trivial, fun _ _ _ _ _ _ H => H, ⟨⟨trivial, trivial⟩, trivial⟩⟩, ⟨trivial, ⟨⟨trivial, ⟨⟨trivial, trivial⟩, trivial⟩⟩, ⟨⟨trivial, ⟨fun _ _ _ _ _ _ _ _ _ H => H, fun _ => ⟨fun _ _ _ _ _ _ _ _ _ H => H, ⟨trivial, ⟨⟨trivial, trivial⟩, ⟨⟨trivial, ⟨trivial, ⟨fun _ _ _ _ _ _ _ _ _ _ _ _ H => H, fun _ => ⟨fun _ _ _ _ _ _ _ _ _ _ _ _ H => H, ⟨trivial, ⟨⟨trivial, trivial⟩, ⟨⟨trivial, ⟨trivial, ⟨fun _ _ _ _ _ _ _ _ _ _ _ _ _ _ _ H => H, fun _ => ⟨fun _ _ _ _ _ _ _ _ _ _ _ _ _ _ _ H => H, ⟨trivial, ⟨⟨trivial, trivial⟩, ⟨⟨trivial, ⟨trivial, ⟨⟨trivial, trivial⟩, trivial⟩⟩⟩, trivial⟩⟩⟩⟩⟩⟩⟩, trivial⟩⟩⟩⟩⟩⟩⟩, trivial⟩⟩⟩⟩⟩⟩, ⟨⟨trivial, ⟨fun _ _ _ _ _ _ _ H => H, fun _ => ⟨fun _ _ _ _ _ _ _ H => H, ⟨trivial, ⟨⟨trivial, trivial⟩, ⟨⟨trivial, ⟨trivial, fun _ _ _ _ _ _ _ _ H => H, ⟨⟨trivial, trivial⟩, trivial⟩⟩⟩, trivial⟩⟩⟩⟩⟩⟩, ⟨trivial, trivial⟩⟩⟩⟩⟩⟩⟩⟩⟩)
    (Eq.mpr (by as_aux_lemma => kernel_rfl : evF prog f35 (s35_A Ψ) Ψ [(.agg [a_Leq]), elems] h = s35 Ψ a_Leq elems h) H)

/- 37 (dictum/heyting.lattice).join -/
def s37 (Ψ : AVal → Heap → Prop) (l_n : Int) (l_leq : AVal) (x : Int) (y : Int) (h : Heap) : Prop :=
  callG prog 75 [(.int .i64 l_n), (.func (.func 78) [] [(.lptr [(.int .i64 l_n), l_leq]), (.lptr [(.int .i64 x)]), (.lptr [(.int .i64 y)])]), (.func (.func 76) [(.agg [(.int .i64 l_n), l_leq])] [])] h fun v h_ =>
  tTup v fun l_ =>
  tCons l_ fun v1 l_1 =>
  tInt .i64 v1 fun v2 =>
  tCons l_1 fun v3 l_2 =>
  tBool v3 fun v4 =>
  tNil l_2 (
    retG (.tuple [(.int .i64 v2), (.bool v4)]) h_ Ψ)

def s37_A (Ψ : AVal → Heap → Prop) : Ann :=
  .seq (.reg [⟨none, [(0, true), (1, true), (2, true), (3, false), (4, false)]⟩])
  (.seq (rA 10)
  (.leaf))

theorem s37_ok {Ψ : AVal → Heap → Prop} {l_n : Int} {l_leq : AVal} {x : Int} {y : Int} {h : Heap} (H : s37 Ψ l_n l_leq x y h) : ACalls prog 37 [(.agg [(.int .i64 l_n), l_leq]), (.int .i64 x), (.int .i64 y)] h Ψ :=
  calls_of_evF func37 (by kernel_rfl) (by kernel_rfl) (by kernel_rfl)
    (Eq.mpr (by as_aux_lemma => kernel_rfl : oblF prog f37 (s37_A Ψ) Ψ = (True ∧ True ∧ True)) ⟨trivial, ⟨trivial, trivial⟩⟩)
    (Eq.mpr (by as_aux_lemma => kernel_rfl : evF prog f37 (s37_A Ψ) Ψ [(.agg [(.int .i64 l_n), l_leq]), (.int .i64 x), (.int .i64 y)] h = s37 Ψ l_n l_leq x y h) H)

/- 39 dictum/dictumref23.Of -/
abbrev s39l1_T := AVal → Int → AVal → Int → Heap → Prop
def s39l1_R (F : s39l1_T) (l : List AVal) (h : Heap) : Prop := J.cons l fun x0 l => J.cons l fun v l => J.int .i64 v fun x1 => J.cons l fun x2 l => J.cons l fun v l => J.int .i64 v fun x3 => J.nil l (F x0 x1 x2 x3 h)
def s39l1_G (F : s39l1_T) (x0 : AVal) (x1 : Int) (x2 : AVal) (x3 : Int) (h : Heap) : Prop := gJ [.any, .int .i64, .any, .int .i64] [x0, (.int .i64 x1), x2, (.int .i64 x3)] h (s39l1_R F)
def s39l1_E (F : Nat → s39l1_T) (x0 : AVal) (x1 : Int) (x2 : AVal) (x3 : Int) (h : Heap) : Prop := gJ [.any, .int .i64, .any, .int .i64] [x0, (.int .i64 x1), x2, (.int .i64 x3)] h (fun l h => ∃ n, s39l1_R (F n) l h)
theorem s39l1_go {F : s39l1_T} {x0 : AVal} {x1 : Int} {x2 : AVal} {x3 : Int} {h : Heap} (H : F x0 x1 x2 x3 h) : s39l1_G F x0 x1 x2 x3 h := gJ_plain rfl H
theorem s39l1_in {F : Nat → s39l1_T} {x0 : AVal} {x1 : Int} {x2 : AVal} {x3 : Int} {h : Heap} (n : Nat) (H : F n x0 x1 x2 x3 h) : s39l1_E F x0 x1 x2 x3 h := gJ_plain rfl ⟨n, H⟩

abbrev s39l2_T := AVal → Int → AVal → Int → AVal → AVal → Int → Heap → Prop
def s39l2_R (F : s39l2_T) (l : List AVal) (h : Heap) : Prop := J.cons l fun x0 l => J.cons l fun v l => J.int .i64 v fun x1 => J.cons l fun x2 l => J.cons l fun v l => J.int .i64 v fun x3 => J.cons l fun x4 l => J.cons l fun x5 l => J.cons l fun v l => J.int .i64 v fun x6 => J.nil l (F x0 x1 x2 x3 x4 x5 x6 h)
def s39l2_G (F : s39l2_T) (x0 : AVal) (x1 : Int) (x2 : AVal) (x3 : Int) (x4 x5 : AVal) (x6 : Int) (h : Heap) : Prop := gJ [.any, .int .i64, .any, .int .i64, .any, .any, .int .i64] [x0, (.int .i64 x1), x2, (.int .i64 x3), x4, x5, (.int .i64 x6)] h (s39l2_R F)
def s39l2_E (F : Nat → s39l2_T) (x0 : AVal) (x1 : Int) (x2 : AVal) (x3 : Int) (x4 x5 : AVal) (x6 : Int) (h : Heap) : Prop := gJ [.any, .int .i64, .any, .int .i64, .any, .any, .int .i64] [x0, (.int .i64 x1), x2, (.int .i64 x3), x4, x5, (.int .i64 x6)] h (fun l h => ∃ n, s39l2_R (F n) l h)
theorem s39l2_go {F : s39l2_T} {x0 : AVal} {x1 : Int} {x2 : AVal} {x3 : Int} {x4 x5 : AVal} {x6 : Int} {h : Heap} (H : F x0 x1 x2 x3 x4 x5 x6 h) : s39l2_G F x0 x1 x2 x3 x4 x5 x6 h := gJ_plain rfl H
theorem s39l2_in {F : Nat → s39l2_T} {x0 : AVal} {x1 : Int} {x2 : AVal} {x3 : Int} {x4 x5 : AVal} {x6 : Int} {h : Heap} (n : Nat) (H : F n x0 x1 x2 x3 x4 x5 x6 h) : s39l2_E F x0 x1 x2 x3 x4 x5 x6 h := gJ_plain rfl ⟨n, H⟩

def s39c3 (Ψ : AVal → Heap → Prop) (L1 : s39l1_T) (L2 : s39l2_T) (l_2 : AVal) (n5 : Int) (h_6 : AVal) (x2 : Int) (met1 join1 : AVal) (y1 m j : Int) (t49 : Bool) (h : Heap) : Prop :=
  ifT t49 (
    retG (.tuple [.nilptr, (.bool false)]) h Ψ) (
    appC 1 8 h met1 (.lsl 1 [(.int .i64 m)]) fun v6 h_7 =>
    appC 1 8 h_7 join1 (.lsl 1 [(.int .i64 j)]) fun v7 h_8 =>
    rg (y1 + 1) (
      L2 l_2 n5 h_6 x2 v6 v7 (y1 + 1) h_8))

def s39l2 (Ψ : AVal → Heap → Prop) (L1 : s39l1_T) : Nat → s39l2_T
  | 0, _, _, _, _, _, _, _, _ => False
  | n4 + 1, l_1, n3, h_3, x1, met, join, y, h =>
    ifT (decide (y < n3)) (
      callG prog 87 [l_1, (.int .i64 x1), (.int .i64 y), (.bool true)] h fun v2 h_4 =>
      tInt .i64 v2 fun v3 =>
      callG prog 87 [l_1, (.int .i64 x1), (.int .i64 y), (.bool false)] h_4 fun v4 h_5 =>
      tInt .i64 v4 fun v5 =>
      ifT (decide (v3 < 0)) (
        s39c3 Ψ L1 (s39l2_G (s39l2 Ψ L1 n4)) l_1 n3 h_3 x1 met join y v3 v5 true h_5) (
        s39c3 Ψ L1 (s39l2_G (s39l2 Ψ L1 n4)) l_1 n3 h_3 x1 met join y v3 v5 (decide (v5 < 0)) h_5)) (
      nilCheckA h_3 fun p =>
      addOff p 1 fun p1 =>
      ld1 h p1 fun v8 =>
      chk (sc met) (
        appC 1 24 h v8 (.lsl 1 [met]) fun v9 h_9 =>
        nilCheckA h_3 fun p2 =>
        addOff p2 1 fun p3 =>
        chk (sc v9) (
          st true h_9 p3 [v9] fun h_10 =>
          nilCheckA h_3 fun p4 =>
          addOff p4 2 fun p5 =>
          ld1 h_10 p5 fun v10 =>
          chk (sc join) (
            appC 1 24 h_10 v10 (.lsl 1 [join]) fun v11 h_11 =>
            nilCheckA h_3 fun p6 =>
            addOff p6 2 fun p7 =>
            chk (sc v11) (
              st true h_11 p7 [v11] fun h_12 =>
              rg (x1 + 1) (
                L1 l_1 n3 h_3 (x1 + 1) h_12))))))

abbrev s39l4_T := Int → AVal → Int → Heap → Prop
def s39l4_R (F : s39l4_T) (l : List AVal) (h : Heap) : Prop := J.cons l fun v l => J.int .i64 v fun x0 => J.cons l fun x1 l => J.cons l fun v l => J.int .i64 v fun x2 => J.nil l (F x0 x1 x2 h)
def s39l4_G (F : s39l4_T) (x0 : Int) (x1 : AVal) (x2 : Int) (h : Heap) : Prop := gJ [.int .i64, .any, .int .i64] [(.int .i64 x0), x1, (.int .i64 x2)] h (s39l4_R F)
def s39l4_E (F : Nat → s39l4_T) (x0 : Int) (x1 : AVal) (x2 : Int) (h : Heap) : Prop := gJ [.int .i64, .any, .int .i64] [(.int .i64 x0), x1, (.int .i64 x2)] h (fun l h => ∃ n, s39l4_R (F n) l h)
theorem s39l4_go {F : s39l4_T} {x0 : Int} {x1 : AVal} {x2 : Int} {h : Heap} (H : F x0 x1 x2 h) : s39l4_G F x0 x1 x2 h := gJ_plain rfl H
theorem s39l4_in {F : Nat → s39l4_T} {x0 : Int} {x1 : AVal} {x2 : Int} {h : Heap} (n : Nat) (H : F n x0 x1 x2 h) : s39l4_E F x0 x1 x2 h := gJ_plain rfl ⟨n, H⟩

abbrev s39l5_T := Int → AVal → Int → Int → Heap → Prop
def s39l5_R (F : s39l5_T) (l : List AVal) (h : Heap) : Prop := J.cons l fun v l => J.int .i64 v fun x0 => J.cons l fun x1 l => J.cons l fun v l => J.int .i64 v fun x2 => J.cons l fun v l => J.int .i64 v fun x3 => J.nil l (F x0 x1 x2 x3 h)
def s39l5_G (F : s39l5_T) (x0 : Int) (x1 : AVal) (x2 x3 : Int) (h : Heap) : Prop := gJ [.int .i64, .any, .int .i64, .int .i64] [(.int .i64 x0), x1, (.int .i64 x2), (.int .i64 x3)] h (s39l5_R F)
def s39l5_E (F : Nat → s39l5_T) (x0 : Int) (x1 : AVal) (x2 x3 : Int) (h : Heap) : Prop := gJ [.int .i64, .any, .int .i64, .int .i64] [(.int .i64 x0), x1, (.int .i64 x2), (.int .i64 x3)] h (fun l h => ∃ n, s39l5_R (F n) l h)
theorem s39l5_go {F : s39l5_T} {x0 : Int} {x1 : AVal} {x2 x3 : Int} {h : Heap} (H : F x0 x1 x2 x3 h) : s39l5_G F x0 x1 x2 x3 h := gJ_plain rfl H
theorem s39l5_in {F : Nat → s39l5_T} {x0 : Int} {x1 : AVal} {x2 x3 : Int} {h : Heap} (n : Nat) (H : F n x0 x1 x2 x3 h) : s39l5_E F x0 x1 x2 x3 h := gJ_plain rfl ⟨n, H⟩

abbrev s39l6_T := Int → AVal → Int → Int → Int → Heap → Prop
def s39l6_R (F : s39l6_T) (l : List AVal) (h : Heap) : Prop := J.cons l fun v l => J.int .i64 v fun x0 => J.cons l fun x1 l => J.cons l fun v l => J.int .i64 v fun x2 => J.cons l fun v l => J.int .i64 v fun x3 => J.cons l fun v l => J.int .i64 v fun x4 => J.nil l (F x0 x1 x2 x3 x4 h)
def s39l6_G (F : s39l6_T) (x0 : Int) (x1 : AVal) (x2 x3 x4 : Int) (h : Heap) : Prop := gJ [.int .i64, .any, .int .i64, .int .i64, .int .i64] [(.int .i64 x0), x1, (.int .i64 x2), (.int .i64 x3), (.int .i64 x4)] h (s39l6_R F)
def s39l6_E (F : Nat → s39l6_T) (x0 : Int) (x1 : AVal) (x2 x3 x4 : Int) (h : Heap) : Prop := gJ [.int .i64, .any, .int .i64, .int .i64, .int .i64] [(.int .i64 x0), x1, (.int .i64 x2), (.int .i64 x3), (.int .i64 x4)] h (fun l h => ∃ n, s39l6_R (F n) l h)
theorem s39l6_go {F : s39l6_T} {x0 : Int} {x1 : AVal} {x2 x3 x4 : Int} {h : Heap} (H : F x0 x1 x2 x3 x4 h) : s39l6_G F x0 x1 x2 x3 x4 h := gJ_plain rfl H
theorem s39l6_in {F : Nat → s39l6_T} {x0 : Int} {x1 : AVal} {x2 x3 x4 : Int} {h : Heap} (n : Nat) (H : F n x0 x1 x2 x3 x4 h) : s39l6_E F x0 x1 x2 x3 x4 h := gJ_plain rfl ⟨n, H⟩

def s39l6 (Ψ : AVal → Heap → Prop) (L4 : s39l4_T) (L5 : s39l5_T) : Nat → s39l6_T
  | 0, _, _, _, _, _, _ => False
  | n12 + 1, n11, h_15, x5, y3, z, h =>
    ifT (decide (z < n11)) (
      nilCheckA h_15 fun p8 =>
      addOff p8 1 fun p9 =>
      ld1 h p9 fun v12 =>
      ixS 1 v12 x5 fun p10 =>
      ld1 h p10 fun v13 =>
      nilCheckA h_15 fun p11 =>
      addOff p11 2 fun p12 =>
      ld1 h p12 fun v14 =>
      ixS 1 v14 y3 fun p13 =>
      ld1 h p13 fun v15 =>
      ixS 1 v15 z fun p14 =>
      ld1 h p14 fun v16 =>
      tInt .i64 v16 fun v17 =>
      ixS 1 v13 v17 fun p15 =>
      ld1 h p15 fun v18 =>
      tInt .i64 v18 fun v19 =>
      nilCheckA h_15 fun p16 =>
      addOff p16 2 fun p17 =>
      ld1 h p17 fun v20 =>
      nilCheckA h_15 fun p18 =>
      addOff p18 1 fun p19 =>
      ld1 h p19 fun v21 =>
      ixS 1 v21 x5 fun p20 =>
      ld1 h p20 fun v22 =>
      ixS 1 v22 y3 fun p21 =>
      ld1 h p21 fun v23 =>
      tInt .i64 v23 fun v24 =>
      ixS 1 v20 v24 fun p22 =>
      ld1 h p22 fun v25 =>
      nilCheckA h_15 fun p23 =>
      addOff p23 1 fun p24 =>
      ld1 h p24 fun v26 =>
      ixS 1 v26 x5 fun p25 =>
      ld1 h p25 fun v27 =>
      ixS 1 v27 z fun p26 =>
      ld1 h p26 fun v28 =>
      tInt .i64 v28 fun v29 =>
      ixS 1 v25 v29 fun p27 =>
      ld1 h p27 fun v30 =>
      tInt .i64 v30 fun v31 =>
      ifT (v19 != v31) (
        retG (.tuple [.nilptr, (.bool false)]) h Ψ) (
        rg (z + 1) (
          s39l6_G (s39l6 Ψ L4 L5 n12) n11 h_15 x5 y3 (z + 1) h))) (
      rg (y3 + 1) (
        L5 n11 h_15 x5 (y3 + 1) h))

def s39l5 (Ψ : AVal → Heap → Prop) (L4 : s39l4_T) : Nat → s39l5_T
  | 0, _, _, _, _, _ => False
  | n10 + 1, n9, h_14, x4, y2, h =>
    ifT (decide (y2 < n9)) (
      s39l6_E (s39l6 Ψ L4 (s39l5_G (s39l5 Ψ L4 n10))) n9 h_14 x4 y2 0 h) (
      rg (x4 + 1) (
        L4 n9 h_14 (x4 + 1) h))

def s39l4 (Ψ : AVal → Heap → Prop) : Nat → s39l4_T
  | 0, _, _, _, _ => False
  | n8 + 1, n7, h_13, x3, h =>
    ifT (decide (x3 < n7)) (
      s39l5_E (s39l5 Ψ (s39l4_G (s39l4 Ψ n8))) n7 h_13 x3 0 h) (
      retG (.tuple [h_13, (.bool true)]) h Ψ)

def s39l1 (Ψ : AVal → Heap → Prop) : Nat → s39l1_T
  | 0, _, _, _, _, _ => False
  | n2 + 1, l_, n1, h_2, x, h =>
    ifT (decide (x < n1)) (
      s39l2_E (s39l2 Ψ (s39l1_G (s39l1 Ψ n2))) l_ n1 h_2 x .nilsl .nilsl 0 h) (
      s39l4_E (s39l4 Ψ) n1 h_2 0 h)

def s39 (Ψ : AVal → Heap → Prop) (a_Leq : AVal) (h : Heap) : Prop :=
  callG prog 86 [a_Leq] h fun v h_ =>
  tBool v fun v1 =>
  ifT (!v1) (
    retG (.tuple [.nilptr, (.bool false)]) h_ Ψ) (
    lenN a_Leq fun n =>
    chk (sc a_Leq) (
      Sym.newRow 3 [(.agg [a_Leq, .nilsl, .nilsl])] h_ fun r h_1 =>
      s39l1_E (s39l1 Ψ) a_Leq n (.ptr r 0 0) 0 h_1))

def s39_A (Ψ : AVal → Heap → Prop) : Ann :=
  .seq (.reg [⟨none, [(0, true), (1, false), (2, false)]⟩])
  (.seq (rA 3)
  (.seq (.seq (rA 3)
  (.cond (.seq (rA 2)
  (.leaf))
  (.leaf)))
  (.seq (rA 3)
  (.seq (rA 4)
  (.seq (.seq (rA 1)
  (.block (.loop [(4, .any), (5, .int .i64), (6, .any), (7, .int .i64)] (fun n l h => s39l1_R (s39l1 Ψ n) l h) (fun L1 =>
  .seq (.seq (rA 3)
  (.cond (.leaf)
  (.leaf)))
  (.seq (.block (.seq (rA 2)
  (.seq (.seq (rA 1)
  (.block (.loop [(4, .any), (5, .int .i64), (6, .any), (7, .int .i64), (8, .any), (9, .any), (10, .int .i64)] (fun n l h => s39l2_R (s39l2 Ψ (fun y0 y1 y2 y3 h => L1 [y0, (.int .i64 y1), y2, (.int .i64 y3)] h) n) l h) (fun L2 =>
  .seq (.seq (rA 3)
  (.cond (.leaf)
  (.leaf)))
  (.seq (.block (.seq (rA 5)
  (.seq (rA 5)
  (.seq (.cut [(4, .any), (5, .int .i64), (6, .any), (7, .int .i64), (8, .any), (9, .any), (10, .int .i64), (11, .int .i64), (12, .int .i64), (49, .bool)] (fun l h => J.cons l fun x0 l => J.cons l fun v l => J.int .i64 v fun x1 => J.cons l fun x2 l => J.cons l fun v l => J.int .i64 v fun x3 => J.cons l fun x4 l => J.cons l fun x5 l => J.cons l fun v l => J.int .i64 v fun x6 => J.cons l fun v l => J.int .i64 v fun x7 => J.cons l fun v l => J.int .i64 v fun x8 => J.cons l fun v l => J.bool v fun x9 => J.nil l (s39c3 Ψ (fun y0 y1 y2 y3 h => L1 [y0, (.int .i64 y1), y2, (.int .i64 y3)] h) (fun y0 y1 y2 y3 y4 y5 y6 h => L2 [y0, (.int .i64 y1), y2, (.int .i64 y3), y4, y5, (.int .i64 y6)] h) x0 x1 x2 x3 x4 x5 x6 x7 x8 x9 h)) (.reg [⟨none, [(0, false), (1, false), (2, false)]⟩, ⟨some (46, false), [(3, false), (4, false)]⟩, ⟨none, [(5, false)]⟩])
  (.cond (.seq (rA 2)
  (.leaf))
  (.leaf)))
  (.seq (.reg [⟨none, [(0, false), (1, false), (2, true), (3, false), (4, false)]⟩])
  (.reg [⟨none, [(0, false), (1, false), (2, true), (3, false), (4, false)]⟩]))))))
  (rA 3))))))
  (.seq (.reg [⟨none, [(0, false), (1, false), (2, false), (3, false), (4, false), (5, false), (6, true), (7, false), (8, false), (9, false), (10, false)]⟩])
  (.reg [⟨none, [(0, false), (1, false), (2, false), (3, false), (4, false), (5, false), (6, true), (7, false), (8, false), (9, false), (10, false)]⟩])))))
  (rA 3))))))
  (.seq (.seq (rA 1)
  (.block (.loop [(5, .int .i64), (6, .any), (13, .int .i64)] (fun n l h => s39l4_R (s39l4 Ψ n) l h) (fun L4 =>
  .seq (.seq (rA 3)
  (.cond (.leaf)
  (.leaf)))
  (.seq (.block (.seq (rA 1)
  (.block (.loop [(5, .int .i64), (6, .any), (13, .int .i64), (14, .int .i64)] (fun n l h => s39l5_R (s39l5 Ψ (fun y0 y1 y2 h => L4 [(.int .i64 y0), y1, (.int .i64 y2)] h) n) l h) (fun L5 =>
  .seq (.seq (rA 3)
  (.cond (.leaf)
  (.leaf)))
  (.seq (.block (.seq (rA 1)
  (.block (.loop [(5, .int .i64), (6, .any), (13, .int .i64), (14, .int .i64), (15, .int .i64)] (fun n l h => s39l6_R (s39l6 Ψ (fun y0 y1 y2 h => L4 [(.int .i64 y0), y1, (.int .i64 y2)] h) (fun y0 y1 y2 y3 h => L5 [(.int .i64 y0), y1, (.int .i64 y2), (.int .i64 y3)] h) n) l h) (fun L6 =>
  .seq (.seq (rA 3)
  (.cond (.leaf)
  (.leaf)))
  (.seq (.block (.seq (.draw [(0, false), (1, false), (2, false), (3, false), (4, false), (5, false), (6, false), (7, false), (8, false), (9, false), (10, false), (11, false), (12, false), (13, false), (14, false), (15, false), (16, false), (17, false), (18, false), (19, false), (20, false), (21, false), (22, false), (23, false), (24, false), (25, false), (26, false), (27, false), (28, false), (29, false), (30, false), (31, false), (32, false), (33, false), (34, false), (35, false), (36, false), (37, false), (38, false), (39, false), (40, false), (41, false), (42, false), (43, false), (44, false), (45, false), (46, false), (47, false)] [0, 1, 3, 7, 0, 31, 63, 0, 128, 384, 896, 0, 3968, 8064, 0, 32640, 65408, 131071, 262143, 0, 524288, 1572864, 3670016, 0, 8388608, 25165824, 58720256, 0, 260046848, 528482304, 0, 2139095040, 4286578688, 8589410304, 17179344896, 0, 34359738368, 103079215104, 240518168576, 0, 1065151889408, 2164663517184, 0, 8761733283840, 17557826306048, 35184371564544, 70368743653376, 140737488355327])
  (.cond (.seq (rA 2)
  (.leaf))
  (.leaf))))
  (rA 3)))))))
  (rA 3)))))))
  (rA 3))))))
  (.seq (rA 3)
  (.leaf))))))))

theorem s39_ok {Ψ : AVal → Heap → Prop} {a_Leq : AVal} {h : Heap} (H : s39 Ψ a_Leq h) : ACalls prog 39 [(.agg [a_Leq])] h Ψ :=
  calls_of_evF func39 (by kernel_rfl) (by kernel_rfl) (by kernel_rfl)
    (Eq.mpr (by as_aux_lemma => kernel_rfl : oblF prog f39 (s39_A Ψ) Ψ = (True ∧ True ∧ (True ∧ (True ∧ True) ∧ True) ∧ True ∧ True ∧ (True ∧ (∀ (h : Heap) (x0 : AVal) (x1 : Int) (x2 : AVal) (x3 : Int), ON (s39l1 Ψ 0 x0 x1 x2 x3 h)) ∧ ∀ n1 : Nat, (∀ (h : Heap) (x0 : AVal) (x1 : Int) (x2 : AVal) (x3 : Int), OI (s39l1 Ψ (n1 + 1) x0 x1 x2 x3 h)) ∧ ((True ∧ True ∧ True) ∧ (True ∧ (True ∧ (∀ (h : Heap) (x0 : AVal) (x1 : Int) (x2 : AVal) (x3 : Int) (x4 x5 : AVal) (x6 : Int), ON (s39l2 Ψ (s39l1_G (s39l1 Ψ n1)) 0 x0 x1 x2 x3 x4 x5 x6 h)) ∧ ∀ n2 : Nat, (∀ (h : Heap) (x0 : AVal) (x1 : Int) (x2 : AVal) (x3 : Int) (x4 x5 : AVal) (x6 : Int), OI (s39l2 Ψ (s39l1_G (s39l1 Ψ n1)) (n2 + 1) x0 x1 x2 x3 x4 x5 x6 h)) ∧ ((True ∧ True ∧ True) ∧ (True ∧ True ∧ ((True) ∧ (∀ (h : Heap) (x0 : AVal) (x1 : Int) (x2 : AVal) (x3 : Int) (x4 x5 : AVal) (x6 x7 x8 : Int) (x9 : Bool), OI (s39c3 Ψ (s39l1_G (s39l1 Ψ n1)) (s39l2_G (s39l2 Ψ (s39l1_G (s39l1 Ψ n1)) n2)) x0 x1 x2 x3 x4 x5 x6 x7 x8 x9 h)) ∧ ((True ∧ True) ∧ True)) ∧ True ∧ True) ∧ True)) ∧ True ∧ True) ∧ True)) ∧ (True ∧ (∀ (h : Heap) (x0 : Int) (x1 : AVal) (x2 : Int), ON (s39l4 Ψ 0 x0 x1 x2 h)) ∧ ∀ n4 : Nat, (∀ (h : Heap) (x0 : Int) (x1 : AVal) (x2 : Int), OI (s39l4 Ψ (n4 + 1) x0 x1 x2 h)) ∧ ((True ∧ True ∧ True) ∧ (True ∧ (∀ (h : Heap) (x0 : Int) (x1 : AVal) (x2 x3 : Int), ON (s39l5 Ψ (s39l4_G (s39l4 Ψ n4)) 0 x0 x1 x2 x3 h)) ∧ ∀ n5 : Nat, (∀ (h : Heap) (x0 : Int) (x1 : AVal) (x2 x3 : Int), OI (s39l5 Ψ (s39l4_G (s39l4 Ψ n4)) (n5 + 1) x0 x1 x2 x3 h)) ∧ ((True ∧ True ∧ True) ∧ (True ∧ (∀ (h : Heap) (x0 : Int) (x1 : AVal) (x2 x3 x4 : Int), ON (s39l6 Ψ (s39l4_G (s39l4 Ψ n4)) (s39l5_G (s39l5 Ψ (s39l4_G (s39l4 Ψ n4)) n5)) 0 x0 x1 x2 x3 x4 h)) ∧ ∀ n6 : Nat, (∀ (h : Heap) (x0 : Int) (x1 : AVal) (x2 x3 x4 : Int), OI (s39l6 Ψ (s39l4_G (s39l4 Ψ n4)) (s39l5_G (s39l5 Ψ (s39l4_G (s39l4 Ψ n4)) n5)) (n6 + 1) x0 x1 x2 x3 x4 h)) ∧ ((True ∧ True ∧ True) ∧ (True ∧ (True ∧ True) ∧ True) ∧ True)) ∧ True)) ∧ True)) ∧ True ∧ True)) ⟨trivial, ⟨trivial, ⟨⟨trivial, ⟨⟨trivial, trivial⟩, trivial⟩⟩, ⟨trivial, ⟨trivial, ⟨⟨trivial, ⟨fun _ _ _ _ _ H => H, fun _ => ⟨fun _ _ _ _ _ H => H, ⟨⟨trivial, ⟨trivial, trivial⟩⟩, ⟨⟨trivial, ⟨⟨trivial, ⟨fun _ _ _ _ _ _ _ _ H => H, fun _ => ⟨fun _ _ _ _ _ _ _ _ H => H, ⟨⟨trivial, ⟨trivial, trivial⟩⟩, ⟨⟨trivial, ⟨trivial, ⟨⟨trivial, fun _ _ _ _ _ _ _ _ _ _ _ H => H, ⟨⟨trivial, trivial⟩, trivial⟩⟩, ⟨trivial, trivial⟩⟩⟩⟩, trivial⟩⟩⟩⟩⟩, ⟨trivial, trivial⟩⟩⟩, trivial⟩⟩⟩⟩⟩, ⟨⟨trivial, ⟨fun _ _ _ _ H => H, fun _ => ⟨fun _ _ _ _ H => H, ⟨⟨trivial, ⟨trivial, trivial⟩⟩, ⟨⟨trivial, ⟨fun _ _ _ _ _ H => H, fun _ => ⟨fun _ _ _ _ _ H => H, ⟨⟨trivial, ⟨trivial, trivial⟩⟩, ⟨⟨trivial, ⟨fun _ _ _ _ _ _ H => H, fun _ => ⟨fun _ _ _ _ _ _ H => H, ⟨⟨trivial, ⟨trivial, trivial⟩⟩, ⟨⟨trivial, ⟨⟨trivial, trivial⟩, trivial⟩⟩, trivial⟩⟩⟩⟩⟩, trivial⟩⟩⟩⟩⟩, trivial⟩⟩⟩⟩⟩, ⟨trivial, trivial⟩⟩⟩⟩⟩⟩⟩⟩)
    (Eq.mpr (by as_aux_lemma => kernel_rfl : evF prog f39 (s39_A Ψ) Ψ [(.agg [a_Leq])] h = s39 Ψ a_Leq h) H)

/- 42 dictum/dictumref17.Names -/
abbrev s42l1_T := AVal → AVal → Int → Heap → Prop
def s42l1_R (F : s42l1_T) (l : List AVal) (h : Heap) : Prop := J.cons l fun x0 l => J.cons l fun x1 l => J.cons l fun v l => J.int .i64 v fun x2 => J.nil l (F x0 x1 x2 h)
def s42l1_G (F : s42l1_T) (x0 x1 : AVal) (x2 : Int) (h : Heap) : Prop := gJ [.any, .any, .int .i64] [x0, x1, (.int .i64 x2)] h (s42l1_R F)
def s42l1_E (F : Nat → s42l1_T) (x0 x1 : AVal) (x2 : Int) (h : Heap) : Prop := gJ [.any, .any, .int .i64] [x0, x1, (.int .i64 x2)] h (fun l h => ∃ n, s42l1_R (F n) l h)
theorem s42l1_go {F : s42l1_T} {x0 x1 : AVal} {x2 : Int} {h : Heap} (H : F x0 x1 x2 h) : s42l1_G F x0 x1 x2 h := gJ_plain rfl H
theorem s42l1_in {F : Nat → s42l1_T} {x0 x1 : AVal} {x2 : Int} {h : Heap} (n : Nat) (H : F n x0 x1 x2 h) : s42l1_E F x0 x1 x2 h := gJ_plain rfl ⟨n, H⟩

def s42l1 (Ψ : AVal → Heap → Prop) : Nat → s42l1_T
  | 0, _, _, _, _ => False
  | n2 + 1, a1, b1, i, h =>
    lenN a1 fun n3 =>
    ifT (decide (i < n3)) (
      ixS 1 a1 i fun p =>
      ld1 h p fun v =>
      tStr v fun v1 =>
      ixS 1 b1 i fun p1 =>
      ld1 h p1 fun v2 =>
      tStr v2 fun v3 =>
      ifT (!strEq v1 v3) (
        retG (.bool false) h Ψ) (
        rg (i + 1) (
          s42l1_G (s42l1 Ψ n2) a1 b1 (i + 1) h))) (
      retG (.bool true) h Ψ)

def s42 (Ψ : AVal → Heap → Prop) (a : AVal) (b : AVal) (h : Heap) : Prop :=
  lenN a fun n =>
  lenN b fun n1 =>
  ifT (n != n1) (
    retG (.bool false) h Ψ) (
    s42l1_E (s42l1 Ψ) a b 0 h)

def s42_A (Ψ : AVal → Heap → Prop) : Ann :=
  .seq (rA 1)
  (.seq (.seq (rA 5)
  (.cond (.seq (rA 1)
  (.leaf))
  (.leaf)))
  (.seq (.seq (rA 1)
  (.block (.loop [(0, .any), (1, .any), (5, .int .i64)] (fun n l h => s42l1_R (s42l1 Ψ n) l h) (fun L1 =>
  .seq (.seq (rA 4)
  (.cond (.leaf)
  (.leaf)))
  (.seq (.block (.seq (.draw [(0, false), (1, false), (2, false), (3, false), (4, false), (5, false), (6, false), (7, false), (8, false)] [0, 0, 3, 7, 0, 0, 48, 112, 255])
  (.cond (.seq (rA 1)
  (.leaf))
  (.leaf))))
  (rA 3))))))
  (.seq (rA 1)
  (.leaf))))

theorem s42_ok {Ψ : AVal → Heap → Prop} {a : AVal} {b : AVal} {h : Heap} (H : s42 Ψ a b h) : ACalls prog 42 [a, b] h Ψ :=
  calls_of_evF func42 (by kernel_rfl) (by kernel_rfl) (by kernel_rfl)
    (Eq.mpr (by as_aux_lemma => kernel_rfl : oblF prog f42 (s42_A Ψ) Ψ = (True ∧ (True ∧ (True ∧ True) ∧ True) ∧ (True ∧ (∀ (h : Heap) (x0 x1 : AVal) (x2 : Int), ON (s42l1 Ψ 0 x0 x1 x2 h)) ∧ ∀ n1 : Nat, (∀ (h : Heap) (x0 x1 : AVal) (x2 : Int), OI (s42l1 Ψ (n1 + 1) x0 x1 x2 h)) ∧ ((True ∧ True ∧ True) ∧ (True ∧ (True ∧ True) ∧ True) ∧ True)) ∧ True ∧ True)) ⟨trivial, ⟨⟨trivial, ⟨⟨trivial, trivial⟩, trivial⟩⟩, ⟨⟨trivial, ⟨fun _ _ _ _ H => H, fun _ => ⟨fun _ _ _ _ H => H, ⟨⟨trivial, ⟨trivial, trivial⟩⟩, ⟨⟨trivial, ⟨⟨trivial, trivial⟩, trivial⟩⟩, trivial⟩⟩⟩⟩⟩, ⟨trivial, trivial⟩⟩⟩⟩)
    (Eq.mpr (by as_aux_lemma => kernel_rfl : evF prog f42 (s42_A Ψ) Ψ [a, b] h = s42 Ψ a b h) H)

/- 44 dictum/heyting.Boolean -/
abbrev s44l1_T := AVal → Int → Int → Int → Int → Heap → Prop
def s44l1_R (F : s44l1_T) (l : List AVal) (h : Heap) : Prop := J.cons l fun x0 l => J.cons l fun v l => J.int .i64 v fun x1 => J.cons l fun v l => J.int .i64 v fun x2 => J.cons l fun v l => J.int .i64 v fun x3 => J.cons l fun v l => J.int .i64 v fun x4 => J.nil l (F x0 x1 x2 x3 x4 h)
def s44l1_G (F : s44l1_T) (x0 : AVal) (x1 x2 x3 x4 : Int) (h : Heap) : Prop := gJ [.any, .int .i64, .int .i64, .int .i64, .int .i64] [x0, (.int .i64 x1), (.int .i64 x2), (.int .i64 x3), (.int .i64 x4)] h (s44l1_R F)
def s44l1_E (F : Nat → s44l1_T) (x0 : AVal) (x1 x2 x3 x4 : Int) (h : Heap) : Prop := gJ [.any, .int .i64, .int .i64, .int .i64, .int .i64] [x0, (.int .i64 x1), (.int .i64 x2), (.int .i64 x3), (.int .i64 x4)] h (fun l h => ∃ n, s44l1_R (F n) l h)
theorem s44l1_go {F : s44l1_T} {x0 : AVal} {x1 x2 x3 x4 : Int} {h : Heap} (H : F x0 x1 x2 x3 x4 h) : s44l1_G F x0 x1 x2 x3 x4 h := gJ_plain rfl H
theorem s44l1_in {F : Nat → s44l1_T} {x0 : AVal} {x1 x2 x3 x4 : Int} {h : Heap} (n : Nat) (H : F n x0 x1 x2 x3 x4 h) : s44l1_E F x0 x1 x2 x3 x4 h := gJ_plain rfl ⟨n, H⟩

def s44l1 (Ψ : AVal → Heap → Prop) : Nat → s44l1_T
  | 0, _, _, _, _, _, _ => False
  | n + 1, l_12, low, high, t25, t26, h =>
    ifT (decide (t26 < t25)) (
      ldN 2 h l_12 fun l_13 =>
      tCons l_13 fun v17 l_14 =>
      tInt .i64 v17 fun v18 =>
      tCons l_14 fun v19 l_15 =>
      tNil l_15 (
        ldN 2 h l_12 fun l_16 =>
        tCons l_16 fun v20 l_17 =>
        tInt .i64 v20 fun v21 =>
        tCons l_17 fun v22 l_18 =>
        tNil l_18 (
          callG prog 51 [(.agg [(.int .i64 v21), v22]), (.int .i64 t26), (.int .i64 low)] h fun v23 h_4 =>
          tInt .i64 v23 fun v24 =>
          (ldN 2 h_4 l_12 fun l_19 =>
          (AVal.agg l_19) = (.agg [(.int .i64 v18), v19])) ∧
          callG prog 37 [(.agg [(.int .i64 v18), v19]), (.int .i64 t26), (.int .i64 v24)] h_4 fun v25 h_5 =>
          tTup v25 fun l_20 =>
          tCons l_20 fun v26 l_21 =>
          tInt .i64 v26 fun v27 =>
          tCons l_21 fun v28 l_22 =>
          tBool v28 fun v29 =>
          tNil l_22 (
            ifT (v27 != high) (
              retG (.tuple [(.bool false), (.int .i64 0)]) h_5 Ψ) (
              rg (t26 + 1) (
                s44l1_G (s44l1 Ψ n) l_12 low high t25 (t26 + 1) h_5)))))) (
      retG (.tuple [(.bool true), (.int .i64 0)]) h Ψ)

def s44 (Ψ : AVal → Heap → Prop) (a_Leq : AVal) (h : Heap) : Prop :=
  callG prog 35 [(.agg [a_Leq]), .nilsl] h fun v h_ =>
  tTup v fun l_ =>
  tCons l_ fun v1 l_1 =>
  tCons l_1 fun v2 l_2 =>
  tInt .i64 v2 fun v3 =>
  tNil l_2 (
    tAgg v1 fun l_3 =>
    tCons l_3 fun v4 l_4 =>
    tInt .i64 v4 fun v5 =>
    tCons l_4 fun v6 l_5 =>
    tNil l_5 (
      Sym.newRow 2 [(.agg [(.int .i64 0), .nilfunc])] h_ fun r h_1 =>
      st false h_1 (.ptr r 0 0) [(.int .i64 v5), v6] fun h_2 =>
      ifT (v3 != 0) (
        retG (.tuple [(.bool false), (.int .i64 v3)]) h_2 Ψ) (
        ldN 2 h_2 (.ptr r 0 0) fun l_6 =>
        tCons l_6 fun v7 l_7 =>
        tInt .i64 v7 fun v8 =>
        tCons l_7 fun v9 l_8 =>
        tNil l_8 (
          callG prog 36 [(.agg [(.int .i64 v8), v9])] h_2 fun v10 h_3 =>
          tTup v10 fun l_9 =>
          tCons l_9 fun v11 l_10 =>
          tInt .i64 v11 fun v12 =>
          tCons l_10 fun v13 l_11 =>
          tInt .i64 v13 fun v14 =>
          tNil l_11 (
            ld1 h_3 (.ptr r 0 0) fun v15 =>
            tInt .i64 v15 fun v16 =>
            s44l1_E (s44l1 Ψ) (.ptr r 0 0) v12 v14 v16 0 h_3)))))

def s44_A (Ψ : AVal → Heap → Prop) : Ann :=
  .seq (.reg [⟨none, [(0, true), (1, false), (2, false)]⟩])
  (.seq (rA 8)
  (.seq (.seq (rA 2)
  (.cond (.seq (rA 3)
  (.leaf))
  (.leaf)))
  (.seq (rA 7)
  (.seq (.seq (rA 3)
  (.block (.loop [(4, .any), (6, .int .i64), (7, .int .i64), (25, .int .i64), (26, .int .i64)] (fun n l h => s44l1_R (s44l1 Ψ n) l h) (fun L1 =>
  .seq (rA 1)
  (.seq (.cond (.leaf)
  (.leaf))
  (.seq (.block (.seq (rA 2)
  (.seq (.draw [(0, false), (1, false), (2, false), (3, false), (4, false), (5, false), (6, false), (7, false), (8, false), (9, false), (10, false), (11, false)] [0, 0, 0, 0, 0, 28, 63, 127, 255, 255, 511, 2047])
  (.seq (rA 3)
  (.cond (.seq (rA 2)
  (.leaf))
  (.leaf))))))
  (rA 2)))))))
  (.seq (rA 2)
  (.leaf))))))

theorem s44_ok {Ψ : AVal → Heap → Prop} {a_Leq : AVal} {h : Heap} (H : s44 Ψ a_Leq h) : ACalls prog 44 [(.agg [a_Leq])] h Ψ :=
  calls_of_evF func44 (by kernel_rfl) (by kernel_rfl) (by kernel_rfl)
    (Eq.mpr (by as_aux_lemma => kernel_rfl : oblF prog f44 (s44_A Ψ) Ψ = (True ∧ True ∧ (True ∧ (True ∧ True) ∧ True) ∧ True ∧ (True ∧ (∀ (h : Heap) (x0 : AVal) (x1 x2 x3 x4 : Int), ON (s44l1 Ψ 0 x0 x1 x2 x3 x4 h)) ∧ ∀ n1 : Nat, (∀ (h : Heap) (x0 : AVal) (x1 x2 x3 x4 : Int), OI (s44l1 Ψ (n1 + 1) x0 x1 x2 x3 x4 h)) ∧ (True ∧ (True ∧ True) ∧ (True ∧ True ∧ True ∧ (True ∧ True) ∧ True) ∧ True)) ∧ True ∧ True)) ⟨trivial, ⟨trivial, ⟨⟨trivial, ⟨⟨trivial, trivial⟩, trivial⟩⟩, ⟨trivial, ⟨⟨trivial, ⟨fun _ _ _ _ _ _ H => H, fun _ => ⟨fun _ _ _ _ _ _ H => H, ⟨trivial, ⟨⟨trivial, trivial⟩, ⟨⟨trivial, ⟨trivial, ⟨trivial, ⟨⟨trivial, trivial⟩, trivial⟩⟩⟩⟩, trivial⟩⟩⟩⟩⟩⟩, ⟨trivial, trivial⟩⟩⟩⟩⟩⟩)
    (Eq.mpr (by as_aux_lemma => kernel_rfl : evF prog f44 (s44_A Ψ) Ψ [(.agg [a_Leq])] h = s44 Ψ a_Leq h) H)

/- 46 dictum/dictumref03.From -/
abbrev s46l1_T := AVal → AVal → Int → Heap → Prop
def s46l1_R (F : s46l1_T) (l : List AVal) (h : Heap) : Prop := J.cons l fun x0 l => J.cons l fun x1 l => J.cons l fun v l => J.int .i64 v fun x2 => J.nil l (F x0 x1 x2 h)
def s46l1_G (F : s46l1_T) (x0 x1 : AVal) (x2 : Int) (h : Heap) : Prop := gJ [.any, .any, .int .i64] [x0, x1, (.int .i64 x2)] h (s46l1_R F)
def s46l1_E (F : Nat → s46l1_T) (x0 x1 : AVal) (x2 : Int) (h : Heap) : Prop := gJ [.any, .any, .int .i64] [x0, x1, (.int .i64 x2)] h (fun l h => ∃ n, s46l1_R (F n) l h)
theorem s46l1_go {F : s46l1_T} {x0 x1 : AVal} {x2 : Int} {h : Heap} (H : F x0 x1 x2 h) : s46l1_G F x0 x1 x2 h := gJ_plain rfl H
theorem s46l1_in {F : Nat → s46l1_T} {x0 x1 : AVal} {x2 : Int} {h : Heap} (n : Nat) (H : F n x0 x1 x2 h) : s46l1_E F x0 x1 x2 h := gJ_plain rfl ⟨n, H⟩

def s46l1 (Ψ : AVal → Heap → Prop) : Nat → s46l1_T
  | 0, _, _, _, _ => False
  | n + 1, rows1, t, i, h =>
    lenN rows1 fun n1 =>
    ifT (decide (i < n1)) (
      ixS 4 rows1 i fun p =>
      ldN 4 h p fun l_ =>
      tCons l_ fun v l_1 =>
      tInt .i64 v fun v1 =>
      tCons l_1 fun v2 l_2 =>
      tStr v2 fun v3 =>
      tCons l_2 fun v4 l_3 =>
      tInt .i64 v4 fun v5 =>
      tCons l_3 fun v6 l_4 =>
      tInt .i64 v6 fun v7 =>
      tNil l_4 (
        callG prog 88 [t, (.agg [(.int .i64 v1), (.str v3), (.int .i64 v5), (.int .i64 v7)])] h fun v8 h_1 =>
        tTup v8 fun l_5 =>
        tCons l_5 fun v9 l_6 =>
        tInt .i64 v9 fun v10 =>
        tCons l_6 fun v11 l_7 =>
        tInt .i64 v11 fun v12 =>
        tNil l_7 (
          ifT (v12 != 0) (
            retG (.tuple [.nilptr, (.int .i64 v12)]) h_1 Ψ) (
            ifT (v10 != i) (
              retG (.tuple [.nilptr, (.int .i64 31)]) h_1 Ψ) (
              rg (i + 1) (
                s46l1_G (s46l1 Ψ n) rows1 t (i + 1) h_1)))))) (
      retG (.tuple [t, (.int .i64 0)]) h Ψ)

def s46 (Ψ : AVal → Heap → Prop) (rows : AVal) (h : Heap) : Prop :=
  Sym.newRow 1 [(.agg [.nilsl])] h fun r h_ =>
  s46l1_E (s46l1 Ψ) rows (.ptr r 0 0) 0 h_

def s46_A (Ψ : AVal → Heap → Prop) : Ann :=
  .seq (rA 2)
  (.seq (rA 3)
  (.seq (.seq (rA 1)
  (.block (.loop [(0, .any), (4, .any), (5, .int .i64)] (fun n l h => s46l1_R (s46l1 Ψ n) l h) (fun L1 =>
  .seq (.seq (rA 4)
  (.cond (.leaf)
  (.leaf)))
  (.seq (.block (.seq (rA 11)
  (.seq (.seq (rA 2)
  (.cond (.seq (rA 3)
  (.leaf))
  (.leaf)))
  (.seq (rA 3)
  (.cond (.seq (rA 2)
  (.leaf))
  (.leaf))))))
  (rA 3))))))
  (.seq (rA 3)
  (.leaf))))

theorem s46_ok {Ψ : AVal → Heap → Prop} {rows : AVal} {h : Heap} (H : s46 Ψ rows h) : ACalls prog 46 [rows] h Ψ :=
  calls_of_evF func46 (by kernel_rfl) (by kernel_rfl) (by kernel_rfl)
    (Eq.mpr (by as_aux_lemma => kernel_rfl : oblF prog f46 (s46_A Ψ) Ψ = (True ∧ True ∧ (True ∧ (∀ (h : Heap) (x0 x1 : AVal) (x2 : Int), ON (s46l1 Ψ 0 x0 x1 x2 h)) ∧ ∀ n1 : Nat, (∀ (h : Heap) (x0 x1 : AVal) (x2 : Int), OI (s46l1 Ψ (n1 + 1) x0 x1 x2 h)) ∧ ((True ∧ True ∧ True) ∧ (True ∧ (True ∧ (True ∧ True) ∧ True) ∧ True ∧ (True ∧ True) ∧ True) ∧ True)) ∧ True ∧ True)) ⟨trivial, ⟨trivial, ⟨⟨trivial, ⟨fun _ _ _ _ H => H, fun _ => ⟨fun _ _ _ _ H => H, ⟨⟨trivial, ⟨trivial, trivial⟩⟩, ⟨⟨trivial, ⟨⟨trivial, ⟨⟨trivial, trivial⟩, trivial⟩⟩, ⟨trivial, ⟨⟨trivial, trivial⟩, trivial⟩⟩⟩⟩, trivial⟩⟩⟩⟩⟩, ⟨trivial, trivial⟩⟩⟩⟩)
    (Eq.mpr (by as_aux_lemma => kernel_rfl : evF prog f46 (s46_A Ψ) Ψ [rows] h = s46 Ψ rows h) H)

/- 48 (*dictum/formula.Table).Below -/
abbrev s48l1_T := AVal → AVal → Heap → Prop
def s48l1_R (F : s48l1_T) (l : List AVal) (h : Heap) : Prop := J.cons l fun x0 l => J.cons l fun x1 l => J.nil l (F x0 x1 h)
def s48l1_G (F : s48l1_T) (x0 x1 : AVal) (h : Heap) : Prop := gJ [.any, .any] [x0, x1] h (s48l1_R F)
def s48l1_E (F : Nat → s48l1_T) (x0 x1 : AVal) (h : Heap) : Prop := gJ [.any, .any] [x0, x1] h (fun l h => ∃ n, s48l1_R (F n) l h)
theorem s48l1_go {F : s48l1_T} {x0 x1 : AVal} {h : Heap} (H : F x0 x1 h) : s48l1_G F x0 x1 h := gJ_plain rfl H
theorem s48l1_in {F : Nat → s48l1_T} {x0 x1 : AVal} {h : Heap} (n : Nat) (H : F n x0 x1 h) : s48l1_E F x0 x1 h := gJ_plain rfl ⟨n, H⟩

def s48l1 (Ψ : AVal → Heap → Prop) : Nat → s48l1_T
  | 0, _, _, _ => False
  | n + 1, l_, t25, h =>
    nextM h t25 fun v8 h_9 =>
    extractA v8 0 fun v9 =>
    tBool v9 fun v10 =>
    ifT v10 (
      entryA h_9 t25 fun v11 =>
      extractA v11 0 fun v12 =>
      tInt .i64 v12 fun v13 =>
      appC 1 8 h_9 l_ (.lsl 1 [(.int .i64 v13)]) fun v14 h_10 =>
      s48l1_G (s48l1 Ψ n) v14 t25 h_10) (
      callG prog 94 [l_] h_9 fun v15 h_11 =>
      retG (.tuple [l_, (.int .i64 0)]) h_11 Ψ)

def s48 (Ψ : AVal → Heap → Prop) (t : AVal) (id_ : Int) (h : Heap) : Prop :=
  chk (sc t) (
    callG prog 91 [t] h fun v h_ =>
    tBool v fun v1 =>
    ifT (!v1) (
      retG (.tuple [.nilsl, (.int .i64 1)]) h_ Ψ) (
      callG prog 92 [t, (.int .i64 id_)] h_ fun v2 h_1 =>
      tBool v2 fun v3 =>
      ifT (!v3) (
        retG (.tuple [.nilsl, (.int .i64 31)]) h_1 Ψ) (
        newMap h_1 fun r h_2 =>
        Sym.newRow 1 [.nilmap] h_2 fun r1 h_3 =>
        st true h_3 (.ptr r1 0 0) [(.mapr r)] fun h_4 =>
        Sym.newRow 1 [.nilfunc] h_4 fun r2 h_5 =>
        st true h_5 (.ptr r2 0 0) [(.func (.func 93) [] [(.ptr r1 0 0), (.lptr [t]), (.ptr r2 0 0)])] fun h_6 =>
        ld1 h_6 (.ptr r2 0 0) fun v4 =>
        callV prog v4 [(.int .i64 id_)] h_6 fun v5 h_7 =>
        ld1 h_7 (.ptr r1 0 0) fun v6 =>
        rangeM h_7 v6 fun v7 h_8 =>
        s48l1_E (s48l1 Ψ) .nilsl v7 h_8)))

def s48_A (Ψ : AVal → Heap → Prop) : Ann :=
  .seq (.reg [⟨none, [(0, true), (1, false), (2, false)]⟩])
  (.seq (.block (.seq (rA 4)
  (.cond (.seq (rA 2)
  (.leaf))
  (.seq (rA 5)
  (.cond (.seq (rA 2)
  (.leaf))
  (.leaf))))))
  (.seq (rA 3)
  (.seq (rA 1)
  (.seq (rA 2)
  (.seq (rA 3)
  (.seq (rA 1)
  (.seq (.seq (rA 2)
  (.block (.loop [(8, .any), (25, .any)] (fun n l h => s48l1_R (s48l1 Ψ n) l h) (fun L1 =>
  .seq (rA 2)
  (.seq (.cond (.leaf)
  (.leaf))
  (.block (.seq (rA 3)
  (.reg [⟨none, [(0, false), (1, false), (2, true), (3, false), (4, false)]⟩]))))))))
  (.seq (rA 2)
  (.seq (rA 3)
  (.leaf))))))))))

theorem s48_ok {Ψ : AVal → Heap → Prop} {t : AVal} {id_ : Int} {h : Heap} (H : s48 Ψ t id_ h) : ACalls prog 48 [t, (.int .i64 id_)] h Ψ :=
  calls_of_evF func48 (by kernel_rfl) (by kernel_rfl) (by kernel_rfl)
    (Eq.mpr (by as_aux_lemma => kernel_rfl : oblF prog f48 (s48_A Ψ) Ψ = (True ∧ (True ∧ (True ∧ True) ∧ True ∧ (True ∧ True) ∧ True) ∧ True ∧ True ∧ True ∧ True ∧ True ∧ (True ∧ (∀ (h : Heap) (x0 x1 : AVal), ON (s48l1 Ψ 0 x0 x1 h)) ∧ ∀ n1 : Nat, (∀ (h : Heap) (x0 x1 : AVal), OI (s48l1 Ψ (n1 + 1) x0 x1 h)) ∧ (True ∧ (True ∧ True) ∧ True ∧ True)) ∧ True ∧ True ∧ True)) ⟨trivial, ⟨⟨trivial, ⟨⟨trivial, trivial⟩, ⟨trivial, ⟨⟨trivial, trivial⟩, trivial⟩⟩⟩⟩, ⟨trivial, ⟨trivial, ⟨trivial, ⟨trivial, ⟨trivial, ⟨⟨trivial, ⟨fun _ _ _ H => H, fun _ => ⟨fun _ _ _ H => H, ⟨trivial, ⟨⟨trivial, trivial⟩, ⟨trivial, trivial⟩⟩⟩⟩⟩⟩, ⟨trivial, ⟨trivial, trivial⟩⟩⟩⟩⟩⟩⟩⟩⟩⟩)
    (Eq.mpr (by as_aux_lemma => kernel_rfl : evF prog f48 (s48_A Ψ) Ψ [t, (.int .i64 id_)] h = s48 Ψ t id_ h) H)

/- 50 (dictum/heyting.lattice).meet -/
def s50 (Ψ : AVal → Heap → Prop) (l_n : Int) (l_leq : AVal) (x : Int) (y : Int) (h : Heap) : Prop :=
  callG prog 75 [(.int .i64 l_n), (.func (.func 95) [] [(.lptr [(.int .i64 l_n), l_leq]), (.lptr [(.int .i64 x)]), (.lptr [(.int .i64 y)])]), (.func (.func 77) [(.agg [(.int .i64 l_n), l_leq])] [])] h fun v h_ =>
  tTup v fun l_ =>
  tCons l_ fun v1 l_1 =>
  tInt .i64 v1 fun v2 =>
  tCons l_1 fun v3 l_2 =>
  tBool v3 fun v4 =>
  tNil l_2 (
    retG (.tuple [(.int .i64 v2), (.bool v4)]) h_ Ψ)

def s50_A (Ψ : AVal → Heap → Prop) : Ann :=
  .seq (.reg [⟨none, [(0, true), (1, true), (2, true), (3, false), (4, false)]⟩])
  (.seq (rA 10)
  (.leaf))

theorem s50_ok {Ψ : AVal → Heap → Prop} {l_n : Int} {l_leq : AVal} {x : Int} {y : Int} {h : Heap} (H : s50 Ψ l_n l_leq x y h) : ACalls prog 50 [(.agg [(.int .i64 l_n), l_leq]), (.int .i64 x), (.int .i64 y)] h Ψ :=
  calls_of_evF func50 (by kernel_rfl) (by kernel_rfl) (by kernel_rfl)
    (Eq.mpr (by as_aux_lemma => kernel_rfl : oblF prog f50 (s50_A Ψ) Ψ = (True ∧ True ∧ True)) ⟨trivial, ⟨trivial, trivial⟩⟩)
    (Eq.mpr (by as_aux_lemma => kernel_rfl : evF prog f50 (s50_A Ψ) Ψ [(.agg [(.int .i64 l_n), l_leq]), (.int .i64 x), (.int .i64 y)] h = s50 Ψ l_n l_leq x y h) H)

/- 52 (*dictum/dictumref03.T).Below -/
abbrev s52l1_T := AVal → Int → AVal → AVal → Int → Heap → Prop
def s52l1_R (F : s52l1_T) (l : List AVal) (h : Heap) : Prop := J.cons l fun x0 l => J.cons l fun v l => J.int .i64 v fun x1 => J.cons l fun x2 l => J.cons l fun x3 l => J.cons l fun v l => J.int .i64 v fun x4 => J.nil l (F x0 x1 x2 x3 x4 h)
def s52l1_G (F : s52l1_T) (x0 : AVal) (x1 : Int) (x2 x3 : AVal) (x4 : Int) (h : Heap) : Prop := gJ [.any, .int .i64, .any, .any, .int .i64] [x0, (.int .i64 x1), x2, x3, (.int .i64 x4)] h (s52l1_R F)
def s52l1_E (F : Nat → s52l1_T) (x0 : AVal) (x1 : Int) (x2 x3 : AVal) (x4 : Int) (h : Heap) : Prop := gJ [.any, .int .i64, .any, .any, .int .i64] [x0, (.int .i64 x1), x2, x3, (.int .i64 x4)] h (fun l h => ∃ n, s52l1_R (F n) l h)
theorem s52l1_go {F : s52l1_T} {x0 : AVal} {x1 : Int} {x2 x3 : AVal} {x4 : Int} {h : Heap} (H : F x0 x1 x2 x3 x4 h) : s52l1_G F x0 x1 x2 x3 x4 h := gJ_plain rfl H
theorem s52l1_in {F : Nat → s52l1_T} {x0 : AVal} {x1 : Int} {x2 x3 : AVal} {x4 : Int} {h : Heap} (n : Nat) (H : F n x0 x1 x2 x3 x4 h) : s52l1_E F x0 x1 x2 x3 x4 h := gJ_plain rfl ⟨n, H⟩

def s52c2 (Ψ : AVal → Heap → Prop) (L1 : s52l1_T) (t2 : AVal) (id_2 : Int) (in_1 out1 : AVal) (i1 : Int) (h : Heap) : Prop :=
  rg (i1 - 1) (
    L1 t2 id_2 in_1 out1 (i1 - 1) h)

def s52c3 (Ψ : AVal → Heap → Prop) (L1 : s52l1_T) (t3 : AVal) (id_3 : Int) (in_2 out2 : AVal) (i2 : Int) (t52 : Bool) (h : Heap) : Prop :=
  ifT t52 (
    nilCheckA t3 fun p4 =>
    addOff p4 0 fun p5 =>
    ld1 h p5 fun v6 =>
    ixS 4 v6 i2 fun p6 =>
    addOff p6 2 fun p7 =>
    ld1 h p7 fun v7 =>
    tInt .i64 v7 fun v8 =>
    ixS 1 in_2 v8 fun p8 =>
    st true h p8 [(.bool true)] fun h_3 =>
    nilCheckA t3 fun p9 =>
    addOff p9 0 fun p10 =>
    ld1 h_3 p10 fun v9 =>
    ixS 4 v9 i2 fun p11 =>
    addOff p11 3 fun p12 =>
    ld1 h_3 p12 fun v10 =>
    tInt .i64 v10 fun v11 =>
    ixS 1 in_2 v11 fun p13 =>
    st true h_3 p13 [(.bool true)] fun h_4 =>
    s52c2 Ψ L1 t3 id_3 in_2 out2 i2 h_4) (
    s52c2 Ψ L1 t3 id_3 in_2 out2 i2 h)

abbrev s52l4_T := Int → AVal → AVal → Int → Heap → Prop
def s52l4_R (F : s52l4_T) (l : List AVal) (h : Heap) : Prop := J.cons l fun v l => J.int .i64 v fun x0 => J.cons l fun x1 l => J.cons l fun x2 l => J.cons l fun v l => J.int .i64 v fun x3 => J.nil l (F x0 x1 x2 x3 h)
def s52l4_G (F : s52l4_T) (x0 : Int) (x1 x2 : AVal) (x3 : Int) (h : Heap) : Prop := gJ [.int .i64, .any, .any, .int .i64] [(.int .i64 x0), x1, x2, (.int .i64 x3)] h (s52l4_R F)
def s52l4_E (F : Nat → s52l4_T) (x0 : Int) (x1 x2 : AVal) (x3 : Int) (h : Heap) : Prop := gJ [.int .i64, .any, .any, .int .i64] [(.int .i64 x0), x1, x2, (.int .i64 x3)] h (fun l h => ∃ n, s52l4_R (F n) l h)
theorem s52l4_go {F : s52l4_T} {x0 : Int} {x1 x2 : AVal} {x3 : Int} {h : Heap} (H : F x0 x1 x2 x3 h) : s52l4_G F x0 x1 x2 x3 h := gJ_plain rfl H
theorem s52l4_in {F : Nat → s52l4_T} {x0 : Int} {x1 x2 : AVal} {x3 : Int} {h : Heap} (n : Nat) (H : F n x0 x1 x2 x3 h) : s52l4_E F x0 x1 x2 x3 h := gJ_plain rfl ⟨n, H⟩

def s52c5 (Ψ : AVal → Heap → Prop) (L4 : s52l4_T) (id_5 : Int) (in_4 out4 : AVal) (i4 : Int) (h : Heap) : Prop :=
  rg (i4 + 1) (
    L4 id_5 in_4 out4 (i4 + 1) h)

def s52l4 (Ψ : AVal → Heap → Prop) : Nat → s52l4_T
  | 0, _, _, _, _, _ => False
  | n2 + 1, id_4, in_3, out3, i3, h =>
    ifT (decide (i3 ≤ id_4)) (
      ixS 1 in_3 i3 fun p22 =>
      ld1 h p22 fun v18 =>
      tBool v18 fun v19 =>
      ifT v19 (
        appC 1 8 h out3 (.lsl 1 [(.int .i64 i3)]) fun v20 h_5 =>
        s52c5 Ψ (s52l4_G (s52l4 Ψ n2)) id_4 in_3 v20 i3 h_5) (
        s52c5 Ψ (s52l4_G (s52l4 Ψ n2)) id_4 in_3 out3 i3 h)) (
      retG (.tuple [out3, (.int .i64 0)]) h Ψ)

def s52l1 (Ψ : AVal → Heap → Prop) : Nat → s52l1_T
  | 0, _, _, _, _, _, _ => False
  | n1 + 1, t1, id_1, in_, out, i, h =>
    ifT (decide (0 ≤ i)) (
      ixS 1 in_ i fun p3 =>
      ld1 h p3 fun v4 =>
      tBool v4 fun v5 =>
      ifT (!v5) (
        s52c2 Ψ (s52l1_G (s52l1 Ψ n1)) t1 id_1 in_ out i h) (
        nilCheckA t1 fun p14 =>
        addOff p14 0 fun p15 =>
        ld1 h p15 fun v12 =>
        ixS 4 v12 i fun p16 =>
        addOff p16 0 fun p17 =>
        ld1 h p17 fun v13 =>
        tInt .i64 v13 fun v14 =>
        ifT (v14 != 1) (
          nilCheckA t1 fun p18 =>
          addOff p18 0 fun p19 =>
          ld1 h p19 fun v15 =>
          ixS 4 v15 i fun p20 =>
          addOff p20 0 fun p21 =>
          ld1 h p21 fun v16 =>
          tInt .i64 v16 fun v17 =>
          s52c3 Ψ (s52l1_G (s52l1 Ψ n1)) t1 id_1 in_ out i (v17 != 2) h) (
          s52c3 Ψ (s52l1_G (s52l1 Ψ n1)) t1 id_1 in_ out i false h))) (
      s52l4_E (s52l4 Ψ) id_1 in_ out 0 h)

def s52 (Ψ : AVal → Heap → Prop) (t : AVal) (id_ : Int) (h : Heap) : Prop :=
  callG prog 24 [t, (.int .i64 id_)] h fun v h_ =>
  tBool v fun v1 =>
  ifT (!v1) (
    retG (.tuple [.nilsl, (.int .i64 31)]) h_ Ψ) (
    nilCheckA t fun p =>
    addOff p 0 fun p1 =>
    ld1 h_ p1 fun v2 =>
    lenN v2 fun n =>
    mkS false 1 1 (.bool false) h_ n n fun v3 h_1 =>
    ixS 1 v3 id_ fun p2 =>
    st true h_1 p2 [(.bool true)] fun h_2 =>
    s52l1_E (s52l1 Ψ) t id_ v3 .nilsl id_ h_2)

def s52_A (Ψ : AVal → Heap → Prop) : Ann :=
  .seq (rA 2)
  (.seq (.seq (rA 4)
  (.cond (.seq (rA 2)
  (.leaf))
  (.leaf)))
  (.seq (rA 7)
  (.seq (rA 4)
  (.seq (rA 1)
  (.seq (.seq (rA 2)
  (.block (.loop [(0, .any), (1, .int .i64), (6, .any), (7, .any), (8, .int .i64)] (fun n l h => s52l1_R (s52l1 Ψ n) l h) (fun L1 =>
  .seq (.seq (rA 2)
  (.cond (.leaf)
  (.leaf)))
  (.cut [(0, .any), (1, .int .i64), (6, .any), (7, .any), (8, .int .i64)] (fun l h => J.cons l fun x0 l => J.cons l fun v l => J.int .i64 v fun x1 => J.cons l fun x2 l => J.cons l fun x3 l => J.cons l fun v l => J.int .i64 v fun x4 => J.nil l (s52c2 Ψ (fun y0 y1 y2 y3 y4 h => L1 [y0, (.int .i64 y1), y2, y3, (.int .i64 y4)] h) x0 x1 x2 x3 x4 h)) (.block (.seq (.seq (rA 5)
  (.cond (.leaf)
  (.leaf)))
  (.cut [(0, .any), (1, .int .i64), (6, .any), (7, .any), (8, .int .i64), (52, .bool)] (fun l h => J.cons l fun x0 l => J.cons l fun v l => J.int .i64 v fun x1 => J.cons l fun x2 l => J.cons l fun x3 l => J.cons l fun v l => J.int .i64 v fun x4 => J.cons l fun v l => J.bool v fun x5 => J.nil l (s52c3 Ψ (fun y0 y1 y2 y3 y4 h => L1 [y0, (.int .i64 y1), y2, y3, (.int .i64 y4)] h) x0 x1 x2 x3 x4 x5 h)) (.reg [⟨none, [(0, false), (1, false), (2, false), (3, false), (4, false), (5, false), (6, false), (7, false), (8, false), (9, false)]⟩, ⟨some (42, true), [(10, false), (11, false), (12, false), (13, false), (14, false), (15, false), (16, false), (17, false), (18, false)]⟩, ⟨none, [(19, false)]⟩])
  (.cond (.seq (rA 11)
  (rA 11))
  (.leaf)))))
  (rA 3))))))
  (.seq (.seq (rA 1)
  (.block (.loop [(1, .int .i64), (6, .any), (7, .any), (9, .int .i64)] (fun n l h => s52l4_R (s52l4 Ψ n) l h) (fun L4 =>
  .seq (.seq (rA 3)
  (.cond (.leaf)
  (.leaf)))
  (.cut [(1, .int .i64), (6, .any), (7, .any), (9, .int .i64)] (fun l h => J.cons l fun v l => J.int .i64 v fun x0 => J.cons l fun x1 l => J.cons l fun x2 l => J.cons l fun v l => J.int .i64 v fun x3 => J.nil l (s52c5 Ψ (fun y0 y1 y2 y3 h => L4 [(.int .i64 y0), y1, y2, (.int .i64 y3)] h) x0 x1 x2 x3 h)) (.block (.seq (rA 4)
  (.cond (.reg [⟨none, [(0, false), (1, false), (2, true), (3, false), (4, false)]⟩])
  (.leaf))))
  (rA 3))))))
  (.seq (rA 3)
  (.leaf))))))))

theorem s52_ok {Ψ : AVal → Heap → Prop} {t : AVal} {id_ : Int} {h : Heap} (H : s52 Ψ t id_ h) : ACalls prog 52 [t, (.int .i64 id_)] h Ψ :=
  calls_of_evF func52 (by kernel_rfl) (by kernel_rfl) (by kernel_rfl)
    (Eq.mpr (by as_aux_lemma => kernel_rfl : oblF prog f52 (s52_A Ψ) Ψ = (True ∧ (True ∧ (True ∧ True) ∧ True) ∧ True ∧ True ∧ True ∧ (True ∧ (∀ (h : Heap) (x0 : AVal) (x1 : Int) (x2 x3 : AVal) (x4 : Int), ON (s52l1 Ψ 0 x0 x1 x2 x3 x4 h)) ∧ ∀ n1 : Nat, (∀ (h : Heap) (x0 : AVal) (x1 : Int) (x2 x3 : AVal) (x4 : Int), OI (s52l1 Ψ (n1 + 1) x0 x1 x2 x3 x4 h)) ∧ ((True ∧ True ∧ True) ∧ ((True ∧ True ∧ True) ∧ (True) ∧ (∀ (h : Heap) (x0 : AVal) (x1 : Int) (x2 x3 : AVal) (x4 : Int) (x5 : Bool), OI (s52c3 Ψ (s52l1_G (s52l1 Ψ n1)) x0 x1 x2 x3 x4 x5 h)) ∧ ((True ∧ True) ∧ True)) ∧ (∀ (h : Heap) (x0 : AVal) (x1 : Int) (x2 x3 : AVal) (x4 : Int), OI (s52c2 Ψ (s52l1_G (s52l1 Ψ n1)) x0 x1 x2 x3 x4 h)) ∧ (True))) ∧ (True ∧ (∀ (h : Heap) (x0 : Int) (x1 x2 : AVal) (x3 : Int), ON (s52l4 Ψ 0 x0 x1 x2 x3 h)) ∧ ∀ n4 : Nat, (∀ (h : Heap) (x0 : Int) (x1 x2 : AVal) (x3 : Int), OI (s52l4 Ψ (n4 + 1) x0 x1 x2 x3 h)) ∧ ((True ∧ True ∧ True) ∧ (True ∧ True ∧ True) ∧ (∀ (h : Heap) (x0 : Int) (x1 x2 : AVal) (x3 : Int), OI (s52c5 Ψ (s52l4_G (s52l4 Ψ n4)) x0 x1 x2 x3 h)) ∧ (True))) ∧ True ∧ True)) ⟨trivial, ⟨⟨trivial, ⟨⟨trivial, trivial⟩, trivial⟩⟩, ⟨trivial, ⟨trivial, ⟨trivial, ⟨⟨trivial, ⟨fun _ _ _ _ _ _ H => H, fun _ => ⟨fun _ _ _ _ _ _ H => H, ⟨⟨trivial, ⟨trivial, trivial⟩⟩, ⟨⟨⟨trivial, ⟨trivial, trivial⟩⟩, ⟨trivial, fun _ _ _ _ _ _ _ H => H, ⟨⟨trivial, trivial⟩, trivial⟩⟩⟩, fun _ _ _ _ _ _ H => H, trivial⟩⟩⟩⟩⟩, ⟨⟨trivial, ⟨fun _ _ _ _ _ H => H, fun _ => ⟨fun _ _ _ _ _ H => H, ⟨⟨trivial, ⟨trivial, trivial⟩⟩, ⟨⟨trivial, ⟨trivial, trivial⟩⟩, fun _ _ _ _ _ H => H, trivial⟩⟩⟩⟩⟩, ⟨trivial, trivial⟩⟩⟩⟩⟩⟩⟩⟩)
    (Eq.mpr (by as_aux_lemma => kernel_rfl : evF prog f52 (s52_A Ψ) Ψ [t, (.int .i64 id_)] h = s52 Ψ t id_ h) H)

/- 54 (*dictum/dictumref23.H).Imp -/
abbrev s54l1_T := AVal → Int → Int → Int → Int → Heap → Prop
def s54l1_R (F : s54l1_T) (l : List AVal) (h : Heap) : Prop := J.cons l fun x0 l => J.cons l fun v l => J.int .i64 v fun x1 => J.cons l fun v l => J.int .i64 v fun x2 => J.cons l fun v l => J.int .i64 v fun x3 => J.cons l fun v l => J.int .i64 v fun x4 => J.nil l (F x0 x1 x2 x3 x4 h)
def s54l1_G (F : s54l1_T) (x0 : AVal) (x1 x2 x3 x4 : Int) (h : Heap) : Prop := gJ [.any, .int .i64, .int .i64, .int .i64, .int .i64] [x0, (.int .i64 x1), (.int .i64 x2), (.int .i64 x3), (.int .i64 x4)] h (s54l1_R F)
def s54l1_E (F : Nat → s54l1_T) (x0 : AVal) (x1 x2 x3 x4 : Int) (h : Heap) : Prop := gJ [.any, .int .i64, .int .i64, .int .i64, .int .i64] [x0, (.int .i64 x1), (.int .i64 x2), (.int .i64 x3), (.int .i64 x4)] h (fun l h => ∃ n, s54l1_R (F n) l h)
theorem s54l1_go {F : s54l1_T} {x0 : AVal} {x1 x2 x3 x4 : Int} {h : Heap} (H : F x0 x1 x2 x3 x4 h) : s54l1_G F x0 x1 x2 x3 x4 h := gJ_plain rfl H
theorem s54l1_in {F : Nat → s54l1_T} {x0 : AVal} {x1 x2 x3 x4 : Int} {h : Heap} (n : Nat) (H : F n x0 x1 x2 x3 x4 h) : s54l1_E F x0 x1 x2 x3 x4 h := gJ_plain rfl ⟨n, H⟩

def s54c2 (Ψ : AVal → Heap → Prop) (L1 : s54l1_T) (h_2 : AVal) (x2 y2 out1 z1 : Int) (h : Heap) : Prop :=
  rg (z1 + 1) (
    L1 h_2 x2 y2 out1 (z1 + 1) h)

def s54c3 (Ψ : AVal → Heap → Prop) (L1 : s54l1_T) (h_3 : AVal) (x3 y3 out2 z2 : Int) (t52 : Bool) (h : Heap) : Prop :=
  ifT t52 (
    s54c2 Ψ L1 h_3 x3 y3 z2 z2 h) (
    s54c2 Ψ L1 h_3 x3 y3 out2 z2 h)

def s54l1 (Ψ : AVal → Heap → Prop) : Nat → s54l1_T
  | 0, _, _, _, _, _, _ => False
  | n + 1, h_1, x1, y1, out, z, h =>
    nilCheckA h_1 fun p =>
    addOff p 0 fun p1 =>
    ld1 h p1 fun v =>
    lenN v fun n1 =>
    ifT (decide (z < n1)) (
      nilCheckA h_1 fun p2 =>
      addOff p2 0 fun p3 =>
      ld1 h p3 fun v1 =>
      nilCheckA h_1 fun p4 =>
      addOff p4 1 fun p5 =>
      ld1 h p5 fun v2 =>
      ixS 1 v2 z fun p6 =>
      ld1 h p6 fun v3 =>
      ixS 1 v3 x1 fun p7 =>
      ld1 h p7 fun v4 =>
      tInt .i64 v4 fun v5 =>
      ixS 1 v1 v5 fun p8 =>
      ld1 h p8 fun v6 =>
      ixS 1 v6 y1 fun p9 =>
      ld1 h p9 fun v7 =>
      tBool v7 fun v8 =>
      ifT v8 (
        ifT (decide (out < 0)) (
          s54c3 Ψ (s54l1_G (s54l1 Ψ n)) h_1 x1 y1 out z true h) (
          nilCheckA h_1 fun p10 =>
          addOff p10 0 fun p11 =>
          ld1 h p11 fun v9 =>
          ixS 1 v9 out fun p12 =>
          ld1 h p12 fun v10 =>
          ixS 1 v10 z fun p13 =>
          ld1 h p13 fun v11 =>
          tBool v11 fun v12 =>
          s54c3 Ψ (s54l1_G (s54l1 Ψ n)) h_1 x1 y1 out z v12 h)) (
        s54c3 Ψ (s54l1_G (s54l1 Ψ n)) h_1 x1 y1 out z false h)) (
      retG (.int .i64 out) h Ψ)

def s54 (Ψ : AVal → Heap → Prop) (h_ : AVal) (x : Int) (y : Int) (h : Heap) : Prop :=
  s54l1_E (s54l1 Ψ) h_ x y (-1) 0 h

def s54_A (Ψ : AVal → Heap → Prop) : Ann :=
  .seq (rA 1)
  (.seq (rA 1)
  (.seq (.seq (rA 1)
  (.block (.loop [(0, .any), (1, .int .i64), (2, .int .i64), (7, .int .i64), (8, .int .i64)] (fun n l h => s54l1_R (s54l1 Ψ n) l h) (fun L1 =>
  .seq (.seq (rA 7)
  (.cond (.leaf)
  (.leaf)))
  (.cut [(0, .any), (1, .int .i64), (2, .int .i64), (7, .int .i64), (8, .int .i64)] (fun l h => J.cons l fun x0 l => J.cons l fun v l => J.int .i64 v fun x1 => J.cons l fun v l => J.int .i64 v fun x2 => J.cons l fun v l => J.int .i64 v fun x3 => J.cons l fun v l => J.int .i64 v fun x4 => J.nil l (s54c2 Ψ (fun y0 y1 y2 y3 y4 h => L1 [y0, (.int .i64 y1), (.int .i64 y2), (.int .i64 y3), (.int .i64 y4)] h) x0 x1 x2 x3 x4 h)) (.block (.cut [(0, .any), (1, .int .i64), (2, .int .i64), (7, .int .i64), (8, .int .i64), (52, .bool)] (fun l h => J.cons l fun x0 l => J.cons l fun v l => J.int .i64 v fun x1 => J.cons l fun v l => J.int .i64 v fun x2 => J.cons l fun v l => J.int .i64 v fun x3 => J.cons l fun v l => J.int .i64 v fun x4 => J.cons l fun v l => J.bool v fun x5 => J.nil l (s54c3 Ψ (fun y0 y1 y2 y3 y4 h => L1 [y0, (.int .i64 y1), (.int .i64 y2), (.int .i64 y3), (.int .i64 y4)] h) x0 x1 x2 x3 x4 x5 h)) (.draw [(0, false), (1, false), (2, false), (3, false), (4, false), (5, false), (6, false), (7, false), (8, false), (9, false), (10, false), (11, false), (12, false), (13, false), (14, false), (15, false), (16, false), (17, false), (18, false), (19, false), (20, false), (21, false), (22, false), (23, false), (24, false), (25, false), (26, false), (27, false), (28, false), (29, false), (30, false), (31, false), (32, false), (33, false), (34, false)] [0, 1, 3, 7, 0, 16, 48, 112, 0, 496, 1008, 0, 4080, 8176, 16383, 32767, 0, 131071, 262143, 524287, 1048575, 2097151, 4194303, 8388607, 16777215, 33554431, 67108863, 8388607, 268435455, 536870911, 8388607, 2147483647, 4294967295, 8589934591, 17179869183])
  (.cond (rA 2)
  (.leaf))))
  (rA 3))))))
  (.seq (rA 2)
  (.leaf))))

theorem s54_ok {Ψ : AVal → Heap → Prop} {h_ : AVal} {x : Int} {y : Int} {h : Heap} (H : s54 Ψ h_ x y h) : ACalls prog 54 [h_, (.int .i64 x), (.int .i64 y)] h Ψ :=
  calls_of_evF func54 (by kernel_rfl) (by kernel_rfl) (by kernel_rfl)
    (Eq.mpr (by as_aux_lemma => kernel_rfl : oblF prog f54 (s54_A Ψ) Ψ = (True ∧ True ∧ (True ∧ (∀ (h : Heap) (x0 : AVal) (x1 x2 x3 x4 : Int), ON (s54l1 Ψ 0 x0 x1 x2 x3 x4 h)) ∧ ∀ n1 : Nat, (∀ (h : Heap) (x0 : AVal) (x1 x2 x3 x4 : Int), OI (s54l1 Ψ (n1 + 1) x0 x1 x2 x3 x4 h)) ∧ ((True ∧ True ∧ True) ∧ ((True) ∧ (∀ (h : Heap) (x0 : AVal) (x1 x2 x3 x4 : Int) (x5 : Bool), OI (s54c3 Ψ (s54l1_G (s54l1 Ψ n1)) x0 x1 x2 x3 x4 x5 h)) ∧ (True ∧ True)) ∧ (∀ (h : Heap) (x0 : AVal) (x1 x2 x3 x4 : Int), OI (s54c2 Ψ (s54l1_G (s54l1 Ψ n1)) x0 x1 x2 x3 x4 h)) ∧ (True))) ∧ True ∧ True)) ⟨trivial, ⟨trivial, ⟨⟨trivial, ⟨fun _ _ _ _ _ _ H => H, fun _ => ⟨fun _ _ _ _ _ _ H => H, ⟨⟨trivial, ⟨trivial, trivial⟩⟩, ⟨⟨trivial, fun _ _ _ _ _ _ _ H => H, ⟨trivial, trivial⟩⟩, fun _ _ _ _ _ _ H => H, trivial⟩⟩⟩⟩⟩, ⟨trivial, trivial⟩⟩⟩⟩)
    (Eq.mpr (by as_aux_lemma => kernel_rfl : evF prog f54 (s54_A Ψ) Ψ [h_, (.int .i64 x), (.int .i64 y)] h = s54 Ψ h_ x y h) H)

/- 60 dictum/worlds.Above -/
def s60 (Ψ : AVal → Heap → Prop) (m_Up : AVal) (m_Val : AVal) (w : Int) (h : Heap) : Prop :=
  callG prog 79 [(.agg [m_Up, m_Val]), (.lsl 1 [(.int .i64 w)])] h fun v h_ =>
  tTup v fun l_ =>
  tCons l_ fun v1 l_1 =>
  tCons l_1 fun v2 l_2 =>
  tInt .i64 v2 fun v3 =>
  tNil l_2 (
    Sym.newRow 1 [.nilfunc] h_ fun r h_1 =>
    chk (sc v1) (
      st true h_1 (.ptr r 0 0) [v1] fun h_2 =>
      ifT (v3 != 0) (
        retG (.tuple [.nilsl, (.int .i64 v3)]) h_2 Ψ) (
        callG prog 80 [(.agg [m_Up, m_Val]), (.func (.func 101) [] [(.ptr r 0 0), (.lptr [(.int .i64 w)])])] h_2 fun v4 h_3 =>
        retG (.tuple [v4, (.int .i64 0)]) h_3 Ψ)))

def s60_A (Ψ : AVal → Heap → Prop) : Ann :=
  .seq (.reg [⟨none, [(0, true), (1, true), (2, false), (3, false)]⟩])
  (.seq (.reg [⟨none, [(0, false), (1, false), (2, true), (3, false), (4, false), (5, false), (6, false), (7, false), (8, false), (9, false)]⟩])
  (.seq (.seq (rA 2)
  (.cond (.seq (rA 3)
  (.leaf))
  (.leaf)))
  (.seq (rA 5)
  (.leaf))))

theorem s60_ok {Ψ : AVal → Heap → Prop} {m_Up : AVal} {m_Val : AVal} {w : Int} {h : Heap} (H : s60 Ψ m_Up m_Val w h) : ACalls prog 60 [(.agg [m_Up, m_Val]), (.int .i64 w)] h Ψ :=
  calls_of_evF func60 (by kernel_rfl) (by kernel_rfl) (by kernel_rfl)
    (Eq.mpr (by as_aux_lemma => kernel_rfl : oblF prog f60 (s60_A Ψ) Ψ = (True ∧ True ∧ (True ∧ (True ∧ True) ∧ True) ∧ True ∧ True)) ⟨trivial, ⟨trivial, ⟨⟨trivial, ⟨⟨trivial, trivial⟩, trivial⟩⟩, ⟨trivial, trivial⟩⟩⟩⟩)
    (Eq.mpr (by as_aux_lemma => kernel_rfl : evF prog f60 (s60_A Ψ) Ψ [(.agg [m_Up, m_Val]), (.int .i64 w)] h = s60 Ψ m_Up m_Val w h) H)

/- 69 dictum/heyting.look$1 -/
def s69 (Ψ : AVal → Heap → Prop) (x : Int) (y : Int) (c0 : AVal) (h : Heap) : Prop :=
  addOff c0 0 fun p =>
  ld1 h p fun v =>
  ixS 1 v x fun p1 =>
  ld1 h p1 fun v1 =>
  ixS 1 v1 y fun p2 =>
  ld1 h p2 fun v2 =>
  tBool v2 fun v3 =>
  retG (.bool v3) h Ψ

def s69_A (Ψ : AVal → Heap → Prop) : Ann :=
  .seq (rA 1)
  (.seq (rA 9)
  (.leaf))

theorem s69_ok {Ψ : AVal → Heap → Prop} {x : Int} {y : Int} {c0 : AVal} {h : Heap} (H : s69 Ψ x y c0 h) : ACalls prog 69 [(.int .i64 x), (.int .i64 y), c0] h Ψ :=
  calls_of_evF func69 (by kernel_rfl) (by kernel_rfl) (by kernel_rfl)
    (Eq.mpr (by as_aux_lemma => kernel_rfl : oblF prog f69 (s69_A Ψ) Ψ = (True ∧ True ∧ True)) ⟨trivial, ⟨trivial, trivial⟩⟩)
    (Eq.mpr (by as_aux_lemma => kernel_rfl : evF prog f69 (s69_A Ψ) Ψ [(.int .i64 x), (.int .i64 y), c0] h = s69 Ψ x y c0 h) H)

/- 71 dictum/heyting.look$2 -/
def s71 (Ψ : AVal → Heap → Prop) (row : AVal) (c0 : AVal) (h : Heap) : Prop :=
  lenN row fun n =>
  ld1 h c0 fun v =>
  tInt .i64 v fun v1 =>
  retG (.bool (n != v1)) h Ψ

def s71_A (Ψ : AVal → Heap → Prop) : Ann :=
  .seq (rA 1)
  (.seq (rA 5)
  (.leaf))

theorem s71_ok {Ψ : AVal → Heap → Prop} {row : AVal} {c0 : AVal} {h : Heap} (H : s71 Ψ row c0 h) : ACalls prog 71 [row, c0] h Ψ :=
  calls_of_evF func71 (by kernel_rfl) (by kernel_rfl) (by kernel_rfl)
    (Eq.mpr (by as_aux_lemma => kernel_rfl : oblF prog f71 (s71_A Ψ) Ψ = (True ∧ True ∧ True)) ⟨trivial, ⟨trivial, trivial⟩⟩)
    (Eq.mpr (by as_aux_lemma => kernel_rfl : evF prog f71 (s71_A Ψ) Ψ [row, c0] h = s71 Ψ row c0 h) H)

/- 73 (dictum/heyting.lattice).tables -/
abbrev s73l1_T := AVal → AVal → AVal → Int → Int → Heap → Prop
def s73l1_R (F : s73l1_T) (l : List AVal) (h : Heap) : Prop := J.cons l fun x0 l => J.cons l fun x1 l => J.cons l fun x2 l => J.cons l fun v l => J.int .i64 v fun x3 => J.cons l fun v l => J.int .i64 v fun x4 => J.nil l (F x0 x1 x2 x3 x4 h)
def s73l1_G (F : s73l1_T) (x0 x1 x2 : AVal) (x3 x4 : Int) (h : Heap) : Prop := gJ [.any, .any, .any, .int .i64, .int .i64] [x0, x1, x2, (.int .i64 x3), (.int .i64 x4)] h (s73l1_R F)
def s73l1_E (F : Nat → s73l1_T) (x0 x1 x2 : AVal) (x3 x4 : Int) (h : Heap) : Prop := gJ [.any, .any, .any, .int .i64, .int .i64] [x0, x1, x2, (.int .i64 x3), (.int .i64 x4)] h (fun l h => ∃ n, s73l1_R (F n) l h)
theorem s73l1_go {F : s73l1_T} {x0 x1 x2 : AVal} {x3 x4 : Int} {h : Heap} (H : F x0 x1 x2 x3 x4 h) : s73l1_G F x0 x1 x2 x3 x4 h := gJ_plain rfl H
theorem s73l1_in {F : Nat → s73l1_T} {x0 x1 x2 : AVal} {x3 x4 : Int} {h : Heap} (n : Nat) (H : F n x0 x1 x2 x3 x4 h) : s73l1_E F x0 x1 x2 x3 x4 h := gJ_plain rfl ⟨n, H⟩

abbrev s73l2_T := AVal → AVal → AVal → Int → Int → Int → Int → Int → Heap → Prop
def s73l2_R (F : s73l2_T) (l : List AVal) (h : Heap) : Prop := J.cons l fun x0 l => J.cons l fun x1 l => J.cons l fun x2 l => J.cons l fun v l => J.int .i64 v fun x3 => J.cons l fun v l => J.int .i64 v fun x4 => J.cons l fun v l => J.int .i64 v fun x5 => J.cons l fun v l => J.int .i64 v fun x6 => J.cons l fun v l => J.int .i64 v fun x7 => J.nil l (F x0 x1 x2 x3 x4 x5 x6 x7 h)
def s73l2_G (F : s73l2_T) (x0 x1 x2 : AVal) (x3 x4 x5 x6 x7 : Int) (h : Heap) : Prop := gJ [.any, .any, .any, .int .i64, .int .i64, .int .i64, .int .i64, .int .i64] [x0, x1, x2, (.int .i64 x3), (.int .i64 x4), (.int .i64 x5), (.int .i64 x6), (.int .i64 x7)] h (s73l2_R F)
def s73l2_E (F : Nat → s73l2_T) (x0 x1 x2 : AVal) (x3 x4 x5 x6 x7 : Int) (h : Heap) : Prop := gJ [.any, .any, .any, .int .i64, .int .i64, .int .i64, .int .i64, .int .i64] [x0, x1, x2, (.int .i64 x3), (.int .i64 x4), (.int .i64 x5), (.int .i64 x6), (.int .i64 x7)] h (fun l h => ∃ n, s73l2_R (F n) l h)
theorem s73l2_go {F : s73l2_T} {x0 x1 x2 : AVal} {x3 x4 x5 x6 x7 : Int} {h : Heap} (H : F x0 x1 x2 x3 x4 x5 x6 x7 h) : s73l2_G F x0 x1 x2 x3 x4 x5 x6 x7 h := gJ_plain rfl H
theorem s73l2_in {F : Nat → s73l2_T} {x0 x1 x2 : AVal} {x3 x4 x5 x6 x7 : Int} {h : Heap} (n : Nat) (H : F n x0 x1 x2 x3 x4 x5 x6 x7 h) : s73l2_E F x0 x1 x2 x3 x4 x5 x6 x7 h := gJ_plain rfl ⟨n, H⟩

def s73c3 (Ψ : AVal → Heap → Prop) (L1 : s73l1_T) (L2 : s73l2_T) (l_14 meets2 joins2 : AVal) (x1 m j t20_2 t21_2 t25_1 t26_1 : Int) (t48 : Bool) (h : Heap) : Prop :=
  ifT t48 (
    retG (.tuple [.nilsl, .nilsl, (.bool false)]) h Ψ) (
    ixS 1 meets2 x1 fun p1 =>
    ld1 h p1 fun v20 =>
    appC 1 8 h v20 (.lsl 1 [(.int .i64 m)]) fun v21 h_4 =>
    ixS 1 meets2 x1 fun p2 =>
    chk (sc v21) (
      st true h_4 p2 [v21] fun h_5 =>
      ixS 1 joins2 x1 fun p3 =>
      ld1 h_5 p3 fun v22 =>
      appC 1 8 h_5 v22 (.lsl 1 [(.int .i64 j)]) fun v23 h_6 =>
      ixS 1 joins2 x1 fun p4 =>
      chk (sc v23) (
        st true h_6 p4 [v23] fun h_7 =>
        rg (t26_1 + 1) (
          L2 l_14 meets2 joins2 x1 t20_2 t21_2 t25_1 (t26_1 + 1) h_7))))

def s73l2 (Ψ : AVal → Heap → Prop) (L1 : s73l1_T) : Nat → s73l2_T
  | 0, _, _, _, _, _, _, _, _, _ => False
  | n1 + 1, l_1, meets1, joins1, x, t20_1, t21_1, t25, t26, h =>
    ifT (decide (t26 < t25)) (
      ldN 2 h l_1 fun l_2 =>
      tCons l_2 fun v4 l_3 =>
      tInt .i64 v4 fun v5 =>
      tCons l_3 fun v6 l_4 =>
      tNil l_4 (
        callG prog 50 [(.agg [(.int .i64 v5), v6]), (.int .i64 x), (.int .i64 t26)] h fun v7 h_2 =>
        tTup v7 fun l_5 =>
        tCons l_5 fun v8 l_6 =>
        tInt .i64 v8 fun v9 =>
        tCons l_6 fun v10 l_7 =>
        tBool v10 fun v11 =>
        tNil l_7 (
          ldN 2 h_2 l_1 fun l_8 =>
          tCons l_8 fun v12 l_9 =>
          tInt .i64 v12 fun v13 =>
          tCons l_9 fun v14 l_10 =>
          tNil l_10 (
            callG prog 37 [(.agg [(.int .i64 v13), v14]), (.int .i64 x), (.int .i64 t26)] h_2 fun v15 h_3 =>
            tTup v15 fun l_11 =>
            tCons l_11 fun v16 l_12 =>
            tInt .i64 v16 fun v17 =>
            tCons l_12 fun v18 l_13 =>
            tBool v18 fun v19 =>
            tNil l_13 (
              ifT (!v11) (
                s73c3 Ψ L1 (s73l2_G (s73l2 Ψ L1 n1)) l_1 meets1 joins1 x v9 v17 t20_1 t21_1 t25 t26 true h_3) (
                s73c3 Ψ L1 (s73l2_G (s73l2 Ψ L1 n1)) l_1 meets1 joins1 x v9 v17 t20_1 t21_1 t25 t26 (!v19) h_3)))))) (
      rg (t21_1 + 1) (
        L1 l_1 meets1 joins1 t20_1 (t21_1 + 1) h))

def s73l1 (Ψ : AVal → Heap → Prop) : Nat → s73l1_T
  | 0, _, _, _, _, _, _ => False
  | n + 1, l_, meets, joins, t20, t21, h =>
    ifT (decide (t21 < t20)) (
      addOff l_ 0 fun p =>
      ld1 h p fun v2 =>
      tInt .i64 v2 fun v3 =>
      s73l2_E (s73l2 Ψ (s73l1_G (s73l1 Ψ n))) l_ meets joins t21 t20 t21 v3 0 h) (
      retG (.tuple [meets, joins, (.bool true)]) h Ψ)

def s73 (Ψ : AVal → Heap → Prop) (l_n : Int) (l_leq : AVal) (h : Heap) : Prop :=
  (mkS false 1 24 .nilsl h l_n l_n fun v h_ =>
  ((AVal.int .i64 l_n) = (.int .i64 l_n)) ∧
  mkS false 1 24 .nilsl h_ l_n l_n fun v1 h_1 =>
  s73l1_E (s73l1 Ψ) (.lptr [(.int .i64 l_n), l_leq]) v v1 l_n 0 h_1) ∧
  mkS false 1 24 .nilsl h l_n l_n fun v24 h_8 =>
  ((AVal.int .i64 l_n) = (.int .i64 l_n)) ∧
  mkS false 1 24 .nilsl h_8 l_n l_n fun v25 h_9 =>
  s73l1_E (s73l1 Ψ) (.lptr [(.int .i64 l_n), l_leq]) v25 v24 l_n 0 h_9

def s73_A (Ψ : AVal → Heap → Prop) : Ann :=
  .seq (.reg [⟨none, [(0, true), (1, false), (2, false), (3, false)]⟩])
  (.seq (.drawT (.split 2 5 (.leaf [(0, false), (1, false), (3, false), (4, false), (2, false), (6, false), (5, false), (7, false)]) (.leaf [(0, false), (1, false), (3, false), (4, false), (5, false), (2, false), (6, false), (7, false)])) [0, 1, 3, 0, 8, 24, 7, 127])
  (.seq (.seq (rA 3)
  (.block (.loop [(1, .any), (5, .any), (6, .any), (20, .int .i64), (21, .int .i64)] (fun n l h => s73l1_R (s73l1 Ψ n) l h) (fun L1 =>
  .seq (rA 1)
  (.seq (.cond (.leaf)
  (.leaf))
  (.seq (.block (.seq (rA 2)
  (.seq (rA 3)
  (.block (.loop [(1, .any), (5, .any), (6, .any), (7, .int .i64), (20, .int .i64), (21, .int .i64), (25, .int .i64), (26, .int .i64)] (fun n l h => s73l2_R (s73l2 Ψ (fun y0 y1 y2 y3 y4 h => L1 [y0, y1, y2, (.int .i64 y3), (.int .i64 y4)] h) n) l h) (fun L2 =>
  .seq (rA 1)
  (.seq (.cond (.leaf)
  (.leaf))
  (.seq (.block (.seq (rA 2)
  (.seq (rA 9)
  (.seq (rA 9)
  (.seq (.cut [(1, .any), (5, .any), (6, .any), (7, .int .i64), (9, .int .i64), (11, .int .i64), (20, .int .i64), (21, .int .i64), (25, .int .i64), (26, .int .i64), (48, .bool)] (fun l h => J.cons l fun x0 l => J.cons l fun x1 l => J.cons l fun x2 l => J.cons l fun v l => J.int .i64 v fun x3 => J.cons l fun v l => J.int .i64 v fun x4 => J.cons l fun v l => J.int .i64 v fun x5 => J.cons l fun v l => J.int .i64 v fun x6 => J.cons l fun v l => J.int .i64 v fun x7 => J.cons l fun v l => J.int .i64 v fun x8 => J.cons l fun v l => J.int .i64 v fun x9 => J.cons l fun v l => J.bool v fun x10 => J.nil l (s73c3 Ψ (fun y0 y1 y2 y3 y4 h => L1 [y0, y1, y2, (.int .i64 y3), (.int .i64 y4)] h) (fun y0 y1 y2 y3 y4 y5 y6 y7 h => L2 [y0, y1, y2, (.int .i64 y3), (.int .i64 y4), (.int .i64 y5), (.int .i64 y6), (.int .i64 y7)] h) x0 x1 x2 x3 x4 x5 x6 x7 x8 x9 x10 h)) (.reg [⟨none, [(0, false), (1, false), (2, false)]⟩, ⟨some (45, false), [(3, false), (4, false)]⟩, ⟨none, [(5, false)]⟩])
  (.cond (.seq (rA 3)
  (.leaf))
  (.leaf)))
  (.seq (.reg [⟨none, [(0, false), (1, false), (2, false), (3, false), (4, false), (5, false), (6, false), (7, true), (8, false), (9, false), (10, false)]⟩])
  (.reg [⟨none, [(0, false), (1, false), (2, false), (3, false), (4, false), (5, false), (6, false), (7, true), (8, false), (9, false), (10, false)]⟩])))))))
  (rA 2)))))))))
  (rA 2)))))))
  (.seq (rA 5)
  (.leaf))))

theorem s73_ok {Ψ : AVal → Heap → Prop} {l_n : Int} {l_leq : AVal} {h : Heap} (H : s73 Ψ l_n l_leq h) : ACalls prog 73 [(.agg [(.int .i64 l_n), l_leq])] h Ψ :=
  calls_of_evF func73 (by kernel_rfl) (by kernel_rfl) (by kernel_rfl)
    (Eq.mpr (by as_aux_lemma => kernel_rfl : oblF prog f73 (s73_A Ψ) Ψ = (True ∧ True ∧ (True ∧ (∀ (h : Heap) (x0 x1 x2 : AVal) (x3 x4 : Int), ON (s73l1 Ψ 0 x0 x1 x2 x3 x4 h)) ∧ ∀ n1 : Nat, (∀ (h : Heap) (x0 x1 x2 : AVal) (x3 x4 : Int), OI (s73l1 Ψ (n1 + 1) x0 x1 x2 x3 x4 h)) ∧ (True ∧ (True ∧ True) ∧ (True ∧ True ∧ (∀ (h : Heap) (x0 x1 x2 : AVal) (x3 x4 x5 x6 x7 : Int), ON (s73l2 Ψ (s73l1_G (s73l1 Ψ n1)) 0 x0 x1 x2 x3 x4 x5 x6 x7 h)) ∧ ∀ n2 : Nat, (∀ (h : Heap) (x0 x1 x2 : AVal) (x3 x4 x5 x6 x7 : Int), OI (s73l2 Ψ (s73l1_G (s73l1 Ψ n1)) (n2 + 1) x0 x1 x2 x3 x4 x5 x6 x7 h)) ∧ (True ∧ (True ∧ True) ∧ (True ∧ True ∧ True ∧ ((True) ∧ (∀ (h : Heap) (x0 x1 x2 : AVal) (x3 x4 x5 x6 x7 x8 x9 : Int) (x10 : Bool), OI (s73c3 Ψ (s73l1_G (s73l1 Ψ n1)) (s73l2_G (s73l2 Ψ (s73l1_G (s73l1 Ψ n1)) n2)) x0 x1 x2 x3 x4 x5 x6 x7 x8 x9 x10 h)) ∧ ((True ∧ True) ∧ True)) ∧ True ∧ True) ∧ True)) ∧ True)) ∧ True ∧ True)) ⟨trivial, ⟨trivial, ⟨⟨trivial, ⟨fun _ _ _ _ _ _ H => H, fun _ => ⟨fun _ _ _ _ _ _ H => H, ⟨trivial, ⟨⟨trivial, trivial⟩, ⟨⟨trivial, ⟨trivial, ⟨fun _ _ _ _ _ _ _ _ _ H => H, fun _ => ⟨fun _ _ _ _ _ _ _ _ _ H => H, ⟨trivial, ⟨⟨trivial, trivial⟩, ⟨⟨trivial, ⟨trivial, ⟨trivial, ⟨⟨trivial, fun _ _ _ _ _ _ _ _ _ _ _ _ H => H, ⟨⟨trivial, trivial⟩, trivial⟩⟩, ⟨trivial, trivial⟩⟩⟩⟩⟩, trivial⟩⟩⟩⟩⟩⟩⟩, trivial⟩⟩⟩⟩⟩⟩, ⟨trivial, trivial⟩⟩⟩⟩)
    (Eq.mpr (by as_aux_lemma => kernel_rfl : evF prog f73 (s73_A Ψ) Ψ [(.agg [(.int .i64 l_n), l_leq])] h = s73 Ψ l_n l_leq h) H)

/- 75 dictum/heyting.best -/
abbrev s75l1_T := Int → AVal → AVal → Int → Int → Heap → Prop
def s75l1_R (F : s75l1_T) (l : List AVal) (h : Heap) : Prop := J.cons l fun v l => J.int .i64 v fun x0 => J.cons l fun x1 l => J.cons l fun x2 l => J.cons l fun v l => J.int .i64 v fun x3 => J.cons l fun v l => J.int .i64 v fun x4 => J.nil l (F x0 x1 x2 x3 x4 h)
def s75l1_G (F : s75l1_T) (x0 : Int) (x1 x2 : AVal) (x3 x4 : Int) (h : Heap) : Prop := gJ [.int .i64, .any, .any, .int .i64, .int .i64] [(.int .i64 x0), x1, x2, (.int .i64 x3), (.int .i64 x4)] h (s75l1_R F)
def s75l1_E (F : Nat → s75l1_T) (x0 : Int) (x1 x2 : AVal) (x3 x4 : Int) (h : Heap) : Prop := gJ [.int .i64, .any, .any, .int .i64, .int .i64] [(.int .i64 x0), x1, x2, (.int .i64 x3), (.int .i64 x4)] h (fun l h => ∃ n, s75l1_R (F n) l h)
theorem s75l1_go {F : s75l1_T} {x0 : Int} {x1 x2 : AVal} {x3 x4 : Int} {h : Heap} (H : F x0 x1 x2 x3 x4 h) : s75l1_G F x0 x1 x2 x3 x4 h := gJ_plain rfl H
theorem s75l1_in {F : Nat → s75l1_T} {x0 : Int} {x1 x2 : AVal} {x3 x4 : Int} {h : Heap} (n : Nat) (H : F n x0 x1 x2 x3 x4 h) : s75l1_E F x0 x1 x2 x3 x4 h := gJ_plain rfl ⟨n, H⟩

def s75c2 (Ψ : AVal → Heap → Prop) (L1 : s75l1_T) (n3 : Int) (is2 over2 : AVal) (t11_1 t12_1 : Int) (h : Heap) : Prop :=
  rg (t12_1 + 1) (
    L1 n3 is2 over2 t11_1 (t12_1 + 1) h)

abbrev s75l3_T := Int → AVal → AVal → Int → Bool → Int → Int → Int → Int → Heap → Prop
def s75l3_R (F : s75l3_T) (l : List AVal) (h : Heap) : Prop := J.cons l fun v l => J.int .i64 v fun x0 => J.cons l fun x1 l => J.cons l fun x2 l => J.cons l fun v l => J.int .i64 v fun x3 => J.cons l fun v l => J.bool v fun x4 => J.cons l fun v l => J.int .i64 v fun x5 => J.cons l fun v l => J.int .i64 v fun x6 => J.cons l fun v l => J.int .i64 v fun x7 => J.cons l fun v l => J.int .i64 v fun x8 => J.nil l (F x0 x1 x2 x3 x4 x5 x6 x7 x8 h)
def s75l3_G (F : s75l3_T) (x0 : Int) (x1 x2 : AVal) (x3 : Int) (x4 : Bool) (x5 x6 x7 x8 : Int) (h : Heap) : Prop := gJ [.int .i64, .any, .any, .int .i64, .bool, .int .i64, .int .i64, .int .i64, .int .i64] [(.int .i64 x0), x1, x2, (.int .i64 x3), (.bool x4), (.int .i64 x5), (.int .i64 x6), (.int .i64 x7), (.int .i64 x8)] h (s75l3_R F)
def s75l3_E (F : Nat → s75l3_T) (x0 : Int) (x1 x2 : AVal) (x3 : Int) (x4 : Bool) (x5 x6 x7 x8 : Int) (h : Heap) : Prop := gJ [.int .i64, .any, .any, .int .i64, .bool, .int .i64, .int .i64, .int .i64, .int .i64] [(.int .i64 x0), x1, x2, (.int .i64 x3), (.bool x4), (.int .i64 x5), (.int .i64 x6), (.int .i64 x7), (.int .i64 x8)] h (fun l h => ∃ n, s75l3_R (F n) l h)
theorem s75l3_go {F : s75l3_T} {x0 : Int} {x1 x2 : AVal} {x3 : Int} {x4 : Bool} {x5 x6 x7 x8 : Int} {h : Heap} (H : F x0 x1 x2 x3 x4 x5 x6 x7 x8 h) : s75l3_G F x0 x1 x2 x3 x4 x5 x6 x7 x8 h := gJ_plain rfl H
theorem s75l3_in {F : Nat → s75l3_T} {x0 : Int} {x1 x2 : AVal} {x3 : Int} {x4 : Bool} {x5 x6 x7 x8 : Int} {h : Heap} (n : Nat) (H : F n x0 x1 x2 x3 x4 x5 x6 x7 x8 h) : s75l3_E F x0 x1 x2 x3 x4 x5 x6 x7 x8 h := gJ_plain rfl ⟨n, H⟩

def s75c4 (Ψ : AVal → Heap → Prop) (L1 : s75l1_T) (L3 : s75l3_T) (n6 : Int) (is4 over4 : AVal) (z1 : Int) (top1 : Bool) (t11_3 t12_3 t19_1 t20_1 : Int) (h : Heap) : Prop :=
  rg (t20_1 + 1) (
    L3 n6 is4 over4 z1 top1 t11_3 t12_3 t19_1 (t20_1 + 1) h)

def s75l3 (Ψ : AVal → Heap → Prop) (L1 : s75l1_T) : Nat → s75l3_T
  | 0, _, _, _, _, _, _, _, _, _, _ => False
  | n5 + 1, n4, is3, over3, z, top, t11_2, t12_2, t19, t20, h =>
    ifT (decide (t20 < t19)) (
      ifT top (
        callV prog is3 [(.int .i64 t20)] h fun v2 h_1 =>
        tBool v2 fun v3 =>
        ifT (!v3) (
          s75c4 Ψ L1 (s75l3_G (s75l3 Ψ L1 n5)) n4 is3 over3 z true t11_2 t12_2 t19 t20 h_1) (
          callV prog over3 [(.int .i64 z), (.int .i64 t20)] h_1 fun v4 h_2 =>
          tBool v4 fun v5 =>
          s75c4 Ψ L1 (s75l3_G (s75l3 Ψ L1 n5)) n4 is3 over3 z v5 t11_2 t12_2 t19 t20 h_2)) (
        s75c4 Ψ L1 (s75l3_G (s75l3 Ψ L1 n5)) n4 is3 over3 z false t11_2 t12_2 t19 t20 h)) (
      ifT top (
        retG (.tuple [(.int .i64 z), (.bool true)]) h Ψ) (
        s75c2 Ψ L1 n4 is3 over3 t11_2 t12_2 h))

def s75l1 (Ψ : AVal → Heap → Prop) : Nat → s75l1_T
  | 0, _, _, _, _, _, _ => False
  | n2 + 1, n1, is1, over1, t11, t12, h =>
    ifT (decide (t12 < t11)) (
      callV prog is1 [(.int .i64 t12)] h fun v h_ =>
      tBool v fun v1 =>
      ifT (!v1) (
        s75c2 Ψ (s75l1_G (s75l1 Ψ n2)) n1 is1 over1 t11 t12 h_) (
        s75l3_E (s75l3 Ψ (s75l1_G (s75l1 Ψ n2))) n1 is1 over1 t12 true t11 t12 n1 0 h_)) (
      retG (.tuple [(.int .i64 0), (.bool false)]) h Ψ)

def s75 (Ψ : AVal → Heap → Prop) (n : Int) (is : AVal) (over : AVal) (h : Heap) : Prop :=
  s75l1_E (s75l1 Ψ) n is over n 0 h

def s75_A (Ψ : AVal → Heap → Prop) : Ann :=
  .seq (rA 2)
  (.seq (.seq (rA 2)
  (.block (.loop [(0, .int .i64), (1, .any), (2, .any), (11, .int .i64), (12, .int .i64)] (fun n l h => s75l1_R (s75l1 Ψ n) l h) (fun L1 =>
  .seq (rA 1)
  (.seq (.cond (.leaf)
  (.leaf))
  (.cut [(0, .int .i64), (1, .any), (2, .any), (11, .int .i64), (12, .int .i64)] (fun l h => J.cons l fun v l => J.int .i64 v fun x0 => J.cons l fun x1 l => J.cons l fun x2 l => J.cons l fun v l => J.int .i64 v fun x3 => J.cons l fun v l => J.int .i64 v fun x4 => J.nil l (s75c2 Ψ (fun y0 y1 y2 y3 y4 h => L1 [(.int .i64 y0), y1, y2, (.int .i64 y3), (.int .i64 y4)] h) x0 x1 x2 x3 x4 h)) (.block (.seq (rA 2)
  (.seq (.seq (rA 4)
  (.cond (.leaf)
  (.leaf)))
  (.seq (rA 1)
  (.seq (.seq (rA 2)
  (.block (.loop [(0, .int .i64), (1, .any), (2, .any), (8, .int .i64), (9, .bool), (11, .int .i64), (12, .int .i64), (19, .int .i64), (20, .int .i64)] (fun n l h => s75l3_R (s75l3 Ψ (fun y0 y1 y2 y3 y4 h => L1 [(.int .i64 y0), y1, y2, (.int .i64 y3), (.int .i64 y4)] h) n) l h) (fun L3 =>
  .seq (rA 1)
  (.seq (.cond (.leaf)
  (.leaf))
  (.cut [(0, .int .i64), (1, .any), (2, .any), (8, .int .i64), (9, .bool), (11, .int .i64), (12, .int .i64), (19, .int .i64), (20, .int .i64)] (fun l h => J.cons l fun v l => J.int .i64 v fun x0 => J.cons l fun x1 l => J.cons l fun x2 l => J.cons l fun v l => J.int .i64 v fun x3 => J.cons l fun v l => J.bool v fun x4 => J.cons l fun v l => J.int .i64 v fun x5 => J.cons l fun v l => J.int .i64 v fun x6 => J.cons l fun v l => J.int .i64 v fun x7 => J.cons l fun v l => J.int .i64 v fun x8 => J.nil l (s75c4 Ψ (fun y0 y1 y2 y3 y4 h => L1 [(.int .i64 y0), y1, y2, (.int .i64 y3), (.int .i64 y4)] h) (fun y0 y1 y2 y3 y4 y5 y6 y7 y8 h => L3 [(.int .i64 y0), y1, y2, (.int .i64 y3), (.bool y4), (.int .i64 y5), (.int .i64 y6), (.int .i64 y7), (.int .i64 y8)] h) x0 x1 x2 x3 x4 x5 x6 x7 x8 h)) (.block (.seq (rA 2)
  (.reg [⟨none, [(0, false), (1, false)]⟩, ⟨some (24, true), [(2, false), (3, false), (4, false), (5, false), (6, false)]⟩, ⟨some (29, false), [(7, false), (8, false), (9, false), (10, false)]⟩, ⟨some (24, true), [(11, false)]⟩, ⟨none, [(12, false), (13, false)]⟩])))
  (rA 2)))))))
  (.seq (rA 1)
  (.cond (.seq (rA 3)
  (.leaf))
  (.leaf))))))))
  (rA 2)))))))
  (.seq (rA 2)
  (.leaf)))

theorem s75_ok {Ψ : AVal → Heap → Prop} {n : Int} {is : AVal} {over : AVal} {h : Heap} (H : s75 Ψ n is over h) : ACalls prog 75 [(.int .i64 n), is, over] h Ψ :=
  calls_of_evF func75 (by kernel_rfl) (by kernel_rfl) (by kernel_rfl)
    (Eq.mpr (by as_aux_lemma => kernel_rfl : oblF prog f75 (s75_A Ψ) Ψ = (True ∧ (True ∧ (∀ (h : Heap) (x0 : Int) (x1 x2 : AVal) (x3 x4 : Int), ON (s75l1 Ψ 0 x0 x1 x2 x3 x4 h)) ∧ ∀ n1 : Nat, (∀ (h : Heap) (x0 : Int) (x1 x2 : AVal) (x3 x4 : Int), OI (s75l1 Ψ (n1 + 1) x0 x1 x2 x3 x4 h)) ∧ (True ∧ (True ∧ True) ∧ (True ∧ (True ∧ True ∧ True) ∧ True ∧ (True ∧ (∀ (h : Heap) (x0 : Int) (x1 x2 : AVal) (x3 : Int) (x4 : Bool) (x5 x6 x7 x8 : Int), ON (s75l3 Ψ (s75l1_G (s75l1 Ψ n1)) 0 x0 x1 x2 x3 x4 x5 x6 x7 x8 h)) ∧ ∀ n3 : Nat, (∀ (h : Heap) (x0 : Int) (x1 x2 : AVal) (x3 : Int) (x4 : Bool) (x5 x6 x7 x8 : Int), OI (s75l3 Ψ (s75l1_G (s75l1 Ψ n1)) (n3 + 1) x0 x1 x2 x3 x4 x5 x6 x7 x8 h)) ∧ (True ∧ (True ∧ True) ∧ (True ∧ True) ∧ (∀ (h : Heap) (x0 : Int) (x1 x2 : AVal) (x3 : Int) (x4 : Bool) (x5 x6 x7 x8 : Int), OI (s75c4 Ψ (s75l1_G (s75l1 Ψ n1)) (s75l3_G (s75l3 Ψ (s75l1_G (s75l1 Ψ n1)) n3)) x0 x1 x2 x3 x4 x5 x6 x7 x8 h)) ∧ (True))) ∧ True ∧ (True ∧ True) ∧ True) ∧ (∀ (h : Heap) (x0 : Int) (x1 x2 : AVal) (x3 x4 : Int), OI (s75c2 Ψ (s75l1_G (s75l1 Ψ n1)) x0 x1 x2 x3 x4 h)) ∧ (True))) ∧ True ∧ True)) ⟨trivial, ⟨⟨trivial, ⟨fun _ _ _ _ _ _ H => H, fun _ => ⟨fun _ _ _ _ _ _ H => H, ⟨trivial, ⟨⟨trivial, trivial⟩, ⟨⟨trivial, ⟨⟨trivial, ⟨trivial, trivial⟩⟩, ⟨trivial, ⟨⟨trivial, ⟨fun _ _ _ _ _ _ _ _ _ _ H => H, fun _ => ⟨fun _ _ _ _ _ _ _ _ _ _ H => H, ⟨trivial, ⟨⟨trivial, trivial⟩, ⟨⟨trivial, trivial⟩, fun _ _ _ _ _ _ _ _ _ _ H => H, trivial⟩⟩⟩⟩⟩⟩, ⟨trivial, ⟨⟨trivial, trivial⟩, trivial⟩⟩⟩⟩⟩⟩, fun _ _ _ _ _ _ H => H, trivial⟩⟩⟩⟩⟩⟩, ⟨trivial, trivial⟩⟩⟩)
    (Eq.mpr (by as_aux_lemma => kernel_rfl : evF prog f75 (s75_A Ψ) Ψ [(.int .i64 n), is, over] h = s75 Ψ n is over h) H)

/- 77 (dictum/heyting.lattice).up -/
def s77 (Ψ : AVal → Heap → Prop) (l_n : Int) (l_leq : AVal) (z : Int) (w : Int) (h : Heap) : Prop :=
  callV prog l_leq [(.int .i64 w), (.int .i64 z)] h fun v h_ =>
  tBool v fun v1 =>
  retG (.bool v1) h_ Ψ

def s77_A (Ψ : AVal → Heap → Prop) : Ann :=
  .seq (.reg [⟨none, [(0, true), (1, false)]⟩])
  (.seq (rA 6)
  (.leaf))

theorem s77_ok {Ψ : AVal → Heap → Prop} {l_n : Int} {l_leq : AVal} {z : Int} {w : Int} {h : Heap} (H : s77 Ψ l_n l_leq z w h) : ACalls prog 77 [(.agg [(.int .i64 l_n), l_leq]), (.int .i64 z), (.int .i64 w)] h Ψ :=
  calls_of_evF func77 (by kernel_rfl) (by kernel_rfl) (by kernel_rfl)
    (Eq.mpr (by as_aux_lemma => kernel_rfl : oblF prog f77 (s77_A Ψ) Ψ = (True ∧ True ∧ True)) ⟨trivial, ⟨trivial, trivial⟩⟩)
    (Eq.mpr (by as_aux_lemma => kernel_rfl : evF prog f77 (s77_A Ψ) Ψ [(.agg [(.int .i64 l_n), l_leq]), (.int .i64 z), (.int .i64 w)] h = s77 Ψ l_n l_leq z w h) H)

/- 79 dictum/worlds.asked -/
abbrev s79l1_T := AVal → AVal → AVal → Int → Int → Heap → Prop
def s79l1_R (F : s79l1_T) (l : List AVal) (h : Heap) : Prop := J.cons l fun x0 l => J.cons l fun x1 l => J.cons l fun x2 l => J.cons l fun v l => J.int .i64 v fun x3 => J.cons l fun v l => J.int .i64 v fun x4 => J.nil l (F x0 x1 x2 x3 x4 h)
def s79l1_G (F : s79l1_T) (x0 x1 x2 : AVal) (x3 x4 : Int) (h : Heap) : Prop := gJ [.any, .any, .any, .int .i64, .int .i64] [x0, x1, x2, (.int .i64 x3), (.int .i64 x4)] h (s79l1_R F)
def s79l1_E (F : Nat → s79l1_T) (x0 x1 x2 : AVal) (x3 x4 : Int) (h : Heap) : Prop := gJ [.any, .any, .any, .int .i64, .int .i64] [x0, x1, x2, (.int .i64 x3), (.int .i64 x4)] h (fun l h => ∃ n, s79l1_R (F n) l h)
theorem s79l1_go {F : s79l1_T} {x0 x1 x2 : AVal} {x3 x4 : Int} {h : Heap} (H : F x0 x1 x2 x3 x4 h) : s79l1_G F x0 x1 x2 x3 x4 h := gJ_plain rfl H
theorem s79l1_in {F : Nat → s79l1_T} {x0 x1 x2 : AVal} {x3 x4 : Int} {h : Heap} (n : Nat) (H : F n x0 x1 x2 x3 x4 h) : s79l1_E F x0 x1 x2 x3 x4 h := gJ_plain rfl ⟨n, H⟩

def s79c2 (Ψ : AVal → Heap → Prop) (L1 : s79l1_T) (m1 leq1 t17_1 : AVal) (t18_1 t19_1 : Int) (t31 : Bool) (h : Heap) : Prop :=
  ifT t31 (
    retG (.tuple [.nilfunc, (.int .i64 2)]) h Ψ) (
    rg (t19_1 + 1) (
      L1 m1 leq1 t17_1 t18_1 (t19_1 + 1) h))

def s79l1 (Ψ : AVal → Heap → Prop) : Nat → s79l1_T
  | 0, _, _, _, _, _, _ => False
  | n1 + 1, m, leq, t17, t18, t19, h =>
    ifT (decide (t19 < t18)) (
      ixS 1 t17 t19 fun p =>
      ld1 h p fun v4 =>
      tInt .i64 v4 fun v5 =>
      ifT (decide (v5 < 0)) (
        s79c2 Ψ (s79l1_G (s79l1 Ψ n1)) m leq t17 t18 t19 true h) (
        addOff m 0 fun p1 =>
        ld1 h p1 fun v6 =>
        lenN v6 fun n2 =>
        s79c2 Ψ (s79l1_G (s79l1 Ψ n1)) m leq t17 t18 t19 (decide (n2 ≤ v5)) h)) (
      retG (.tuple [leq, (.int .i64 0)]) h Ψ)

def s79 (Ψ : AVal → Heap → Prop) (m_Up : AVal) (m_Val : AVal) (worlds : AVal) (h : Heap) : Prop :=
  callG prog 116 [(.agg [m_Up, m_Val])] h fun v h_ =>
  tTup v fun l_ =>
  tCons l_ fun v1 l_1 =>
  tCons l_1 fun v2 l_2 =>
  tBool v2 fun v3 =>
  tNil l_2 (
    ifT (!v3) (
      retG (.tuple [.nilfunc, (.int .i64 170)]) h_ Ψ) (
      lenN worlds fun n =>
      s79l1_E (s79l1 Ψ) (.lptr [m_Up, m_Val]) v1 worlds n 0 h_))

def s79_A (Ψ : AVal → Heap → Prop) : Ann :=
  .seq (.reg [⟨none, [(0, true), (1, false), (2, false)]⟩])
  (.seq (rA 7)
  (.seq (.seq (rA 2)
  (.cond (.seq (rA 2)
  (.leaf))
  (.leaf)))
  (.seq (.seq (rA 3)
  (.block (.loop [(2, .any), (6, .any), (17, .any), (18, .int .i64), (19, .int .i64)] (fun n l h => s79l1_R (s79l1 Ψ n) l h) (fun L1 =>
  .seq (rA 1)
  (.seq (.cond (.leaf)
  (.leaf))
  (.seq (.block (.seq (rA 3)
  (.cut [(2, .any), (6, .any), (17, .any), (18, .int .i64), (19, .int .i64), (31, .bool)] (fun l h => J.cons l fun x0 l => J.cons l fun x1 l => J.cons l fun x2 l => J.cons l fun v l => J.int .i64 v fun x3 => J.cons l fun v l => J.int .i64 v fun x4 => J.cons l fun v l => J.bool v fun x5 => J.nil l (s79c2 Ψ (fun y0 y1 y2 y3 y4 h => L1 [y0, y1, y2, (.int .i64 y3), (.int .i64 y4)] h) x0 x1 x2 x3 x4 x5 h)) (.reg [⟨none, [(0, false), (1, false), (2, false)]⟩, ⟨some (25, false), [(3, false), (4, false), (5, false), (6, false), (7, false)]⟩, ⟨none, [(8, false)]⟩])
  (.cond (.seq (rA 2)
  (.leaf))
  (.leaf)))))
  (rA 2)))))))
  (.seq (rA 3)
  (.leaf)))))

theorem s79_ok {Ψ : AVal → Heap → Prop} {m_Up : AVal} {m_Val : AVal} {worlds : AVal} {h : Heap} (H : s79 Ψ m_Up m_Val worlds h) : ACalls prog 79 [(.agg [m_Up, m_Val]), worlds] h Ψ :=
  calls_of_evF func79 (by kernel_rfl) (by kernel_rfl) (by kernel_rfl)
    (Eq.mpr (by as_aux_lemma => kernel_rfl : oblF prog f79 (s79_A Ψ) Ψ = (True ∧ True ∧ (True ∧ (True ∧ True) ∧ True) ∧ (True ∧ (∀ (h : Heap) (x0 x1 x2 : AVal) (x3 x4 : Int), ON (s79l1 Ψ 0 x0 x1 x2 x3 x4 h)) ∧ ∀ n1 : Nat, (∀ (h : Heap) (x0 x1 x2 : AVal) (x3 x4 : Int), OI (s79l1 Ψ (n1 + 1) x0 x1 x2 x3 x4 h)) ∧ (True ∧ (True ∧ True) ∧ (True ∧ (True) ∧ (∀ (h : Heap) (x0 x1 x2 : AVal) (x3 x4 : Int) (x5 : Bool), OI (s79c2 Ψ (s79l1_G (s79l1 Ψ n1)) x0 x1 x2 x3 x4 x5 h)) ∧ ((True ∧ True) ∧ True)) ∧ True)) ∧ True ∧ True)) ⟨trivial, ⟨trivial, ⟨⟨trivial, ⟨⟨trivial, trivial⟩, trivial⟩⟩, ⟨⟨trivial, ⟨fun _ _ _ _ _ _ H => H, fun _ => ⟨fun _ _ _ _ _ _ H => H, ⟨trivial, ⟨⟨trivial, trivial⟩, ⟨⟨trivial, ⟨trivial, fun _ _ _ _ _ _ _ H => H, ⟨⟨trivial, trivial⟩, trivial⟩⟩⟩, trivial⟩⟩⟩⟩⟩⟩, ⟨trivial, trivial⟩⟩⟩⟩⟩)
    (Eq.mpr (by as_aux_lemma => kernel_rfl : evF prog f79 (s79_A Ψ) Ψ [(.agg [m_Up, m_Val]), worlds] h = s79 Ψ m_Up m_Val worlds h) H)

/- 81 dictum/worlds.Tidy$1 -/
def s81 (Ψ : AVal → Heap → Prop) (b : Int) (c0 : AVal) (c1 : AVal) (h : Heap) : Prop :=
  ld1 h c0 fun v =>
  tInt .i64 v fun v1 =>
  ifT (v1 != b) (
    ld1 h c1 fun v2 =>
    ld1 h c0 fun v3 =>
    tInt .i64 v3 fun v4 =>
    callV prog v2 [(.int .i64 v4), (.int .i64 b)] h fun v5 h_ =>
    tBool v5 fun v6 =>
    retG (.bool v6) h_ Ψ) (
    retG (.bool false) h Ψ)

def s81_A (Ψ : AVal → Heap → Prop) : Ann :=
  .seq (rA 1)
  (.seq (.reg [⟨none, [(0, false), (1, false), (2, false), (3, false)]⟩, ⟨some (8, true), [(4, false), (5, false), (6, false), (7, false)]⟩, ⟨none, [(8, false), (9, false)]⟩])
  (.leaf))

theorem s81_ok {Ψ : AVal → Heap → Prop} {b : Int} {c0 : AVal} {c1 : AVal} {h : Heap} (H : s81 Ψ b c0 c1 h) : ACalls prog 81 [(.int .i64 b), c0, c1] h Ψ :=
  calls_of_evF func81 (by kernel_rfl) (by kernel_rfl) (by kernel_rfl)
    (Eq.mpr (by as_aux_lemma => kernel_rfl : oblF prog f81 (s81_A Ψ) Ψ = (True ∧ True ∧ True)) ⟨trivial, ⟨trivial, trivial⟩⟩)
    (Eq.mpr (by as_aux_lemma => kernel_rfl : evF prog f81 (s81_A Ψ) Ψ [(.int .i64 b), c0, c1] h = s81 Ψ b c0 c1 h) H)

/- 83 slices.ContainsFunc[[]int,int] -/
def s83 (Ψ : AVal → Heap → Prop) (s : AVal) (f : AVal) (h : Heap) : Prop :=
  callG prog 117 [s, f] h fun v h_ =>
  tInt .i64 v fun v1 =>
  retG (.bool (decide (0 ≤ v1))) h_ Ψ

def s83_A (Ψ : AVal → Heap → Prop) : Ann :=
  .seq (rA 1)
  (.seq (rA 5)
  (.leaf))

theorem s83_ok {Ψ : AVal → Heap → Prop} {s : AVal} {f : AVal} {h : Heap} (H : s83 Ψ s f h) : ACalls prog 83 [s, f] h Ψ :=
  calls_of_evF func83 (by kernel_rfl) (by kernel_rfl) (by kernel_rfl)
    (Eq.mpr (by as_aux_lemma => kernel_rfl : oblF prog f83 (s83_A Ψ) Ψ = (True ∧ True ∧ True)) ⟨trivial, ⟨trivial, trivial⟩⟩)
    (Eq.mpr (by as_aux_lemma => kernel_rfl : evF prog f83 (s83_A Ψ) Ψ [s, f] h = s83 Ψ s f h) H)

/- 85 slices.Clone[[]string,string] -/
def s85 (Ψ : AVal → Heap → Prop) (s : AVal) (h : Heap) : Prop :=
  nilS s fun b =>
  ifT b (
    retG .nilsl h Ψ) (
    Sym.newRow 1 [] h fun r h_ =>
    appC 1 16 h_ (.sl r 1 0 0) s fun v h_1 =>
    retG v h_1 Ψ)

def s85_A (Ψ : AVal → Heap → Prop) : Ann :=
  .seq (rA 1)
  (.seq (.seq (rA 2)
  (.cond (.seq (rA 1)
  (.leaf))
  (.leaf)))
  (.seq (rA 4)
  (.leaf)))

theorem s85_ok {Ψ : AVal → Heap → Prop} {s : AVal} {h : Heap} (H : s85 Ψ s h) : ACalls prog 85 [s] h Ψ :=
  calls_of_evF func85 (by kernel_rfl) (by kernel_rfl) (by kernel_rfl)
    (Eq.mpr (by as_aux_lemma => kernel_rfl : oblF prog f85 (s85_A Ψ) Ψ = (True ∧ (True ∧ (True ∧ True) ∧ True) ∧ True ∧ True)) ⟨trivial, ⟨⟨trivial, ⟨⟨trivial, trivial⟩, trivial⟩⟩, ⟨trivial, trivial⟩⟩⟩)
    (Eq.mpr (by as_aux_lemma => kernel_rfl : evF prog f85 (s85_A Ψ) Ψ [s] h = s85 Ψ s h) H)

/- 87 dictum/dictumref23.best -/
abbrev s87l1_T := AVal → Int → Int → Bool → Int → Heap → Prop
def s87l1_R (F : s87l1_T) (l : List AVal) (h : Heap) : Prop := J.cons l fun x0 l => J.cons l fun v l => J.int .i64 v fun x1 => J.cons l fun v l => J.int .i64 v fun x2 => J.cons l fun v l => J.bool v fun x3 => J.cons l fun v l => J.int .i64 v fun x4 => J.nil l (F x0 x1 x2 x3 x4 h)
def s87l1_G (F : s87l1_T) (x0 : AVal) (x1 x2 : Int) (x3 : Bool) (x4 : Int) (h : Heap) : Prop := gJ [.any, .int .i64, .int .i64, .bool, .int .i64] [x0, (.int .i64 x1), (.int .i64 x2), (.bool x3), (.int .i64 x4)] h (s87l1_R F)
def s87l1_E (F : Nat → s87l1_T) (x0 : AVal) (x1 x2 : Int) (x3 : Bool) (x4 : Int) (h : Heap) : Prop := gJ [.any, .int .i64, .int .i64, .bool, .int .i64] [x0, (.int .i64 x1), (.int .i64 x2), (.bool x3), (.int .i64 x4)] h (fun l h => ∃ n, s87l1_R (F n) l h)
theorem s87l1_go {F : s87l1_T} {x0 : AVal} {x1 x2 : Int} {x3 : Bool} {x4 : Int} {h : Heap} (H : F x0 x1 x2 x3 x4 h) : s87l1_G F x0 x1 x2 x3 x4 h := gJ_plain rfl H
theorem s87l1_in {F : Nat → s87l1_T} {x0 : AVal} {x1 x2 : Int} {x3 : Bool} {x4 : Int} {h : Heap} (n : Nat) (H : F n x0 x1 x2 x3 x4 h) : s87l1_E F x0 x1 x2 x3 x4 h := gJ_plain rfl ⟨n, H⟩

abbrev s87l2_T := AVal → Int → Int → Bool → Int → Bool → Int → Heap → Prop
def s87l2_R (F : s87l2_T) (l : List AVal) (h : Heap) : Prop := J.cons l fun x0 l => J.cons l fun v l => J.int .i64 v fun x1 => J.cons l fun v l => J.int .i64 v fun x2 => J.cons l fun v l => J.bool v fun x3 => J.cons l fun v l => J.int .i64 v fun x4 => J.cons l fun v l => J.bool v fun x5 => J.cons l fun v l => J.int .i64 v fun x6 => J.nil l (F x0 x1 x2 x3 x4 x5 x6 h)
def s87l2_G (F : s87l2_T) (x0 : AVal) (x1 x2 : Int) (x3 : Bool) (x4 : Int) (x5 : Bool) (x6 : Int) (h : Heap) : Prop := gJ [.any, .int .i64, .int .i64, .bool, .int .i64, .bool, .int .i64] [x0, (.int .i64 x1), (.int .i64 x2), (.bool x3), (.int .i64 x4), (.bool x5), (.int .i64 x6)] h (s87l2_R F)
def s87l2_E (F : Nat → s87l2_T) (x0 : AVal) (x1 x2 : Int) (x3 : Bool) (x4 : Int) (x5 : Bool) (x6 : Int) (h : Heap) : Prop := gJ [.any, .int .i64, .int .i64, .bool, .int .i64, .bool, .int .i64] [x0, (.int .i64 x1), (.int .i64 x2), (.bool x3), (.int .i64 x4), (.bool x5), (.int .i64 x6)] h (fun l h => ∃ n, s87l2_R (F n) l h)
theorem s87l2_go {F : s87l2_T} {x0 : AVal} {x1 x2 : Int} {x3 : Bool} {x4 : Int} {x5 : Bool} {x6 : Int} {h : Heap} (H : F x0 x1 x2 x3 x4 x5 x6 h) : s87l2_G F x0 x1 x2 x3 x4 x5 x6 h := gJ_plain rfl H
theorem s87l2_in {F : Nat → s87l2_T} {x0 : AVal} {x1 x2 : Int} {x3 : Bool} {x4 : Int} {x5 : Bool} {x6 : Int} {h : Heap} (n : Nat) (H : F n x0 x1 x2 x3 x4 x5 x6 h) : s87l2_E F x0 x1 x2 x3 x4 x5 x6 h := gJ_plain rfl ⟨n, H⟩

def s87c4 (Ψ : AVal → Heap → Prop) (L1 : s87l1_T) (L2 : s87l2_T) (l_4 : AVal) (x4 y4 : Int) (down4 : Bool) (z3 : Int) (is2 : Bool) (w2 : Int) (h : Heap) : Prop :=
  rg (w2 + 1) (
    L2 l_4 x4 y4 down4 z3 is2 (w2 + 1) h)

def s87c3 (Ψ : AVal → Heap → Prop) (L1 : s87l1_T) (L2 : s87l2_T) (l_3 : AVal) (x3 y3 : Int) (down3 : Bool) (z2 : Int) (is1 : Bool) (w1 : Int) (t30 : Bool) (h : Heap) : Prop :=
  ifT t30 (
    callG prog 118 [l_3, (.int .i64 w1), (.int .i64 x3), (.int .i64 y3), (.bool down3)] h fun v2 h_1 =>
    tBool v2 fun v3 =>
    ifT v3 (
      ifT down3 (
        ixS 1 l_3 w1 fun p =>
        ld1 h_1 p fun v4 =>
        ixS 1 v4 z2 fun p1 =>
        ld1 h_1 p1 fun v5 =>
        tBool v5 fun v6 =>
        s87c4 Ψ L1 L2 l_3 x3 y3 down3 z2 v6 w1 h_1) (
        ixS 1 l_3 z2 fun p2 =>
        ld1 h_1 p2 fun v7 =>
        ixS 1 v7 w1 fun p3 =>
        ld1 h_1 p3 fun v8 =>
        tBool v8 fun v9 =>
        s87c4 Ψ L1 L2 l_3 x3 y3 down3 z2 v9 w1 h_1)) (
      s87c4 Ψ L1 L2 l_3 x3 y3 down3 z2 is1 w1 h_1)) (
    ifT is1 (
      retG (.int .i64 z2) h Ψ) (
      rg (z2 + 1) (
        L1 l_3 x3 y3 down3 (z2 + 1) h)))

def s87l2 (Ψ : AVal → Heap → Prop) (L1 : s87l1_T) : Nat → s87l2_T
  | 0, _, _, _, _, _, _, _, _ => False
  | n2 + 1, l_2, x2, y2, down2, z1, is, w, h =>
    lenN l_2 fun n3 =>
    ifT (decide (w < n3)) (
      s87c3 Ψ L1 (s87l2_G (s87l2 Ψ L1 n2)) l_2 x2 y2 down2 z1 is w is h) (
      s87c3 Ψ L1 (s87l2_G (s87l2 Ψ L1 n2)) l_2 x2 y2 down2 z1 is w false h)

def s87l1 (Ψ : AVal → Heap → Prop) : Nat → s87l1_T
  | 0, _, _, _, _, _, _ => False
  | n + 1, l_1, x1, y1, down1, z, h =>
    lenN l_1 fun n1 =>
    ifT (decide (z < n1)) (
      callG prog 118 [l_1, (.int .i64 z), (.int .i64 x1), (.int .i64 y1), (.bool down1)] h fun v h_ =>
      tBool v fun v1 =>
      s87l2_E (s87l2 Ψ (s87l1_G (s87l1 Ψ n))) l_1 x1 y1 down1 z v1 0 h_) (
      retG (.int .i64 (-1)) h Ψ)

def s87 (Ψ : AVal → Heap → Prop) (l_ : AVal) (x : Int) (y : Int) (down : Bool) (h : Heap) : Prop :=
  s87l1_E (s87l1 Ψ) l_ x y down 0 h

def s87_A (Ψ : AVal → Heap → Prop) : Ann :=
  .seq (rA 1)
  (.seq (.seq (rA 1)
  (.block (.loop [(0, .any), (1, .int .i64), (2, .int .i64), (3, .bool), (9, .int .i64)] (fun n l h => s87l1_R (s87l1 Ψ n) l h) (fun L1 =>
  .seq (.seq (rA 4)
  (.cond (.leaf)
  (.leaf)))
  (.seq (.block (.seq (rA 7)
  (.seq (.seq (rA 1)
  (.block (.loop [(0, .any), (1, .int .i64), (2, .int .i64), (3, .bool), (9, .int .i64), (10, .bool), (11, .int .i64)] (fun n l h => s87l2_R (s87l2 Ψ (fun y0 y1 y2 y3 y4 h => L1 [y0, (.int .i64 y1), (.int .i64 y2), (.bool y3), (.int .i64 y4)] h) n) l h) (fun L2 =>
  .seq (.cut [(0, .any), (1, .int .i64), (2, .int .i64), (3, .bool), (9, .int .i64), (10, .bool), (11, .int .i64), (30, .bool)] (fun l h => J.cons l fun x0 l => J.cons l fun v l => J.int .i64 v fun x1 => J.cons l fun v l => J.int .i64 v fun x2 => J.cons l fun v l => J.bool v fun x3 => J.cons l fun v l => J.int .i64 v fun x4 => J.cons l fun v l => J.bool v fun x5 => J.cons l fun v l => J.int .i64 v fun x6 => J.cons l fun v l => J.bool v fun x7 => J.nil l (s87c3 Ψ (fun y0 y1 y2 y3 y4 h => L1 [y0, (.int .i64 y1), (.int .i64 y2), (.bool y3), (.int .i64 y4)] h) (fun y0 y1 y2 y3 y4 y5 y6 h => L2 [y0, (.int .i64 y1), (.int .i64 y2), (.bool y3), (.int .i64 y4), (.bool y5), (.int .i64 y6)] h) x0 x1 x2 x3 x4 x5 x6 x7 h)) (.reg [⟨none, [(0, false), (1, false), (2, false), (3, false), (4, false)]⟩, ⟨some (28, true), [(5, false)]⟩, ⟨none, [(6, false)]⟩])
  (.cond (.leaf)
  (.leaf)))
  (.cut [(0, .any), (1, .int .i64), (2, .int .i64), (3, .bool), (9, .int .i64), (10, .bool), (11, .int .i64)] (fun l h => J.cons l fun x0 l => J.cons l fun v l => J.int .i64 v fun x1 => J.cons l fun v l => J.int .i64 v fun x2 => J.cons l fun v l => J.bool v fun x3 => J.cons l fun v l => J.int .i64 v fun x4 => J.cons l fun v l => J.bool v fun x5 => J.cons l fun v l => J.int .i64 v fun x6 => J.nil l (s87c4 Ψ (fun y0 y1 y2 y3 y4 h => L1 [y0, (.int .i64 y1), (.int .i64 y2), (.bool y3), (.int .i64 y4)] h) (fun y0 y1 y2 y3 y4 y5 y6 h => L2 [y0, (.int .i64 y1), (.int .i64 y2), (.bool y3), (.int .i64 y4), (.bool y5), (.int .i64 y6)] h) x0 x1 x2 x3 x4 x5 x6 h)) (.block (.seq (rA 6)
  (.cond (.seq (rA 1)
  (.cond (rA 8)
  (rA 8)))
  (.leaf))))
  (rA 3))))))
  (.seq (rA 1)
  (.cond (.seq (rA 2)
  (.leaf))
  (.leaf))))))
  (rA 3))))))
  (.seq (rA 1)
  (.leaf)))

theorem s87_ok {Ψ : AVal → Heap → Prop} {l_ : AVal} {x : Int} {y : Int} {down : Bool} {h : Heap} (H : s87 Ψ l_ x y down h) : ACalls prog 87 [l_, (.int .i64 x), (.int .i64 y), (.bool down)] h Ψ :=
  calls_of_evF func87 (by kernel_rfl) (by kernel_rfl) (by kernel_rfl)
    (Eq.mpr (by as_aux_lemma => kernel_rfl : oblF prog f87 (s87_A Ψ) Ψ = (True ∧ (True ∧ (∀ (h : Heap) (x0 : AVal) (x1 x2 : Int) (x3 : Bool) (x4 : Int), ON (s87l1 Ψ 0 x0 x1 x2 x3 x4 h)) ∧ ∀ n1 : Nat, (∀ (h : Heap) (x0 : AVal) (x1 x2 : Int) (x3 : Bool) (x4 : Int), OI (s87l1 Ψ (n1 + 1) x0 x1 x2 x3 x4 h)) ∧ ((True ∧ True ∧ True) ∧ (True ∧ (True ∧ (∀ (h : Heap) (x0 : AVal) (x1 x2 : Int) (x3 : Bool) (x4 : Int) (x5 : Bool) (x6 : Int), ON (s87l2 Ψ (s87l1_G (s87l1 Ψ n1)) 0 x0 x1 x2 x3 x4 x5 x6 h)) ∧ ∀ n2 : Nat, (∀ (h : Heap) (x0 : AVal) (x1 x2 : Int) (x3 : Bool) (x4 : Int) (x5 : Bool) (x6 : Int), OI (s87l2 Ψ (s87l1_G (s87l1 Ψ n1)) (n2 + 1) x0 x1 x2 x3 x4 x5 x6 h)) ∧ (((True) ∧ (∀ (h : Heap) (x0 : AVal) (x1 x2 : Int) (x3 : Bool) (x4 : Int) (x5 : Bool) (x6 : Int) (x7 : Bool), OI (s87c3 Ψ (s87l1_G (s87l1 Ψ n1)) (s87l2_G (s87l2 Ψ (s87l1_G (s87l1 Ψ n1)) n2)) x0 x1 x2 x3 x4 x5 x6 x7 h)) ∧ (True ∧ True)) ∧ (True ∧ (True ∧ True ∧ True) ∧ True) ∧ (∀ (h : Heap) (x0 : AVal) (x1 x2 : Int) (x3 : Bool) (x4 : Int) (x5 : Bool) (x6 : Int), OI (s87c4 Ψ (s87l1_G (s87l1 Ψ n1)) (s87l2_G (s87l2 Ψ (s87l1_G (s87l1 Ψ n1)) n2)) x0 x1 x2 x3 x4 x5 x6 h)) ∧ (True))) ∧ True ∧ (True ∧ True) ∧ True) ∧ True)) ∧ True ∧ True)) ⟨trivial, ⟨⟨trivial, ⟨fun _ _ _ _ _ _ H => H, fun _ => ⟨fun _ _ _ _ _ _ H => H, ⟨⟨trivial, ⟨trivial, trivial⟩⟩, ⟨⟨trivial, ⟨⟨trivial, ⟨fun _ _ _ _ _ _ _ _ H => H, fun _ => ⟨fun _ _ _ _ _ _ _ _ H => H, ⟨⟨trivial, fun _ _ _ _ _ _ _ _ _ H => H, ⟨trivial, trivial⟩⟩, ⟨⟨trivial, ⟨⟨trivial, ⟨trivial, trivial⟩⟩, trivial⟩⟩, fun _ _ _ _ _ _ _ _ H => H, trivial⟩⟩⟩⟩⟩, ⟨trivial, ⟨⟨trivial, trivial⟩, trivial⟩⟩⟩⟩, trivial⟩⟩⟩⟩⟩, ⟨trivial, trivial⟩⟩⟩)
    (Eq.mpr (by as_aux_lemma => kernel_rfl : evF prog f87 (s87_A Ψ) Ψ [l_, (.int .i64 x), (.int .i64 y), (.bool down)] h = s87 Ψ l_ x y down h) H)

/- 89 dictum/formula.New -/
def s89 (Ψ : AVal → Heap → Prop) (h : Heap) : Prop :=
  newMap h fun r h_ =>
  Sym.newRow 2 [(.agg [.nilsl, (.mapr r)])] h_ fun r1 h_1 =>
  retG (.ptr r1 0 0) h_1 Ψ

def s89_A (Ψ : AVal → Heap → Prop) : Ann :=
  .seq (rA 1)
  (.seq (rA 4)
  (.leaf))

theorem s89_ok {Ψ : AVal → Heap → Prop} {h : Heap} (H : s89 Ψ  h) : ACalls prog 89 [] h Ψ :=
  calls_of_evF func89 (by kernel_rfl) (by kernel_rfl) (by kernel_rfl)
    (Eq.mpr (by as_aux_lemma => kernel_rfl : oblF prog f89 (s89_A Ψ) Ψ = (True ∧ True ∧ True)) ⟨trivial, ⟨trivial, trivial⟩⟩)
    (Eq.mpr (by as_aux_lemma => kernel_rfl : evF prog f89 (s89_A Ψ) Ψ [] h = s89 Ψ  h) H)

/- 91 (*dictum/formula.Table).alive -/
def s91 (Ψ : AVal → Heap → Prop) (t : AVal) (h : Heap) : Prop :=
  nilP t fun b =>
  ifT (!b) (
    nilCheckA t fun p =>
    addOff p 1 fun p1 =>
    ld1 h p1 fun v =>
    nilM v fun b1 =>
    retG (.bool (!b1)) h Ψ) (
    retG (.bool false) h Ψ)

def s91_A (Ψ : AVal → Heap → Prop) : Ann :=
  .seq (rA 1)
  (.seq (.reg [⟨none, [(0, false), (1, false), (2, false)]⟩, ⟨some (5, true), [(3, false), (4, false), (5, false), (6, false), (7, false)]⟩, ⟨none, [(8, false), (9, false)]⟩])
  (.leaf))

theorem s91_ok {Ψ : AVal → Heap → Prop} {t : AVal} {h : Heap} (H : s91 Ψ t h) : ACalls prog 91 [t] h Ψ :=
  calls_of_evF func91 (by kernel_rfl) (by kernel_rfl) (by kernel_rfl)
    (Eq.mpr (by as_aux_lemma => kernel_rfl : oblF prog f91 (s91_A Ψ) Ψ = (True ∧ True ∧ True)) ⟨trivial, ⟨trivial, trivial⟩⟩)
    (Eq.mpr (by as_aux_lemma => kernel_rfl : evF prog f91 (s91_A Ψ) Ψ [t] h = s91 Ψ t h) H)

/- 93 (*dictum/formula.Table).Below$1 -/
def s93 (Ψ : AVal → Heap → Prop) (id_ : Int) (c0 : AVal) (c1 : AVal) (c2 : AVal) (h : Heap) : Prop :=
  ld1 h c0 fun v =>
  mapGet (.int .i64 0) h v (.int .i64 id_) fun v1 b =>
  tInt .i64 v1 fun v2 =>
  ifT (decide (0 < v2)) (
    retG (.tuple []) h Ψ) (
    ld1 h c0 fun v3 =>
    mapPut h v3 (.int .i64 id_) (.int .i64 1) fun h_ =>
    ld1 h_ c1 fun v4 =>
    nilCheckA v4 fun p =>
    addOff p 0 fun p1 =>
    ld1 h_ p1 fun v5 =>
    ixS 4 v5 id_ fun p2 =>
    ldN 4 h_ p2 fun l_ =>
    tCons l_ fun v6 l_1 =>
    tInt .i64 v6 fun v7 =>
    tCons l_1 fun v8 l_2 =>
    tStr v8 fun v9 =>
    tCons l_2 fun v10 l_3 =>
    tInt .i64 v10 fun v11 =>
    tCons l_3 fun v12 l_4 =>
    tInt .i64 v12 fun v13 =>
    tNil l_4 (
      Sym.newRow 4 [(.agg [(.int .i64 0), (.str (ByteArray.mk #[])), (.int .i64 0), (.int .i64 0)])] h_ fun r h_1 =>
      st false h_1 (.ptr r 0 0) [(.int .i64 v7), (.str v9), (.int .i64 v11), (.int .i64 v13)] fun h_2 =>
      ld1 h_2 (.ptr r 0 0) fun v14 =>
      tInt .i64 v14 fun v15 =>
      ifT (decide (3 ≤ v15)) (
        ld1 h_2 c2 fun v16 =>
        ld1 h_2 (.ptr r 0 2) fun v17 =>
        tInt .i64 v17 fun v18 =>
        callV prog v16 [(.int .i64 v18)] h_2 fun v19 h_3 =>
        ld1 h_3 c2 fun v20 =>
        ld1 h_3 (.ptr r 0 3) fun v21 =>
        tInt .i64 v21 fun v22 =>
        callV prog v20 [(.int .i64 v22)] h_3 fun v23 h_4 =>
        retG (.tuple []) h_4 Ψ) (
        retG (.tuple []) h_2 Ψ)))

def s93_A (Ψ : AVal → Heap → Prop) : Ann :=
  .seq (.seq (rA 4)
  (.cond (.leaf)
  (.leaf)))
  (.seq (rA 3)
  (.seq (rA 9)
  (.seq (rA 3)
  (.cond (.seq (rA 4)
  (rA 4))
  (.leaf)))))

theorem s93_ok {Ψ : AVal → Heap → Prop} {id_ : Int} {c0 : AVal} {c1 : AVal} {c2 : AVal} {h : Heap} (H : s93 Ψ id_ c0 c1 c2 h) : ACalls prog 93 [(.int .i64 id_), c0, c1, c2] h Ψ :=
  calls_of_evF func93 (by kernel_rfl) (by kernel_rfl) (by kernel_rfl)
    (Eq.mpr (by as_aux_lemma => kernel_rfl : oblF prog f93 (s93_A Ψ) Ψ = ((True ∧ True ∧ True) ∧ True ∧ True ∧ True ∧ (True ∧ True) ∧ True)) ⟨⟨trivial, ⟨trivial, trivial⟩⟩, ⟨trivial, ⟨trivial, ⟨trivial, ⟨⟨trivial, trivial⟩, trivial⟩⟩⟩⟩⟩)
    (Eq.mpr (by as_aux_lemma => kernel_rfl : evF prog f93 (s93_A Ψ) Ψ [(.int .i64 id_), c0, c1, c2] h = s93 Ψ id_ c0 c1 c2 h) H)

/- 96 (dictum/heyting.lattice).imp$1 -/
def s96 (Ψ : AVal → Heap → Prop) (z : Int) (c0 : AVal) (c1 : AVal) (c2 : AVal) (h : Heap) : Prop :=
  ldN 2 h c0 fun l_ =>
  tCons l_ fun v l_1 =>
  tInt .i64 v fun v1 =>
  tCons l_1 fun v2 l_2 =>
  tNil l_2 (
    ld1 h c1 fun v3 =>
    tInt .i64 v3 fun v4 =>
    callG prog 50 [(.agg [(.int .i64 v1), v2]), (.int .i64 z), (.int .i64 v4)] h fun v5 h_ =>
    tTup v5 fun l_3 =>
    tCons l_3 fun v6 l_4 =>
    tInt .i64 v6 fun v7 =>
    tCons l_4 fun v8 l_5 =>
    tBool v8 fun v9 =>
    tNil l_5 (
      addOff c0 1 fun p =>
      ld1 h_ p fun v10 =>
      ld1 h_ c2 fun v11 =>
      tInt .i64 v11 fun v12 =>
      callV prog v10 [(.int .i64 v7), (.int .i64 v12)] h_ fun v13 h_1 =>
      tBool v13 fun v14 =>
      retG (.bool v14) h_1 Ψ))

def s96_A (Ψ : AVal → Heap → Prop) : Ann :=
  .seq (rA 1)
  (.seq (rA 9)
  (.seq (rA 6)
  (.leaf)))

theorem s96_ok {Ψ : AVal → Heap → Prop} {z : Int} {c0 : AVal} {c1 : AVal} {c2 : AVal} {h : Heap} (H : s96 Ψ z c0 c1 c2 h) : ACalls prog 96 [(.int .i64 z), c0, c1, c2] h Ψ :=
  calls_of_evF func96 (by kernel_rfl) (by kernel_rfl) (by kernel_rfl)
    (Eq.mpr (by as_aux_lemma => kernel_rfl : oblF prog f96 (s96_A Ψ) Ψ = (True ∧ True ∧ True ∧ True)) ⟨trivial, ⟨trivial, ⟨trivial, trivial⟩⟩⟩)
    (Eq.mpr (by as_aux_lemma => kernel_rfl : evF prog f96 (s96_A Ψ) Ψ [(.int .i64 z), c0, c1, c2] h = s96 Ψ z c0 c1 c2 h) H)

/- 101 dictum/worlds.Above$1 -/
def s101 (Ψ : AVal → Heap → Prop) (b : Int) (c0 : AVal) (c1 : AVal) (h : Heap) : Prop :=
  ld1 h c0 fun v =>
  ld1 h c1 fun v1 =>
  tInt .i64 v1 fun v2 =>
  callV prog v [(.int .i64 v2), (.int .i64 b)] h fun v3 h_ =>
  tBool v3 fun v4 =>
  retG (.bool v4) h_ Ψ

def s101_A (Ψ : AVal → Heap → Prop) : Ann :=
  .seq (rA 1)
  (.seq (rA 5)
  (.leaf))

theorem s101_ok {Ψ : AVal → Heap → Prop} {b : Int} {c0 : AVal} {c1 : AVal} {h : Heap} (H : s101 Ψ b c0 c1 h) : ACalls prog 101 [(.int .i64 b), c0, c1] h Ψ :=
  calls_of_evF func101 (by kernel_rfl) (by kernel_rfl) (by kernel_rfl)
    (Eq.mpr (by as_aux_lemma => kernel_rfl : oblF prog f101 (s101_A Ψ) Ψ = (True ∧ True ∧ True)) ⟨trivial, ⟨trivial, trivial⟩⟩)
    (Eq.mpr (by as_aux_lemma => kernel_rfl : evF prog f101 (s101_A Ψ) Ψ [(.int .i64 b), c0, c1] h = s101 Ψ b c0 c1 h) H)

/- 115 slices.IndexFunc[[][]bool,[]bool] -/
abbrev s115l1_T := AVal → AVal → Int → Int → Heap → Prop
def s115l1_R (F : s115l1_T) (l : List AVal) (h : Heap) : Prop := J.cons l fun x0 l => J.cons l fun x1 l => J.cons l fun v l => J.int .i64 v fun x2 => J.cons l fun v l => J.int .i64 v fun x3 => J.nil l (F x0 x1 x2 x3 h)
def s115l1_G (F : s115l1_T) (x0 x1 : AVal) (x2 x3 : Int) (h : Heap) : Prop := gJ [.any, .any, .int .i64, .int .i64] [x0, x1, (.int .i64 x2), (.int .i64 x3)] h (s115l1_R F)
def s115l1_E (F : Nat → s115l1_T) (x0 x1 : AVal) (x2 x3 : Int) (h : Heap) : Prop := gJ [.any, .any, .int .i64, .int .i64] [x0, x1, (.int .i64 x2), (.int .i64 x3)] h (fun l h => ∃ n, s115l1_R (F n) l h)
theorem s115l1_go {F : s115l1_T} {x0 x1 : AVal} {x2 x3 : Int} {h : Heap} (H : F x0 x1 x2 x3 h) : s115l1_G F x0 x1 x2 x3 h := gJ_plain rfl H
theorem s115l1_in {F : Nat → s115l1_T} {x0 x1 : AVal} {x2 x3 : Int} {h : Heap} (n : Nat) (H : F n x0 x1 x2 x3 h) : s115l1_E F x0 x1 x2 x3 h := gJ_plain rfl ⟨n, H⟩

def s115l1 (Ψ : AVal → Heap → Prop) : Nat → s115l1_T
  | 0, _, _, _, _, _ => False
  | n1 + 1, s1, f1, t7, t8, h =>
    ifT (decide (t8 < t7)) (
      ixS 1 s1 t8 fun p =>
      ld1 h p fun v =>
      callV prog f1 [v] h fun v1 h_ =>
      tBool v1 fun v2 =>
      ifT v2 (
        retG (.int .i64 t8) h_ Ψ) (
        rg (t8 + 1) (
          s115l1_G (s115l1 Ψ n1) s1 f1 t7 (t8 + 1) h_))) (
      retG (.int .i64 (-1)) h Ψ)

def s115 (Ψ : AVal → Heap → Prop) (s : AVal) (f : AVal) (h : Heap) : Prop :=
  lenN s fun n =>
  s115l1_E (s115l1 Ψ) s f n 0 h

def s115_A (Ψ : AVal → Heap → Prop) : Ann :=
  .seq (rA 1)
  (.seq (.seq (rA 3)
  (.block (.loop [(0, .any), (1, .any), (7, .int .i64), (8, .int .i64)] (fun n l h => s115l1_R (s115l1 Ψ n) l h) (fun L1 =>
  .seq (rA 1)
  (.seq (.cond (.leaf)
  (.leaf))
  (.seq (.block (.seq (rA 2)
  (.seq (rA 6)
  (.cond (.seq (rA 2)
  (.leaf))
  (.leaf)))))
  (rA 2)))))))
  (.seq (rA 1)
  (.leaf)))

theorem s115_ok {Ψ : AVal → Heap → Prop} {s : AVal} {f : AVal} {h : Heap} (H : s115 Ψ s f h) : ACalls prog 115 [s, f] h Ψ :=
  calls_of_evF func115 (by kernel_rfl) (by kernel_rfl) (by kernel_rfl)
    (Eq.mpr (by as_aux_lemma => kernel_rfl : oblF prog f115 (s115_A Ψ) Ψ = (True ∧ (True ∧ (∀ (h : Heap) (x0 x1 : AVal) (x2 x3 : Int), ON (s115l1 Ψ 0 x0 x1 x2 x3 h)) ∧ ∀ n1 : Nat, (∀ (h : Heap) (x0 x1 : AVal) (x2 x3 : Int), OI (s115l1 Ψ (n1 + 1) x0 x1 x2 x3 h)) ∧ (True ∧ (True ∧ True) ∧ (True ∧ True ∧ (True ∧ True) ∧ True) ∧ True)) ∧ True ∧ True)) ⟨trivial, ⟨⟨trivial, ⟨fun _ _ _ _ _ H => H, fun _ => ⟨fun _ _ _ _ _ H => H, ⟨trivial, ⟨⟨trivial, trivial⟩, ⟨⟨trivial, ⟨trivial, ⟨⟨trivial, trivial⟩, trivial⟩⟩⟩, trivial⟩⟩⟩⟩⟩⟩, ⟨trivial, trivial⟩⟩⟩)
    (Eq.mpr (by as_aux_lemma => kernel_rfl : evF prog f115 (s115_A Ψ) Ψ [s, f] h = s115 Ψ s f h) H)

/- 117 slices.IndexFunc[[]int,int] -/
abbrev s117l1_T := AVal → AVal → Int → Int → Heap → Prop
def s117l1_R (F : s117l1_T) (l : List AVal) (h : Heap) : Prop := J.cons l fun x0 l => J.cons l fun x1 l => J.cons l fun v l => J.int .i64 v fun x2 => J.cons l fun v l => J.int .i64 v fun x3 => J.nil l (F x0 x1 x2 x3 h)
def s117l1_G (F : s117l1_T) (x0 x1 : AVal) (x2 x3 : Int) (h : Heap) : Prop := gJ [.any, .any, .int .i64, .int .i64] [x0, x1, (.int .i64 x2), (.int .i64 x3)] h (s117l1_R F)
def s117l1_E (F : Nat → s117l1_T) (x0 x1 : AVal) (x2 x3 : Int) (h : Heap) : Prop := gJ [.any, .any, .int .i64, .int .i64] [x0, x1, (.int .i64 x2), (.int .i64 x3)] h (fun l h => ∃ n, s117l1_R (F n) l h)
theorem s117l1_go {F : s117l1_T} {x0 x1 : AVal} {x2 x3 : Int} {h : Heap} (H : F x0 x1 x2 x3 h) : s117l1_G F x0 x1 x2 x3 h := gJ_plain rfl H
theorem s117l1_in {F : Nat → s117l1_T} {x0 x1 : AVal} {x2 x3 : Int} {h : Heap} (n : Nat) (H : F n x0 x1 x2 x3 h) : s117l1_E F x0 x1 x2 x3 h := gJ_plain rfl ⟨n, H⟩

def s117l1 (Ψ : AVal → Heap → Prop) : Nat → s117l1_T
  | 0, _, _, _, _, _ => False
  | n1 + 1, s1, f1, t7, t8, h =>
    ifT (decide (t8 < t7)) (
      ixS 1 s1 t8 fun p =>
      ld1 h p fun v =>
      tInt .i64 v fun v1 =>
      callV prog f1 [(.int .i64 v1)] h fun v2 h_ =>
      tBool v2 fun v3 =>
      ifT v3 (
        retG (.int .i64 t8) h_ Ψ) (
        rg (t8 + 1) (
          s117l1_G (s117l1 Ψ n1) s1 f1 t7 (t8 + 1) h_))) (
      retG (.int .i64 (-1)) h Ψ)

def s117 (Ψ : AVal → Heap → Prop) (s : AVal) (f : AVal) (h : Heap) : Prop :=
  lenN s fun n =>
  s117l1_E (s117l1 Ψ) s f n 0 h

def s117_A (Ψ : AVal → Heap → Prop) : Ann :=
  .seq (rA 1)
  (.seq (.seq (rA 3)
  (.block (.loop [(0, .any), (1, .any), (7, .int .i64), (8, .int .i64)] (fun n l h => s117l1_R (s117l1 Ψ n) l h) (fun L1 =>
  .seq (rA 1)
  (.seq (.cond (.leaf)
  (.leaf))
  (.seq (.block (.seq (rA 2)
  (.seq (rA 6)
  (.cond (.seq (rA 2)
  (.leaf))
  (.leaf)))))
  (rA 2)))))))
  (.seq (rA 1)
  (.leaf)))

theorem s117_ok {Ψ : AVal → Heap → Prop} {s : AVal} {f : AVal} {h : Heap} (H : s117 Ψ s f h) : ACalls prog 117 [s, f] h Ψ :=
  calls_of_evF func117 (by kernel_rfl) (by kernel_rfl) (by kernel_rfl)
    (Eq.mpr (by as_aux_lemma => kernel_rfl : oblF prog f117 (s117_A Ψ) Ψ = (True ∧ (True ∧ (∀ (h : Heap) (x0 x1 : AVal) (x2 x3 : Int), ON (s117l1 Ψ 0 x0 x1 x2 x3 h)) ∧ ∀ n1 : Nat, (∀ (h : Heap) (x0 x1 : AVal) (x2 x3 : Int), OI (s117l1 Ψ (n1 + 1) x0 x1 x2 x3 h)) ∧ (True ∧ (True ∧ True) ∧ (True ∧ True ∧ (True ∧ True) ∧ True) ∧ True)) ∧ True ∧ True)) ⟨trivial, ⟨⟨trivial, ⟨fun _ _ _ _ _ H => H, fun _ => ⟨fun _ _ _ _ _ H => H, ⟨trivial, ⟨⟨trivial, trivial⟩, ⟨⟨trivial, ⟨trivial, ⟨⟨trivial, trivial⟩, trivial⟩⟩⟩, trivial⟩⟩⟩⟩⟩⟩, ⟨trivial, trivial⟩⟩⟩)
    (Eq.mpr (by as_aux_lemma => kernel_rfl : evF prog f117 (s117_A Ψ) Ψ [s, f] h = s117 Ψ s f h) H)

/- 119 (*dictum/dictumref03.T).Find -/
abbrev s119l1_T := AVal → AVal → Int → Heap → Prop
def s119l1_R (F : s119l1_T) (l : List AVal) (h : Heap) : Prop := J.cons l fun x0 l => J.cons l fun x1 l => J.cons l fun v l => J.int .i64 v fun x2 => J.nil l (F x0 x1 x2 h)
def s119l1_G (F : s119l1_T) (x0 x1 : AVal) (x2 : Int) (h : Heap) : Prop := gJ [.any, .any, .int .i64] [x0, x1, (.int .i64 x2)] h (s119l1_R F)
def s119l1_E (F : Nat → s119l1_T) (x0 x1 : AVal) (x2 : Int) (h : Heap) : Prop := gJ [.any, .any, .int .i64] [x0, x1, (.int .i64 x2)] h (fun l h => ∃ n, s119l1_R (F n) l h)
theorem s119l1_go {F : s119l1_T} {x0 x1 : AVal} {x2 : Int} {h : Heap} (H : F x0 x1 x2 h) : s119l1_G F x0 x1 x2 h := gJ_plain rfl H
theorem s119l1_in {F : Nat → s119l1_T} {x0 x1 : AVal} {x2 : Int} {h : Heap} (n : Nat) (H : F n x0 x1 x2 h) : s119l1_E F x0 x1 x2 h := gJ_plain rfl ⟨n, H⟩

def s119l1 (Ψ : AVal → Heap → Prop) : Nat → s119l1_T
  | 0, _, _, _, _ => False
  | n1 + 1, t1, n, i, h =>
    nilCheckA t1 fun p =>
    addOff p 0 fun p1 =>
    ld1 h p1 fun v =>
    lenN v fun n2 =>
    ifT (decide (i < n2)) (
      nilCheckA t1 fun p2 =>
      addOff p2 0 fun p3 =>
      ld1 h p3 fun v1 =>
      ixS 4 v1 i fun p4 =>
      ldN 4 h p4 fun l_ =>
      tCons l_ fun v2 l_1 =>
      tInt .i64 v2 fun v3 =>
      tCons l_1 fun v4 l_2 =>
      tStr v4 fun v5 =>
      tCons l_2 fun v6 l_3 =>
      tInt .i64 v6 fun v7 =>
      tCons l_3 fun v8 l_4 =>
      tInt .i64 v8 fun v9 =>
      tNil l_4 (
        ldN 4 h n fun l_5 =>
        tCons l_5 fun v10 l_6 =>
        tInt .i64 v10 fun v11 =>
        tCons l_6 fun v12 l_7 =>
        tStr v12 fun v13 =>
        tCons l_7 fun v14 l_8 =>
        tInt .i64 v14 fun v15 =>
        tCons l_8 fun v16 l_9 =>
        tInt .i64 v16 fun v17 =>
        tNil l_9 (
          eqQ prog 71 (.agg [(.int .i64 v3), (.str v5), (.int .i64 v7), (.int .i64 v9)]) (.agg [(.int .i64 v11), (.str v13), (.int .i64 v15), (.int .i64 v17)]) fun b =>
          ifT b (
            retG (.tuple [(.int .i64 i), (.bool true)]) h Ψ) (
            rg (i + 1) (
              s119l1_G (s119l1 Ψ n1) t1 n (i + 1) h))))) (
      retG (.tuple [(.int .i64 0), (.bool false)]) h Ψ)

def s119 (Ψ : AVal → Heap → Prop) (t : AVal) (n_Kind : Int) (n_Name : ByteArray) (n_L : Int) (n_R : Int) (h : Heap) : Prop :=
  s119l1_E (s119l1 Ψ) t (.lptr [(.int .i64 n_Kind), (.str n_Name), (.int .i64 n_L), (.int .i64 n_R)]) 0 h

def s119_A (Ψ : AVal → Heap → Prop) : Ann :=
  .seq (.reg [⟨none, [(0, true), (1, false), (2, false)]⟩])
  (.seq (.seq (rA 1)
  (.block (.loop [(0, .any), (3, .any), (6, .int .i64)] (fun n l h => s119l1_R (s119l1 Ψ n) l h) (fun L1 =>
  .seq (.seq (rA 7)
  (.cond (.leaf)
  (.leaf)))
  (.seq (.block (.seq (.draw [(0, false), (1, false), (2, false), (3, false), (4, false), (5, false), (6, false), (7, false), (8, false)] [0, 1, 3, 7, 0, 31, 63, 0, 255])
  (.cond (.seq (rA 3)
  (.leaf))
  (.leaf))))
  (rA 3))))))
  (.seq (rA 2)
  (.leaf)))

theorem s119_ok {Ψ : AVal → Heap → Prop} {t : AVal} {n_Kind : Int} {n_Name : ByteArray} {n_L : Int} {n_R : Int} {h : Heap} (H : s119 Ψ t n_Kind n_Name n_L n_R h) : ACalls prog 119 [t, (.agg [(.int .i64 n_Kind), (.str n_Name), (.int .i64 n_L), (.int .i64 n_R)])] h Ψ :=
  calls_of_evF func119 (by kernel_rfl) (by kernel_rfl) (by kernel_rfl)
    (Eq.mpr (by as_aux_lemma => kernel_rfl : oblF prog f119 (s119_A Ψ) Ψ = (True ∧ (True ∧ (∀ (h : Heap) (x0 x1 : AVal) (x2 : Int), ON (s119l1 Ψ 0 x0 x1 x2 h)) ∧ ∀ n1 : Nat, (∀ (h : Heap) (x0 x1 : AVal) (x2 : Int), OI (s119l1 Ψ (n1 + 1) x0 x1 x2 h)) ∧ ((True ∧ True ∧ True) ∧ (True ∧ (True ∧ True) ∧ True) ∧ True)) ∧ True ∧ True)) ⟨trivial, ⟨⟨trivial, ⟨fun _ _ _ _ H => H, fun _ => ⟨fun _ _ _ _ H => H, ⟨⟨trivial, ⟨trivial, trivial⟩⟩, ⟨⟨trivial, ⟨⟨trivial, trivial⟩, trivial⟩⟩, trivial⟩⟩⟩⟩⟩, ⟨trivial, trivial⟩⟩⟩)
    (Eq.mpr (by as_aux_lemma => kernel_rfl : evF prog f119 (s119_A Ψ) Ψ [t, (.agg [(.int .i64 n_Kind), (.str n_Name), (.int .i64 n_L), (.int .i64 n_R)])] h = s119 Ψ t n_Kind n_Name n_L n_R h) H)

/- 122 slices.Index[[]string,string] -/
abbrev s122l1_T := AVal → ByteArray → Int → Int → Heap → Prop
def s122l1_R (F : s122l1_T) (l : List AVal) (h : Heap) : Prop := J.cons l fun x0 l => J.cons l fun v l => J.str v fun x1 => J.cons l fun v l => J.int .i64 v fun x2 => J.cons l fun v l => J.int .i64 v fun x3 => J.nil l (F x0 x1 x2 x3 h)
def s122l1_G (F : s122l1_T) (x0 : AVal) (x1 : ByteArray) (x2 x3 : Int) (h : Heap) : Prop := gJ [.any, .str, .int .i64, .int .i64] [x0, (.str x1), (.int .i64 x2), (.int .i64 x3)] h (s122l1_R F)
def s122l1_E (F : Nat → s122l1_T) (x0 : AVal) (x1 : ByteArray) (x2 x3 : Int) (h : Heap) : Prop := gJ [.any, .str, .int .i64, .int .i64] [x0, (.str x1), (.int .i64 x2), (.int .i64 x3)] h (fun l h => ∃ n, s122l1_R (F n) l h)
theorem s122l1_go {F : s122l1_T} {x0 : AVal} {x1 : ByteArray} {x2 x3 : Int} {h : Heap} (H : F x0 x1 x2 x3 h) : s122l1_G F x0 x1 x2 x3 h := gJ_plain rfl H
theorem s122l1_in {F : Nat → s122l1_T} {x0 : AVal} {x1 : ByteArray} {x2 x3 : Int} {h : Heap} (n : Nat) (H : F n x0 x1 x2 x3 h) : s122l1_E F x0 x1 x2 x3 h := gJ_plain rfl ⟨n, H⟩

def s122l1 (Ψ : AVal → Heap → Prop) : Nat → s122l1_T
  | 0, _, _, _, _, _ => False
  | n1 + 1, s1, v1, t7, t8, h =>
    ifT (decide (t8 < t7)) (
      ixS 1 s1 t8 fun p =>
      ld1 h p fun v2 =>
      tStr v2 fun v3 =>
      ifT (strEq v1 v3) (
        retG (.int .i64 t8) h Ψ) (
        rg (t8 + 1) (
          s122l1_G (s122l1 Ψ n1) s1 v1 t7 (t8 + 1) h))) (
      retG (.int .i64 (-1)) h Ψ)

def s122 (Ψ : AVal → Heap → Prop) (s : AVal) (v : ByteArray) (h : Heap) : Prop :=
  lenN s fun n =>
  s122l1_E (s122l1 Ψ) s v n 0 h

def s122_A (Ψ : AVal → Heap → Prop) : Ann :=
  .seq (rA 1)
  (.seq (.seq (rA 3)
  (.block (.loop [(0, .any), (1, .str), (7, .int .i64), (8, .int .i64)] (fun n l h => s122l1_R (s122l1 Ψ n) l h) (fun L1 =>
  .seq (rA 1)
  (.seq (.cond (.leaf)
  (.leaf))
  (.seq (.block (.seq (rA 2)
  (.seq (rA 6)
  (.cond (.seq (rA 2)
  (.leaf))
  (.leaf)))))
  (rA 2)))))))
  (.seq (rA 1)
  (.leaf)))

theorem s122_ok {Ψ : AVal → Heap → Prop} {s : AVal} {v : ByteArray} {h : Heap} (H : s122 Ψ s v h) : ACalls prog 122 [s, (.str v)] h Ψ :=
  calls_of_evF func122 (by kernel_rfl) (by kernel_rfl) (by kernel_rfl)
    (Eq.mpr (by as_aux_lemma => kernel_rfl : oblF prog f122 (s122_A Ψ) Ψ = (True ∧ (True ∧ (∀ (h : Heap) (x0 : AVal) (x1 : ByteArray) (x2 x3 : Int), ON (s122l1 Ψ 0 x0 x1 x2 x3 h)) ∧ ∀ n1 : Nat, (∀ (h : Heap) (x0 : AVal) (x1 : ByteArray) (x2 x3 : Int), OI (s122l1 Ψ (n1 + 1) x0 x1 x2 x3 h)) ∧ (True ∧ (True ∧ True) ∧ (True ∧ True ∧ (True ∧ True) ∧ True) ∧ True)) ∧ True ∧ True)) ⟨trivial, ⟨⟨trivial, ⟨fun _ _ _ _ _ H => H, fun _ => ⟨fun _ _ _ _ _ H => H, ⟨trivial, ⟨⟨trivial, trivial⟩, ⟨⟨trivial, ⟨trivial, ⟨⟨trivial, trivial⟩, trivial⟩⟩⟩, trivial⟩⟩⟩⟩⟩⟩, ⟨trivial, trivial⟩⟩⟩)
    (Eq.mpr (by as_aux_lemma => kernel_rfl : evF prog f122 (s122_A Ψ) Ψ [s, (.str v)] h = s122 Ψ s v h) H)

/- 132 dictum/dictumref03.Reserved -/
def s132 (Ψ : AVal → Heap → Prop) (h : Heap) : Prop :=
  retG (.lsl 1 [(.str (ByteArray.mk #[97, 98, 111, 114, 116])), (.str (ByteArray.mk #[99, 97, 115, 101])), (.str (ByteArray.mk #[102, 97, 108, 115, 101])), (.str (ByteArray.mk #[102, 115, 116])), (.str (ByteArray.mk #[102, 117, 110])), (.str (ByteArray.mk #[105, 110])), (.str (ByteArray.mk #[105, 110, 108])), (.str (ByteArray.mk #[105, 110, 114])), (.str (ByteArray.mk #[108, 101, 116])), (.str (ByteArray.mk #[111, 102])), (.str (ByteArray.mk #[115, 110, 100])), (.str (ByteArray.mk #[116, 114, 117, 101]))]) h Ψ

def s132_A (Ψ : AVal → Heap → Prop) : Ann :=
  .seq (rA 1)
  (.seq (.reg [⟨none, [(0, true), (1, false)]⟩])
  (.leaf))

theorem s132_ok {Ψ : AVal → Heap → Prop} {h : Heap} (H : s132 Ψ  h) : ACalls prog 132 [] h Ψ :=
  calls_of_evF func132 (by kernel_rfl) (by kernel_rfl) (by kernel_rfl)
    (Eq.mpr (by as_aux_lemma => kernel_rfl : oblF prog f132 (s132_A Ψ) Ψ = (True ∧ True ∧ True)) ⟨trivial, ⟨trivial, trivial⟩⟩)
    (Eq.mpr (by as_aux_lemma => kernel_rfl : evF prog f132 (s132_A Ψ) Ψ [] h = s132 Ψ  h) H)

/- 140 dictum/worlds.rising -/
abbrev s140l1_T := AVal → AVal → Int → Int → Heap → Prop
def s140l1_R (F : s140l1_T) (l : List AVal) (h : Heap) : Prop := J.cons l fun x0 l => J.cons l fun x1 l => J.cons l fun v l => J.int .i64 v fun x2 => J.cons l fun v l => J.int .i64 v fun x3 => J.nil l (F x0 x1 x2 x3 h)
def s140l1_G (F : s140l1_T) (x0 x1 : AVal) (x2 x3 : Int) (h : Heap) : Prop := gJ [.any, .any, .int .i64, .int .i64] [x0, x1, (.int .i64 x2), (.int .i64 x3)] h (s140l1_R F)
def s140l1_E (F : Nat → s140l1_T) (x0 x1 : AVal) (x2 x3 : Int) (h : Heap) : Prop := gJ [.any, .any, .int .i64, .int .i64] [x0, x1, (.int .i64 x2), (.int .i64 x3)] h (fun l h => ∃ n, s140l1_R (F n) l h)
theorem s140l1_go {F : s140l1_T} {x0 x1 : AVal} {x2 x3 : Int} {h : Heap} (H : F x0 x1 x2 x3 h) : s140l1_G F x0 x1 x2 x3 h := gJ_plain rfl H
theorem s140l1_in {F : Nat → s140l1_T} {x0 x1 : AVal} {x2 x3 : Int} {h : Heap} (n : Nat) (H : F n x0 x1 x2 x3 h) : s140l1_E F x0 x1 x2 x3 h := gJ_plain rfl ⟨n, H⟩

def s140c2 (Ψ : AVal → Heap → Prop) (L1 : s140l1_T) (l_2 t5_1 : AVal) (t6_1 t7_1 : Int) (t27 : Bool) (h : Heap) : Prop :=
  ifT t27 (
    retG (.bool false) h Ψ) (
    rg (t7_1 + 1) (
      L1 l_2 t5_1 t6_1 (t7_1 + 1) h))

def s140l1 (Ψ : AVal → Heap → Prop) : Nat → s140l1_T
  | 0, _, _, _, _, _ => False
  | n1 + 1, l_1, t5, t6, t7, h =>
    ifT (decide (t7 < t6)) (
      ixS 1 t5 t7 fun p =>
      ld1 h p fun v =>
      tStr v fun v1 =>
      callG prog 143 [(.str v1)] h fun v2 h_ =>
      tBool v2 fun v3 =>
      ifT (!v3) (
        s140c2 Ψ (s140l1_G (s140l1 Ψ n1)) l_1 t5 t6 t7 true h_) (
        ifT (decide (0 < t7)) (
          rg (t7 - 1) (
            ixS 1 l_1 (t7 - 1) fun p1 =>
            ld1 h_ p1 fun v4 =>
            tStr v4 fun v5 =>
            s140c2 Ψ (s140l1_G (s140l1 Ψ n1)) l_1 t5 t6 t7 (!strLt v5 v1) h_)) (
          s140c2 Ψ (s140l1_G (s140l1 Ψ n1)) l_1 t5 t6 t7 false h_))) (
      retG (.bool true) h Ψ)

def s140 (Ψ : AVal → Heap → Prop) (l_ : AVal) (h : Heap) : Prop :=
  lenN l_ fun n =>
  s140l1_E (s140l1 Ψ) l_ l_ n 0 h

def s140_A (Ψ : AVal → Heap → Prop) : Ann :=
  .seq (rA 1)
  (.seq (.seq (rA 3)
  (.block (.loop [(0, .any), (5, .any), (6, .int .i64), (7, .int .i64)] (fun n l h => s140l1_R (s140l1 Ψ n) l h) (fun L1 =>
  .seq (rA 1)
  (.seq (.cond (.leaf)
  (.leaf))
  (.seq (.block (.seq (rA 5)
  (.cut [(0, .any), (5, .any), (6, .int .i64), (7, .int .i64), (27, .bool)] (fun l h => J.cons l fun x0 l => J.cons l fun x1 l => J.cons l fun v l => J.int .i64 v fun x2 => J.cons l fun v l => J.int .i64 v fun x3 => J.cons l fun v l => J.bool v fun x4 => J.nil l (s140c2 Ψ (fun y0 y1 y2 y3 h => L1 [y0, y1, (.int .i64 y2), (.int .i64 y3)] h) x0 x1 x2 x3 x4 h)) (.reg [⟨none, [(0, false), (1, false), (2, false), (3, false)]⟩, ⟨some (15, false), [(4, false), (5, false), (6, false)]⟩, ⟨some (18, true), [(7, false), (8, false), (9, false), (10, false), (11, false), (12, false), (13, false)]⟩, ⟨some (15, false), [(14, false)]⟩, ⟨none, [(15, false)]⟩])
  (.cond (.seq (rA 1)
  (.leaf))
  (.leaf)))))
  (rA 2)))))))
  (.seq (rA 1)
  (.leaf)))

theorem s140_ok {Ψ : AVal → Heap → Prop} {l_ : AVal} {h : Heap} (H : s140 Ψ l_ h) : ACalls prog 140 [l_] h Ψ :=
  calls_of_evF func140 (by kernel_rfl) (by kernel_rfl) (by kernel_rfl)
    (Eq.mpr (by as_aux_lemma => kernel_rfl : oblF prog f140 (s140_A Ψ) Ψ = (True ∧ (True ∧ (∀ (h : Heap) (x0 x1 : AVal) (x2 x3 : Int), ON (s140l1 Ψ 0 x0 x1 x2 x3 h)) ∧ ∀ n1 : Nat, (∀ (h : Heap) (x0 x1 : AVal) (x2 x3 : Int), OI (s140l1 Ψ (n1 + 1) x0 x1 x2 x3 h)) ∧ (True ∧ (True ∧ True) ∧ (True ∧ (True) ∧ (∀ (h : Heap) (x0 x1 : AVal) (x2 x3 : Int) (x4 : Bool), OI (s140c2 Ψ (s140l1_G (s140l1 Ψ n1)) x0 x1 x2 x3 x4 h)) ∧ ((True ∧ True) ∧ True)) ∧ True)) ∧ True ∧ True)) ⟨trivial, ⟨⟨trivial, ⟨fun _ _ _ _ _ H => H, fun _ => ⟨fun _ _ _ _ _ H => H, ⟨trivial, ⟨⟨trivial, trivial⟩, ⟨⟨trivial, ⟨trivial, fun _ _ _ _ _ _ H => H, ⟨⟨trivial, trivial⟩, trivial⟩⟩⟩, trivial⟩⟩⟩⟩⟩⟩, ⟨trivial, trivial⟩⟩⟩)
    (Eq.mpr (by as_aux_lemma => kernel_rfl : evF prog f140 (s140_A Ψ) Ψ [l_] h = s140 Ψ l_ h) H)

/- 142 dictum/worlds.looked$1 -/
def s142 (Ψ : AVal → Heap → Prop) (s : ByteArray) (c0 : AVal) (c1 : AVal) (h : Heap) : Prop :=
  addOff c0 1 fun p =>
  ld1 h p fun v =>
  ld1 h c1 fun v1 =>
  tInt .i64 v1 fun v2 =>
  ixS 1 v v2 fun p1 =>
  ld1 h p1 fun v3 =>
  callG prog 99 [v3, (.str s)] h fun v4 h_ =>
  tBool v4 fun v5 =>
  retG (.bool (!v5)) h_ Ψ

def s142_A (Ψ : AVal → Heap → Prop) : Ann :=
  .seq (rA 1)
  (.seq (rA 9)
  (.leaf))

theorem s142_ok {Ψ : AVal → Heap → Prop} {s : ByteArray} {c0 : AVal} {c1 : AVal} {h : Heap} (H : s142 Ψ s c0 c1 h) : ACalls prog 142 [(.str s), c0, c1] h Ψ :=
  calls_of_evF func142 (by kernel_rfl) (by kernel_rfl) (by kernel_rfl)
    (Eq.mpr (by as_aux_lemma => kernel_rfl : oblF prog f142 (s142_A Ψ) Ψ = (True ∧ True ∧ True)) ⟨trivial, ⟨trivial, trivial⟩⟩)
    (Eq.mpr (by as_aux_lemma => kernel_rfl : evF prog f142 (s142_A Ψ) Ψ [(.str s), c0, c1] h = s142 Ψ s c0 c1 h) H)

/- 157 dictum/worlds.reckon$1 -/
def s157 (Ψ : AVal → Heap → Prop) (a : Int) (b : Int) (c0 : AVal) (h : Heap) : Prop :=
  ld1 h c0 fun v =>
  ixS 1 v a fun p =>
  ld1 h p fun v1 =>
  ixS 1 v1 b fun p1 =>
  ld1 h p1 fun v2 =>
  tBool v2 fun v3 =>
  retG (.bool v3) h Ψ

def s157_A (Ψ : AVal → Heap → Prop) : Ann :=
  .seq (rA 1)
  (.seq (rA 8)
  (.leaf))

theorem s157_ok {Ψ : AVal → Heap → Prop} {a : Int} {b : Int} {c0 : AVal} {h : Heap} (H : s157 Ψ a b c0 h) : ACalls prog 157 [(.int .i64 a), (.int .i64 b), c0] h Ψ :=
  calls_of_evF func157 (by kernel_rfl) (by kernel_rfl) (by kernel_rfl)
    (Eq.mpr (by as_aux_lemma => kernel_rfl : oblF prog f157 (s157_A Ψ) Ψ = (True ∧ True ∧ True)) ⟨trivial, ⟨trivial, trivial⟩⟩)
    (Eq.mpr (by as_aux_lemma => kernel_rfl : evF prog f157 (s157_A Ψ) Ψ [(.int .i64 a), (.int .i64 b), c0] h = s157 Ψ a b c0 h) H)

/- 159 dictum/formula.reserved -/
def s159c1 (Ψ : AVal → Heap → Prop) (t4 : Bool) (h : Heap) : Prop :=
  ifT t4 (
    retG (.bool true) h Ψ) (
    retG (.bool false) h Ψ)

def s159 (Ψ : AVal → Heap → Prop) (s : ByteArray) (h : Heap) : Prop :=
  ifT (strEq s (ByteArray.mk #[97, 98, 111, 114, 116])) (
    s159c1 Ψ (strEq s (ByteArray.mk #[97, 98, 111, 114, 116])) h) (
    ifT (strEq s (ByteArray.mk #[99, 97, 115, 101])) (
      s159c1 Ψ (strEq s (ByteArray.mk #[99, 97, 115, 101])) h) (
      ifT (strEq s (ByteArray.mk #[102, 97, 108, 115, 101])) (
        s159c1 Ψ (strEq s (ByteArray.mk #[102, 97, 108, 115, 101])) h) (
        ifT (strEq s (ByteArray.mk #[102, 115, 116])) (
          s159c1 Ψ (strEq s (ByteArray.mk #[102, 115, 116])) h) (
          ifT (strEq s (ByteArray.mk #[102, 117, 110])) (
            s159c1 Ψ (strEq s (ByteArray.mk #[102, 117, 110])) h) (
            ifT (strEq s (ByteArray.mk #[105, 110])) (
              s159c1 Ψ (strEq s (ByteArray.mk #[105, 110])) h) (
              ifT (strEq s (ByteArray.mk #[105, 110, 108])) (
                s159c1 Ψ (strEq s (ByteArray.mk #[105, 110, 108])) h) (
                ifT (strEq s (ByteArray.mk #[105, 110, 114])) (
                  s159c1 Ψ (strEq s (ByteArray.mk #[105, 110, 114])) h) (
                  ifT (strEq s (ByteArray.mk #[108, 101, 116])) (
                    s159c1 Ψ (strEq s (ByteArray.mk #[108, 101, 116])) h) (
                    ifT (strEq s (ByteArray.mk #[111, 102])) (
                      s159c1 Ψ (strEq s (ByteArray.mk #[111, 102])) h) (
                      ifT (strEq s (ByteArray.mk #[115, 110, 100])) (
                        s159c1 Ψ (strEq s (ByteArray.mk #[115, 110, 100])) h) (
                        s159c1 Ψ (strEq s (ByteArray.mk #[116, 114, 117, 101])) h)))))))))))

def s159_A (Ψ : AVal → Heap → Prop) : Ann :=
  .seq (rA 1)
  (.seq (.seq (rA 1)
  (.block (.cut [(4, .bool)] (fun l h => J.cons l fun v l => J.bool v fun x0 => J.nil l (s159c1 Ψ x0 h)) (.seq (rA 2)
  (.cond (.leaf)
  (.seq (rA 2)
  (.cond (.leaf)
  (.seq (rA 2)
  (.cond (.leaf)
  (.seq (rA 2)
  (.cond (.leaf)
  (.seq (rA 2)
  (.cond (.leaf)
  (.seq (rA 2)
  (.cond (.leaf)
  (.seq (rA 2)
  (.cond (.leaf)
  (.seq (rA 2)
  (.cond (.leaf)
  (.seq (rA 2)
  (.cond (.leaf)
  (.seq (rA 2)
  (.cond (.leaf)
  (.seq (rA 2)
  (.cond (.leaf)
  (rA 2)))))))))))))))))))))))
  (.cond (.seq (rA 1)
  (.leaf))
  (.leaf)))))
  (.seq (rA 1)
  (.leaf)))

theorem s159_ok {Ψ : AVal → Heap → Prop} {s : ByteArray} {h : Heap} (H : s159 Ψ s h) : ACalls prog 159 [(.str s)] h Ψ :=
  calls_of_evF func159 (by kernel_rfl) (by kernel_rfl) (by kernel_rfl)
    (Eq.mpr (by as_aux_lemma => kernel_rfl : oblF prog f159 (s159_A Ψ) Ψ = (True ∧ (True ∧ (True ∧ True ∧ True ∧ True ∧ True ∧ True ∧ True ∧ True ∧ True ∧ True ∧ True ∧ True ∧ True ∧ True ∧ True ∧ True ∧ True ∧ True ∧ True ∧ True ∧ True ∧ True ∧ True) ∧ (∀ (h : Heap) (x0 : Bool), OI (s159c1 Ψ x0 h)) ∧ ((True ∧ True) ∧ True)) ∧ True ∧ True)) ⟨trivial, ⟨⟨trivial, ⟨⟨trivial, ⟨trivial, ⟨trivial, ⟨trivial, ⟨trivial, ⟨trivial, ⟨trivial, ⟨trivial, ⟨trivial, ⟨trivial, ⟨trivial, ⟨trivial, ⟨trivial, ⟨trivial, ⟨trivial, ⟨trivial, ⟨trivial, ⟨trivial, ⟨trivial, ⟨trivial, ⟨trivial, ⟨trivial, trivial⟩⟩⟩⟩⟩⟩⟩⟩⟩⟩⟩⟩⟩⟩⟩⟩⟩⟩⟩⟩⟩⟩, fun _ _ H => H, ⟨⟨trivial, trivial⟩, trivial⟩⟩⟩, ⟨trivial, trivial⟩⟩⟩)
    (Eq.mpr (by as_aux_lemma => kernel_rfl : evF prog f159 (s159_A Ψ) Ψ [(.str s)] h = s159 Ψ s h) H)

end Go.Proofs.YtljglglbfcgjpaaGreat

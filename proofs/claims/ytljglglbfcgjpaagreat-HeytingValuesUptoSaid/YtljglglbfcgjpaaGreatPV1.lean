/- The functions that the proof meets, each as a text that Lean has checked against the program. No condition. -/
import Derived.Test.YtljglglbfcgjpaaGreatM3
import Derived.Test.YtljglglbfcgjpaaGreatChecked
namespace Go.Proofs.YtljglglbfcgjpaaGreat
open Go Go.Sym Go.Proofs.Tryz
set_option maxRecDepth 100000
set_option linter.unusedVariables false

/- 6 dictum/heyting.Ups -/
abbrev s6l1_T := AVal → AVal → AVal → AVal → AVal → Int → Int → Heap → Prop
def s6l1_R (F : s6l1_T) (l : List AVal) (h : Heap) : Prop := J.cons l fun x0 l => J.cons l fun x1 l => J.cons l fun x2 l => J.cons l fun x3 l => J.cons l fun x4 l => J.cons l fun v l => J.int .i64 v fun x5 => J.cons l fun v l => J.int .i64 v fun x6 => J.nil l (F x0 x1 x2 x3 x4 x5 x6 h)
def s6l1_G (F : s6l1_T) (x0 x1 x2 x3 x4 : AVal) (x5 x6 : Int) (h : Heap) : Prop := gJ [.any, .any, .any, .any, .any, .int .i64, .int .i64] [x0, x1, x2, x3, x4, (.int .i64 x5), (.int .i64 x6)] h (s6l1_R F)
def s6l1_E (F : Nat → s6l1_T) (x0 x1 x2 x3 x4 : AVal) (x5 x6 : Int) (h : Heap) : Prop := gJ [.any, .any, .any, .any, .any, .int .i64, .int .i64] [x0, x1, x2, x3, x4, (.int .i64 x5), (.int .i64 x6)] h (fun l h => ∃ n, s6l1_R (F n) l h)
theorem s6l1_go {F : s6l1_T} {x0 x1 x2 x3 x4 : AVal} {x5 x6 : Int} {h : Heap} (H : F x0 x1 x2 x3 x4 x5 x6 h) : s6l1_G F x0 x1 x2 x3 x4 x5 x6 h := gJ_plain rfl H
theorem s6l1_in {F : Nat → s6l1_T} {x0 x1 x2 x3 x4 : AVal} {x5 x6 : Int} {h : Heap} (n : Nat) (H : F n x0 x1 x2 x3 x4 x5 x6 h) : s6l1_E F x0 x1 x2 x3 x4 x5 x6 h := gJ_plain rfl ⟨n, H⟩

abbrev s6l2_T := AVal → AVal → AVal → AVal → ByteArray → AVal → AVal → Int → Int → Int → Int → Heap → Prop
def s6l2_R (F : s6l2_T) (l : List AVal) (h : Heap) : Prop := J.cons l fun x0 l => J.cons l fun x1 l => J.cons l fun x2 l => J.cons l fun x3 l => J.cons l fun v l => J.str v fun x4 => J.cons l fun x5 l => J.cons l fun x6 l => J.cons l fun v l => J.int .i64 v fun x7 => J.cons l fun v l => J.int .i64 v fun x8 => J.cons l fun v l => J.int .i64 v fun x9 => J.cons l fun v l => J.int .i64 v fun x10 => J.nil l (F x0 x1 x2 x3 x4 x5 x6 x7 x8 x9 x10 h)
def s6l2_G (F : s6l2_T) (x0 x1 x2 x3 : AVal) (x4 : ByteArray) (x5 x6 : AVal) (x7 x8 x9 x10 : Int) (h : Heap) : Prop := gJ [.any, .any, .any, .any, .str, .any, .any, .int .i64, .int .i64, .int .i64, .int .i64] [x0, x1, x2, x3, (.str x4), x5, x6, (.int .i64 x7), (.int .i64 x8), (.int .i64 x9), (.int .i64 x10)] h (s6l2_R F)
def s6l2_E (F : Nat → s6l2_T) (x0 x1 x2 x3 : AVal) (x4 : ByteArray) (x5 x6 : AVal) (x7 x8 x9 x10 : Int) (h : Heap) : Prop := gJ [.any, .any, .any, .any, .str, .any, .any, .int .i64, .int .i64, .int .i64, .int .i64] [x0, x1, x2, x3, (.str x4), x5, x6, (.int .i64 x7), (.int .i64 x8), (.int .i64 x9), (.int .i64 x10)] h (fun l h => ∃ n, s6l2_R (F n) l h)
theorem s6l2_go {F : s6l2_T} {x0 x1 x2 x3 : AVal} {x4 : ByteArray} {x5 x6 : AVal} {x7 x8 x9 x10 : Int} {h : Heap} (H : F x0 x1 x2 x3 x4 x5 x6 x7 x8 x9 x10 h) : s6l2_G F x0 x1 x2 x3 x4 x5 x6 x7 x8 x9 x10 h := gJ_plain rfl H
theorem s6l2_in {F : Nat → s6l2_T} {x0 x1 x2 x3 : AVal} {x4 : ByteArray} {x5 x6 : AVal} {x7 x8 x9 x10 : Int} {h : Heap} (n : Nat) (H : F n x0 x1 x2 x3 x4 x5 x6 x7 x8 x9 x10 h) : s6l2_E F x0 x1 x2 x3 x4 x5 x6 x7 x8 x9 x10 h := gJ_plain rfl ⟨n, H⟩

def s6c3 (Ψ : AVal → Heap → Prop) (L1 : s6l1_T) (L2 : s6l2_T) (t2_2 l_7 a2 sets2 : AVal) (x1 : ByteArray) (in_1 t25_2 : AVal) (t26_2 t27_2 t32_1 t33_1 : Int) (h : Heap) : Prop :=
  rg (t33_1 + 1) (
    L2 t2_2 l_7 a2 sets2 x1 in_1 t25_2 t26_2 t27_2 t32_1 (t33_1 + 1) h)

abbrev s6l4_T := AVal → AVal → AVal → AVal → AVal → AVal → AVal → Int → Int → AVal → Int → Int → Heap → Prop
def s6l4_R (F : s6l4_T) (l : List AVal) (h : Heap) : Prop := J.cons l fun x0 l => J.cons l fun x1 l => J.cons l fun x2 l => J.cons l fun x3 l => J.cons l fun x4 l => J.cons l fun x5 l => J.cons l fun x6 l => J.cons l fun v l => J.int .i64 v fun x7 => J.cons l fun v l => J.int .i64 v fun x8 => J.cons l fun x9 l => J.cons l fun v l => J.int .i64 v fun x10 => J.cons l fun v l => J.int .i64 v fun x11 => J.nil l (F x0 x1 x2 x3 x4 x5 x6 x7 x8 x9 x10 x11 h)
def s6l4_G (F : s6l4_T) (x0 x1 x2 x3 x4 x5 x6 : AVal) (x7 x8 : Int) (x9 : AVal) (x10 x11 : Int) (h : Heap) : Prop := gJ [.any, .any, .any, .any, .any, .any, .any, .int .i64, .int .i64, .any, .int .i64, .int .i64] [x0, x1, x2, x3, x4, x5, x6, (.int .i64 x7), (.int .i64 x8), x9, (.int .i64 x10), (.int .i64 x11)] h (s6l4_R F)
def s6l4_E (F : Nat → s6l4_T) (x0 x1 x2 x3 x4 x5 x6 : AVal) (x7 x8 : Int) (x9 : AVal) (x10 x11 : Int) (h : Heap) : Prop := gJ [.any, .any, .any, .any, .any, .any, .any, .int .i64, .int .i64, .any, .int .i64, .int .i64] [x0, x1, x2, x3, x4, x5, x6, (.int .i64 x7), (.int .i64 x8), x9, (.int .i64 x10), (.int .i64 x11)] h (fun l h => ∃ n, s6l4_R (F n) l h)
theorem s6l4_go {F : s6l4_T} {x0 x1 x2 x3 x4 x5 x6 : AVal} {x7 x8 : Int} {x9 : AVal} {x10 x11 : Int} {h : Heap} (H : F x0 x1 x2 x3 x4 x5 x6 x7 x8 x9 x10 x11 h) : s6l4_G F x0 x1 x2 x3 x4 x5 x6 x7 x8 x9 x10 x11 h := gJ_plain rfl H
theorem s6l4_in {F : Nat → s6l4_T} {x0 x1 x2 x3 x4 x5 x6 : AVal} {x7 x8 : Int} {x9 : AVal} {x10 x11 : Int} {h : Heap} (n : Nat) (H : F n x0 x1 x2 x3 x4 x5 x6 x7 x8 x9 x10 x11 h) : s6l4_E F x0 x1 x2 x3 x4 x5 x6 x7 x8 x9 x10 x11 h := gJ_plain rfl ⟨n, H⟩

def s6l4 (Ψ : AVal → Heap → Prop) (L1 : s6l1_T) : Nat → s6l4_T
  | 0, _, _, _, _, _, _, _, _, _, _, _, _, _ => False
  | n4 + 1, t2_3, l_8, a3, sets3, in_2, row, t25_3, t26_3, t27_3, t45, t46, t47, h =>
    ifT (decide (t47 < t46)) (
      ixS 1 t45 t47 fun p1 =>
      ld1 h p1 fun v8 =>
      tStr v8 fun v9 =>
      callG prog 28 [(.str v9), in_2] h fun v10 h_5 =>
      tStr v10 fun v11 =>
      appC 1 1 h_5 row (.lsl 1 [(.bool (strEq v11 v9))]) fun v12 h_6 =>
      rg (t47 + 1) (
        s6l4_G (s6l4 Ψ L1 n4) t2_3 l_8 a3 sets3 in_2 v12 t25_3 t26_3 t27_3 t45 t46 (t47 + 1) h_6)) (
      chk (sc in_2) (
        appC 1 24 h sets3 (.lsl 1 [in_2]) fun v13 h_7 =>
        addOff a3 0 fun p2 =>
        ld1 h_7 p2 fun v14 =>
        chk (sc row) (
          appC 1 24 h_7 v14 (.lsl 1 [row]) fun v15 h_8 =>
          addOff a3 0 fun p3 =>
          chk (sc v15) (
            st true h_8 p3 [v15] fun h_9 =>
            rg (t27_3 + 1) (
              L1 t2_3 l_8 a3 v13 t25_3 t26_3 (t27_3 + 1) h_9)))))

def s6l2 (Ψ : AVal → Heap → Prop) (L1 : s6l1_T) : Nat → s6l2_T
  | 0, _, _, _, _, _, _, _, _, _, _, _, _ => False
  | n2 + 1, t2_1, l_6, a1, sets1, x, in_, t25_1, t26_1, t27_1, t32, t33, h =>
    ifT (decide (t33 < t32)) (
      ((0 : Int) ≤ t33 ∧ t33 < (x.size : Int)) ∧
      ifT ((btA x t33) == 1) (
        appC 1 8 h in_ (.lsl 1 [(.int .i64 t33)]) fun v7 h_4 =>
        s6c3 Ψ L1 (s6l2_G (s6l2 Ψ L1 n2)) t2_1 l_6 a1 sets1 x v7 t25_1 t26_1 t27_1 t32 t33 h_4) (
        s6c3 Ψ L1 (s6l2_G (s6l2 Ψ L1 n2)) t2_1 l_6 a1 sets1 x in_ t25_1 t26_1 t27_1 t32 t33 h)) (
      lenN l_6 fun n3 =>
      s6l4_E (s6l4 Ψ L1) t2_1 l_6 a1 sets1 in_ .nilsl t25_1 t26_1 t27_1 l_6 n3 0 h)

def s6l1 (Ψ : AVal → Heap → Prop) : Nat → s6l1_T
  | 0, _, _, _, _, _, _, _, _ => False
  | n1 + 1, t2, l_5, a, sets, t25, t26, t27, h =>
    ifT (decide (t27 < t26)) (
      ixS 1 t25 t27 fun p =>
      ld1 h p fun v5 =>
      tStr v5 fun v6 =>
      s6l2_E (s6l2 Ψ (s6l1_G (s6l1 Ψ n1))) t2 l_5 a sets v6 .nilsl t25 t26 t27 (v6.size : Int) 0 h) (
      ldN 1 h a fun l_9 =>
      tCons l_9 fun v16 l_10 =>
      tNil l_10 (
        st false h t2 [v16] fun h_10 =>
        ldN 1 h_10 t2 fun l_11 =>
        tCons l_11 fun v17 l_12 =>
        tNil l_12 (
          retG (.tuple [(.agg [v17]), sets, (.int .i64 0)]) h_10 Ψ)))

def s6 (Ψ : AVal → Heap → Prop) (m_Up : AVal) (m_Val : AVal) (h : Heap) : Prop :=
  Sym.newRow 1 [(.agg [.nilsl])] h fun r h_ =>
  callG prog 27 [(.agg [m_Up, m_Val])] h_ fun v h_1 =>
  tTup v fun l_ =>
  tCons l_ fun v1 l_1 =>
  tCons l_1 fun v2 l_2 =>
  tInt .i64 v2 fun v3 =>
  tNil l_2 (
    ifT (v3 != 0) (
      st false h_1 (.ptr r 0 0) [.nilsl] fun h_2 =>
      ldN 1 h_2 (.ptr r 0 0) fun l_3 =>
      tCons l_3 fun v4 l_4 =>
      tNil l_4 (
        retG (.tuple [(.agg [v4]), .nilsl, (.int .i64 v3)]) h_2 Ψ)) (
      Sym.newRow 1 [(.agg [.nilsl])] h_1 fun r1 h_3 =>
      lenN v1 fun n =>
      s6l1_E (s6l1 Ψ) (.ptr r 0 0) v1 (.ptr r1 0 0) .nilsl v1 n 0 h_3))

def s6_A (Ψ : AVal → Heap → Prop) : Ann :=
  .seq (.reg [⟨none, [(0, true), (1, false), (2, false), (3, false)]⟩])
  (.seq (rA 7)
  (.seq (.seq (rA 2)
  (.cond (.seq (rA 5)
  (.leaf))
  (.leaf)))
  (.seq (rA 1)
  (.seq (rA 1)
  (.seq (.seq (rA 3)
  (.block (.loop [(2, .any), (5, .any), (7, .any), (8, .any), (25, .any), (26, .int .i64), (27, .int .i64)] (fun n l h => s6l1_R (s6l1 Ψ n) l h) (fun L1 =>
  .seq (rA 1)
  (.seq (.cond (.leaf)
  (.leaf))
  (.seq (.block (.seq (rA 3)
  (.seq (rA 1)
  (.seq (.seq (rA 3)
  (.block (.loop [(2, .any), (5, .any), (7, .any), (8, .any), (10, .str), (11, .any), (25, .any), (26, .int .i64), (27, .int .i64), (32, .int .i64), (33, .int .i64)] (fun n l h => s6l2_R (s6l2 Ψ (fun y0 y1 y2 y3 y4 y5 y6 h => L1 [y0, y1, y2, y3, y4, (.int .i64 y5), (.int .i64 y6)] h) n) l h) (fun L2 =>
  .seq (rA 1)
  (.seq (.cond (.leaf)
  (.leaf))
  (.cut [(2, .any), (5, .any), (7, .any), (8, .any), (10, .str), (11, .any), (25, .any), (26, .int .i64), (27, .int .i64), (32, .int .i64), (33, .int .i64)] (fun l h => J.cons l fun x0 l => J.cons l fun x1 l => J.cons l fun x2 l => J.cons l fun x3 l => J.cons l fun v l => J.str v fun x4 => J.cons l fun x5 l => J.cons l fun x6 l => J.cons l fun v l => J.int .i64 v fun x7 => J.cons l fun v l => J.int .i64 v fun x8 => J.cons l fun v l => J.int .i64 v fun x9 => J.cons l fun v l => J.int .i64 v fun x10 => J.nil l (s6c3 Ψ (fun y0 y1 y2 y3 y4 y5 y6 h => L1 [y0, y1, y2, y3, y4, (.int .i64 y5), (.int .i64 y6)] h) (fun y0 y1 y2 y3 y4 y5 y6 y7 y8 y9 y10 h => L2 [y0, y1, y2, y3, (.str y4), y5, y6, (.int .i64 y7), (.int .i64 y8), (.int .i64 y9), (.int .i64 y10)] h) x0 x1 x2 x3 x4 x5 x6 x7 x8 x9 x10 h)) (.block (.seq (rA 2)
  (.seq (rA 4)
  (.cond (.reg [⟨none, [(0, false), (1, false), (2, true), (3, false), (4, false)]⟩])
  (.leaf)))))
  (rA 2)))))))
  (.seq (rA 1)
  (.seq (.seq (rA 3)
  (.block (.loop [(2, .any), (5, .any), (7, .any), (8, .any), (11, .any), (13, .any), (25, .any), (26, .int .i64), (27, .int .i64), (45, .any), (46, .int .i64), (47, .int .i64)] (fun n l h => s6l4_R (s6l4 Ψ (fun y0 y1 y2 y3 y4 y5 y6 h => L1 [y0, y1, y2, y3, y4, (.int .i64 y5), (.int .i64 y6)] h) n) l h) (fun L4 =>
  .seq (rA 1)
  (.seq (.cond (.leaf)
  (.leaf))
  (.seq (.block (.seq (rA 3)
  (.reg [⟨none, [(0, false), (1, false), (2, false), (3, false), (4, false), (5, false), (6, true), (7, false), (8, false)]⟩])))
  (rA 2)))))))
  (.seq (.reg [⟨none, [(0, false), (1, false), (2, true), (3, false), (4, false)]⟩])
  (.reg [⟨none, [(0, false), (1, false), (2, false), (3, true), (4, false), (5, false), (6, false)]⟩]))))))))
  (rA 2)))))))
  (.seq (rA 5)
  (.leaf)))))))

theorem s6_ok {Ψ : AVal → Heap → Prop} {m_Up : AVal} {m_Val : AVal} {h : Heap} (H : s6 Ψ m_Up m_Val h) : ACalls prog 6 [(.agg [m_Up, m_Val])] h Ψ :=
  calls_of_evF func6 (by kernel_rfl) (by kernel_rfl) (by kernel_rfl)
    (Eq.mpr (by as_aux_lemma => kernel_rfl : oblF prog f6 (s6_A Ψ) Ψ = (True ∧ True ∧ (True ∧ (True ∧ True) ∧ True) ∧ True ∧ True ∧ (True ∧ (∀ (h : Heap) (x0 x1 x2 x3 x4 : AVal) (x5 x6 : Int), ON (s6l1 Ψ 0 x0 x1 x2 x3 x4 x5 x6 h)) ∧ ∀ n1 : Nat, (∀ (h : Heap) (x0 x1 x2 x3 x4 : AVal) (x5 x6 : Int), OI (s6l1 Ψ (n1 + 1) x0 x1 x2 x3 x4 x5 x6 h)) ∧ (True ∧ (True ∧ True) ∧ (True ∧ True ∧ (True ∧ (∀ (h : Heap) (x0 x1 x2 x3 : AVal) (x4 : ByteArray) (x5 x6 : AVal) (x7 x8 x9 x10 : Int), ON (s6l2 Ψ (s6l1_G (s6l1 Ψ n1)) 0 x0 x1 x2 x3 x4 x5 x6 x7 x8 x9 x10 h)) ∧ ∀ n2 : Nat, (∀ (h : Heap) (x0 x1 x2 x3 : AVal) (x4 : ByteArray) (x5 x6 : AVal) (x7 x8 x9 x10 : Int), OI (s6l2 Ψ (s6l1_G (s6l1 Ψ n1)) (n2 + 1) x0 x1 x2 x3 x4 x5 x6 x7 x8 x9 x10 h)) ∧ (True ∧ (True ∧ True) ∧ (True ∧ True ∧ True ∧ True) ∧ (∀ (h : Heap) (x0 x1 x2 x3 : AVal) (x4 : ByteArray) (x5 x6 : AVal) (x7 x8 x9 x10 : Int), OI (s6c3 Ψ (s6l1_G (s6l1 Ψ n1)) (s6l2_G (s6l2 Ψ (s6l1_G (s6l1 Ψ n1)) n2)) x0 x1 x2 x3 x4 x5 x6 x7 x8 x9 x10 h)) ∧ (True))) ∧ True ∧ (True ∧ (∀ (h : Heap) (x0 x1 x2 x3 x4 x5 x6 : AVal) (x7 x8 : Int) (x9 : AVal) (x10 x11 : Int), ON (s6l4 Ψ (s6l1_G (s6l1 Ψ n1)) 0 x0 x1 x2 x3 x4 x5 x6 x7 x8 x9 x10 x11 h)) ∧ ∀ n4 : Nat, (∀ (h : Heap) (x0 x1 x2 x3 x4 x5 x6 : AVal) (x7 x8 : Int) (x9 : AVal) (x10 x11 : Int), OI (s6l4 Ψ (s6l1_G (s6l1 Ψ n1)) (n4 + 1) x0 x1 x2 x3 x4 x5 x6 x7 x8 x9 x10 x11 h)) ∧ (True ∧ (True ∧ True) ∧ (True ∧ True) ∧ True)) ∧ True ∧ True) ∧ True)) ∧ True ∧ True)) ⟨trivial, ⟨trivial, ⟨⟨trivial, ⟨⟨trivial, trivial⟩, trivial⟩⟩, ⟨trivial, ⟨trivial, ⟨⟨trivial, ⟨fun _ _ _ _ _ _ _ _ H => H, fun _ => ⟨fun _ _ _ _ _ _ _ _ H => H, ⟨trivial, ⟨⟨trivial, trivial⟩, ⟨⟨trivial, ⟨trivial, ⟨⟨trivial, ⟨fun _ _ _ _ _ _ _ _ _ _ _ _ H => H, fun _ => ⟨fun _ _ _ _ _ _ _ _ _ _ _ _ H => H, ⟨trivial, ⟨⟨trivial, trivial⟩, ⟨⟨trivial, ⟨trivial, ⟨trivial, trivial⟩⟩⟩, fun _ _ _ _ _ _ _ _ _ _ _ _ H => H, trivial⟩⟩⟩⟩⟩⟩, ⟨trivial, ⟨⟨trivial, ⟨fun _ _ _ _ _ _ _ _ _ _ _ _ _ H => H, fun _ => ⟨fun _ _ _ _ _ _ _ _ _ _ _ _ _ H => H, ⟨trivial, ⟨⟨trivial, trivial⟩, ⟨⟨trivial, trivial⟩, trivial⟩⟩⟩⟩⟩⟩, ⟨trivial, trivial⟩⟩⟩⟩⟩⟩, trivial⟩⟩⟩⟩⟩⟩, ⟨trivial, trivial⟩⟩⟩⟩⟩⟩⟩)
    (Eq.mpr (by as_aux_lemma => kernel_rfl : evF prog f6 (s6_A Ψ) Ψ [(.agg [m_Up, m_Val])] h = s6 Ψ m_Up m_Val h) H)

/- 12 dictum/dictumlaw23.hyps -/
abbrev s12l1_T := AVal → AVal → Int → Heap → Prop
def s12l1_R (F : s12l1_T) (l : List AVal) (h : Heap) : Prop := J.cons l fun x0 l => J.cons l fun x1 l => J.cons l fun v l => J.int .i64 v fun x2 => J.nil l (F x0 x1 x2 h)
def s12l1_G (F : s12l1_T) (x0 x1 : AVal) (x2 : Int) (h : Heap) : Prop := gJ [.any, .any, .int .i64] [x0, x1, (.int .i64 x2)] h (s12l1_R F)
def s12l1_E (F : Nat → s12l1_T) (x0 x1 : AVal) (x2 : Int) (h : Heap) : Prop := gJ [.any, .any, .int .i64] [x0, x1, (.int .i64 x2)] h (fun l h => ∃ n, s12l1_R (F n) l h)
theorem s12l1_go {F : s12l1_T} {x0 x1 : AVal} {x2 : Int} {h : Heap} (H : F x0 x1 x2 h) : s12l1_G F x0 x1 x2 h := gJ_plain rfl H
theorem s12l1_in {F : Nat → s12l1_T} {x0 x1 : AVal} {x2 : Int} {h : Heap} (n : Nat) (H : F n x0 x1 x2 h) : s12l1_E F x0 x1 x2 h := gJ_plain rfl ⟨n, H⟩

def s12l1 (Ψ : AVal → Heap → Prop) : Nat → s12l1_T
  | 0, _, _, _, _ => False
  | n2 + 1, a1, b1, i, h =>
    lenN a1 fun n3 =>
    ifT (decide (i < n3)) (
      ixS 2 a1 i fun p =>
      ldN 2 h p fun l_ =>
      tCons l_ fun v l_1 =>
      tStr v fun v1 =>
      tCons l_1 fun v2 l_2 =>
      tInt .i64 v2 fun v3 =>
      tNil l_2 (
        ixS 2 b1 i fun p1 =>
        ldN 2 h p1 fun l_3 =>
        tCons l_3 fun v4 l_4 =>
        tStr v4 fun v5 =>
        tCons l_4 fun v6 l_5 =>
        tInt .i64 v6 fun v7 =>
        tNil l_5 (
          eqQ prog 73 (.agg [(.str v1), (.int .i64 v3)]) (.agg [(.str v5), (.int .i64 v7)]) fun b2 =>
          ifT (!b2) (
            retG (.bool false) h Ψ) (
            rg (i + 1) (
              s12l1_G (s12l1 Ψ n2) a1 b1 (i + 1) h))))) (
      retG (.bool true) h Ψ)

def s12 (Ψ : AVal → Heap → Prop) (a : AVal) (b : AVal) (h : Heap) : Prop :=
  lenN a fun n =>
  lenN b fun n1 =>
  ifT (n != n1) (
    retG (.bool false) h Ψ) (
    s12l1_E (s12l1 Ψ) a b 0 h)

def s12_A (Ψ : AVal → Heap → Prop) : Ann :=
  .seq (rA 1)
  (.seq (.seq (rA 5)
  (.cond (.seq (rA 1)
  (.leaf))
  (.leaf)))
  (.seq (.seq (rA 1)
  (.block (.loop [(0, .any), (1, .any), (5, .int .i64)] (fun n l h => s12l1_R (s12l1 Ψ n) l h) (fun L1 =>
  .seq (.seq (rA 4)
  (.cond (.leaf)
  (.leaf)))
  (.seq (.block (.seq (.draw [(0, false), (1, false), (2, false), (3, false), (4, false), (5, false), (6, false), (7, false), (8, false)] [0, 0, 3, 7, 0, 0, 48, 112, 255])
  (.cond (.seq (rA 1)
  (.leaf))
  (.leaf))))
  (rA 3))))))
  (.seq (rA 1)
  (.leaf))))

theorem s12_ok {Ψ : AVal → Heap → Prop} {a : AVal} {b : AVal} {h : Heap} (H : s12 Ψ a b h) : ACalls prog 12 [a, b] h Ψ :=
  calls_of_evF func12 (by kernel_rfl) (by kernel_rfl) (by kernel_rfl)
    (Eq.mpr (by as_aux_lemma => kernel_rfl : oblF prog f12 (s12_A Ψ) Ψ = (True ∧ (True ∧ (True ∧ True) ∧ True) ∧ (True ∧ (∀ (h : Heap) (x0 x1 : AVal) (x2 : Int), ON (s12l1 Ψ 0 x0 x1 x2 h)) ∧ ∀ n1 : Nat, (∀ (h : Heap) (x0 x1 : AVal) (x2 : Int), OI (s12l1 Ψ (n1 + 1) x0 x1 x2 h)) ∧ ((True ∧ True ∧ True) ∧ (True ∧ (True ∧ True) ∧ True) ∧ True)) ∧ True ∧ True)) ⟨trivial, ⟨⟨trivial, ⟨⟨trivial, trivial⟩, trivial⟩⟩, ⟨⟨trivial, ⟨fun _ _ _ _ H => H, fun _ => ⟨fun _ _ _ _ H => H, ⟨⟨trivial, ⟨trivial, trivial⟩⟩, ⟨⟨trivial, ⟨⟨trivial, trivial⟩, trivial⟩⟩, trivial⟩⟩⟩⟩⟩, ⟨trivial, trivial⟩⟩⟩⟩)
    (Eq.mpr (by as_aux_lemma => kernel_rfl : evF prog f12 (s12_A Ψ) Ψ [a, b] h = s12 Ψ a b h) H)

/- 15 dictum/heyting.Chain -/
abbrev s15l2_T := Int → AVal → AVal → Int → Int → Heap → Prop
def s15l2_R (F : s15l2_T) (l : List AVal) (h : Heap) : Prop := J.cons l fun v l => J.int .i64 v fun x0 => J.cons l fun x1 l => J.cons l fun x2 l => J.cons l fun v l => J.int .i64 v fun x3 => J.cons l fun v l => J.int .i64 v fun x4 => J.nil l (F x0 x1 x2 x3 x4 h)
def s15l2_G (F : s15l2_T) (x0 : Int) (x1 x2 : AVal) (x3 x4 : Int) (h : Heap) : Prop := gJ [.int .i64, .any, .any, .int .i64, .int .i64] [(.int .i64 x0), x1, x2, (.int .i64 x3), (.int .i64 x4)] h (s15l2_R F)
def s15l2_E (F : Nat → s15l2_T) (x0 : Int) (x1 x2 : AVal) (x3 x4 : Int) (h : Heap) : Prop := gJ [.int .i64, .any, .any, .int .i64, .int .i64] [(.int .i64 x0), x1, x2, (.int .i64 x3), (.int .i64 x4)] h (fun l h => ∃ n, s15l2_R (F n) l h)
theorem s15l2_go {F : s15l2_T} {x0 : Int} {x1 x2 : AVal} {x3 x4 : Int} {h : Heap} (H : F x0 x1 x2 x3 x4 h) : s15l2_G F x0 x1 x2 x3 x4 h := gJ_plain rfl H
theorem s15l2_in {F : Nat → s15l2_T} {x0 : Int} {x1 x2 : AVal} {x3 x4 : Int} {h : Heap} (n : Nat) (H : F n x0 x1 x2 x3 x4 h) : s15l2_E F x0 x1 x2 x3 x4 h := gJ_plain rfl ⟨n, H⟩

abbrev s15l3_T := Int → AVal → AVal → AVal → Int → Int → Int → Heap → Prop
def s15l3_R (F : s15l3_T) (l : List AVal) (h : Heap) : Prop := J.cons l fun v l => J.int .i64 v fun x0 => J.cons l fun x1 l => J.cons l fun x2 l => J.cons l fun x3 l => J.cons l fun v l => J.int .i64 v fun x4 => J.cons l fun v l => J.int .i64 v fun x5 => J.cons l fun v l => J.int .i64 v fun x6 => J.nil l (F x0 x1 x2 x3 x4 x5 x6 h)
def s15l3_G (F : s15l3_T) (x0 : Int) (x1 x2 x3 : AVal) (x4 x5 x6 : Int) (h : Heap) : Prop := gJ [.int .i64, .any, .any, .any, .int .i64, .int .i64, .int .i64] [(.int .i64 x0), x1, x2, x3, (.int .i64 x4), (.int .i64 x5), (.int .i64 x6)] h (s15l3_R F)
def s15l3_E (F : Nat → s15l3_T) (x0 : Int) (x1 x2 x3 : AVal) (x4 x5 x6 : Int) (h : Heap) : Prop := gJ [.int .i64, .any, .any, .any, .int .i64, .int .i64, .int .i64] [(.int .i64 x0), x1, x2, x3, (.int .i64 x4), (.int .i64 x5), (.int .i64 x6)] h (fun l h => ∃ n, s15l3_R (F n) l h)
theorem s15l3_go {F : s15l3_T} {x0 : Int} {x1 x2 x3 : AVal} {x4 x5 x6 : Int} {h : Heap} (H : F x0 x1 x2 x3 x4 x5 x6 h) : s15l3_G F x0 x1 x2 x3 x4 x5 x6 h := gJ_plain rfl H
theorem s15l3_in {F : Nat → s15l3_T} {x0 : Int} {x1 x2 x3 : AVal} {x4 x5 x6 : Int} {h : Heap} (n : Nat) (H : F n x0 x1 x2 x3 x4 x5 x6 h) : s15l3_E F x0 x1 x2 x3 x4 x5 x6 h := gJ_plain rfl ⟨n, H⟩

def s15l3 (Ψ : AVal → Heap → Prop) (L2 : s15l2_T) : Nat → s15l3_T
  | 0, _, _, _, _, _, _, _, _ => False
  | n5 + 1, n4, t2_2, a1, row, y, t15_1, t16_1, h =>
    ifT (decide (y < n4)) (
      ixS 1 row y fun p =>
      st true h p [(.bool true)] fun h_4 =>
      rg (y + 1) (
        s15l3_G (s15l3 Ψ L2 n5) n4 t2_2 a1 row (y + 1) t15_1 t16_1 h_4)) (
      addOff a1 0 fun p1 =>
      ld1 h p1 fun v2 =>
      chk (sc row) (
        appC 1 24 h v2 (.lsl 1 [row]) fun v3 h_5 =>
        addOff a1 0 fun p2 =>
        chk (sc v3) (
          st true h_5 p2 [v3] fun h_6 =>
          rg (t16_1 + 1) (
            L2 n4 t2_2 a1 t15_1 (t16_1 + 1) h_6))))

def s15l2 (Ψ : AVal → Heap → Prop) : Nat → s15l2_T
  | 0, _, _, _, _, _, _ => False
  | n3 + 1, n2, t2_1, a, t15, t16, h =>
    ifT (decide (t16 < t15)) (
      mkS false 1 1 (.bool false) h n2 n2 fun v1 h_3 =>
      s15l3_E (s15l3 Ψ (s15l2_G (s15l2 Ψ n3))) n2 t2_1 a v1 t16 t15 t16 h_3) (
      ldN 1 h a fun l_2 =>
      tCons l_2 fun v4 l_3 =>
      tNil l_3 (
        st false h t2_1 [v4] fun h_7 =>
        ldN 1 h_7 t2_1 fun l_4 =>
        tCons l_4 fun v5 l_5 =>
        tNil l_5 (
          retG (.tuple [(.agg [v5]), (.int .i64 0)]) h_7 Ψ)))

def s15c1 (Ψ : AVal → Heap → Prop) (n1 : Int) (t2 : AVal) (t13 : Bool) (h : Heap) : Prop :=
  ifT t13 (
    st false h t2 [.nilsl] fun h_1 =>
    ldN 1 h_1 t2 fun l_ =>
    tCons l_ fun v l_1 =>
    tNil l_1 (
      retG (.tuple [(.agg [v]), (.int .i64 2)]) h_1 Ψ)) (
    Sym.newRow 1 [(.agg [.nilsl])] h fun r1 h_2 =>
    s15l2_E (s15l2 Ψ) n1 t2 (.ptr r1 0 0) n1 0 h_2)

def s15 (Ψ : AVal → Heap → Prop) (n : Int) (h : Heap) : Prop :=
  Sym.newRow 1 [(.agg [.nilsl])] h fun r h_ =>
  ifT (decide (n < 1)) (
    s15c1 Ψ n (.ptr r 0 0) true h_) (
    s15c1 Ψ n (.ptr r 0 0) (decide (64 < n)) h_)

def s15_A (Ψ : AVal → Heap → Prop) : Ann :=
  .seq (rA 2)
  (.seq (.cut [(0, .int .i64), (2, .any), (13, .bool)] (fun l h => J.cons l fun v l => J.int .i64 v fun x0 => J.cons l fun x1 l => J.cons l fun v l => J.bool v fun x2 => J.nil l (s15c1 Ψ x0 x1 x2 h)) (.reg [⟨none, [(0, false), (1, false), (2, false)]⟩, ⟨some (10, false), [(3, false), (4, false)]⟩, ⟨none, [(5, false)]⟩])
  (.cond (.seq (rA 3)
  (.leaf))
  (.leaf)))
  (.seq (rA 1)
  (.seq (.seq (rA 2)
  (.block (.loop [(0, .int .i64), (2, .any), (4, .any), (15, .int .i64), (16, .int .i64)] (fun n l h => s15l2_R (s15l2 Ψ n) l h) (fun L2 =>
  .seq (rA 1)
  (.seq (.cond (.leaf)
  (.leaf))
  (.seq (.block (.seq (rA 2)
  (.seq (rA 3)
  (.seq (.seq (rA 2)
  (.block (.loop [(0, .int .i64), (2, .any), (4, .any), (6, .any), (7, .int .i64), (15, .int .i64), (16, .int .i64)] (fun n l h => s15l3_R (s15l3 Ψ (fun y0 y1 y2 y3 y4 h => L2 [(.int .i64 y0), y1, y2, (.int .i64 y3), (.int .i64 y4)] h) n) l h) (fun L3 =>
  .seq (.seq (rA 3)
  (.cond (.leaf)
  (.leaf)))
  (.seq (.block (rA 4))
  (rA 3))))))
  (.reg [⟨none, [(0, false), (1, false), (2, false), (3, true), (4, false), (5, false), (6, false)]⟩])))))
  (rA 2)))))))
  (.seq (rA 3)
  (.leaf)))))

theorem s15_ok {Ψ : AVal → Heap → Prop} {n : Int} {h : Heap} (H : s15 Ψ n h) : ACalls prog 15 [(.int .i64 n)] h Ψ :=
  calls_of_evF func15 (by kernel_rfl) (by kernel_rfl) (by kernel_rfl)
    (Eq.mpr (by as_aux_lemma => kernel_rfl : oblF prog f15 (s15_A Ψ) Ψ = (True ∧ ((True) ∧ (∀ (h : Heap) (x0 : Int) (x1 : AVal) (x2 : Bool), OI (s15c1 Ψ x0 x1 x2 h)) ∧ ((True ∧ True) ∧ True)) ∧ True ∧ (True ∧ (∀ (h : Heap) (x0 : Int) (x1 x2 : AVal) (x3 x4 : Int), ON (s15l2 Ψ 0 x0 x1 x2 x3 x4 h)) ∧ ∀ n2 : Nat, (∀ (h : Heap) (x0 : Int) (x1 x2 : AVal) (x3 x4 : Int), OI (s15l2 Ψ (n2 + 1) x0 x1 x2 x3 x4 h)) ∧ (True ∧ (True ∧ True) ∧ (True ∧ True ∧ (True ∧ (∀ (h : Heap) (x0 : Int) (x1 x2 x3 : AVal) (x4 x5 x6 : Int), ON (s15l3 Ψ (s15l2_G (s15l2 Ψ n2)) 0 x0 x1 x2 x3 x4 x5 x6 h)) ∧ ∀ n3 : Nat, (∀ (h : Heap) (x0 : Int) (x1 x2 x3 : AVal) (x4 x5 x6 : Int), OI (s15l3 Ψ (s15l2_G (s15l2 Ψ n2)) (n3 + 1) x0 x1 x2 x3 x4 x5 x6 h)) ∧ ((True ∧ True ∧ True) ∧ True ∧ True)) ∧ True) ∧ True)) ∧ True ∧ True)) ⟨trivial, ⟨⟨trivial, fun _ _ _ _ H => H, ⟨⟨trivial, trivial⟩, trivial⟩⟩, ⟨trivial, ⟨⟨trivial, ⟨fun _ _ _ _ _ _ H => H, fun _ => ⟨fun _ _ _ _ _ _ H => H, ⟨trivial, ⟨⟨trivial, trivial⟩, ⟨⟨trivial, ⟨trivial, ⟨⟨trivial, ⟨fun _ _ _ _ _ _ _ _ H => H, fun _ => ⟨fun _ _ _ _ _ _ _ _ H => H, ⟨⟨trivial, ⟨trivial, trivial⟩⟩, ⟨trivial, trivial⟩⟩⟩⟩⟩, trivial⟩⟩⟩, trivial⟩⟩⟩⟩⟩⟩, ⟨trivial, trivial⟩⟩⟩⟩⟩)
    (Eq.mpr (by as_aux_lemma => kernel_rfl : evF prog f15 (s15_A Ψ) Ψ [(.int .i64 n)] h = s15 Ψ n h) H)

/- 19 dictum/dictumlaw23.heads -/
def s19 (Ψ : AVal → Heap → Prop) (h : Heap) : Prop :=
  callG prog 15 [(.int .i64 3)] h fun v h_ =>
  tTup v fun l_ =>
  tCons l_ fun v1 l_1 =>
  tCons l_1 fun v2 l_2 =>
  tInt .i64 v2 fun v3 =>
  tNil l_2 (
    tAgg v1 fun l_3 =>
    tCons l_3 fun v4 l_4 =>
    tNil l_4 (
      Sym.newRow 1 [(.agg [.nilsl])] h_ fun r h_1 =>
      st false h_1 (.ptr r 0 0) [v4] fun h_2 =>
      callG prog 15 [(.int .i64 2)] h_2 fun v5 h_3 =>
      tTup v5 fun l_5 =>
      tCons l_5 fun v6 l_6 =>
      tCons l_6 fun v7 l_7 =>
      tInt .i64 v7 fun v8 =>
      tNil l_7 (
        tAgg v6 fun l_8 =>
        tCons l_8 fun v9 l_9 =>
        tNil l_9 (
          Sym.newRow 1 [(.agg [.nilsl])] h_3 fun r1 h_4 =>
          st false h_4 (.ptr r1 0 0) [v9] fun h_5 =>
          ldN 1 h_5 (.ptr r 0 0) fun l_10 =>
          tCons l_10 fun v10 l_11 =>
          tNil l_11 (
            callG prog 43 [(.agg [v10]), (.int .i64 1), (.int .i64 0)] h_5 fun v11 h_6 =>
            tTup v11 fun l_12 =>
            tCons l_12 fun v12 l_13 =>
            tInt .i64 v12 fun v13 =>
            tCons l_13 fun v14 l_14 =>
            tInt .i64 v14 fun v15 =>
            tNil l_14 (
              ldN 1 h_6 (.ptr r 0 0) fun l_15 =>
              tCons l_15 fun v16 l_16 =>
              tNil l_16 (
                callG prog 43 [(.agg [v16]), (.int .i64 0), (.int .i64 1)] h_6 fun v17 h_7 =>
                tTup v17 fun l_17 =>
                tCons l_17 fun v18 l_18 =>
                tInt .i64 v18 fun v19 =>
                tCons l_18 fun v20 l_19 =>
                tInt .i64 v20 fun v21 =>
                tNil l_19 (
                  ldN 1 h_7 (.ptr r 0 0) fun l_20 =>
                  tCons l_20 fun v22 l_21 =>
                  tNil l_21 (
                    callG prog 44 [(.agg [v22])] h_7 fun v23 h_8 =>
                    tTup v23 fun l_22 =>
                    tCons l_22 fun v24 l_23 =>
                    tBool v24 fun v25 =>
                    tCons l_23 fun v26 l_24 =>
                    tInt .i64 v26 fun v27 =>
                    tNil l_24 (
                      ldN 1 h_8 (.ptr r1 0 0) fun l_25 =>
                      tCons l_25 fun v28 l_26 =>
                      tNil l_26 (
                        callG prog 44 [(.agg [v28])] h_8 fun v29 h_9 =>
                        tTup v29 fun l_27 =>
                        tCons l_27 fun v30 l_28 =>
                        tBool v30 fun v31 =>
                        tCons l_28 fun v32 l_29 =>
                        tInt .i64 v32 fun v33 =>
                        tNil l_29 (
                          callG prog 6 [(.agg [(.lsl 1 [(.lsl 1 [(.int .i64 1)]), .nilsl]), (.lsl 1 [.nilsl, .nilsl])])] h_9 fun v34 h_10 =>
                          tTup v34 fun l_30 =>
                          tCons l_30 fun v35 l_31 =>
                          tCons l_31 fun v36 l_32 =>
                          tCons l_32 fun v37 l_33 =>
                          tInt .i64 v37 fun v38 =>
                          tNil l_33 (
                            tAgg v35 fun l_34 =>
                            tCons l_34 fun v39 l_35 =>
                            tNil l_35 (
                              Sym.newRow 1 [(.agg [.nilsl])] h_10 fun r2 h_11 =>
                              st false h_11 (.ptr r2 0 0) [v39] fun h_12 =>
                              (((mkS true 1 24 .nilsl h_12 7 7 fun v40 h_13 =>
                              mkS true 1 24 .nilsl h_13 7 7 fun v41 h_14 =>
                              chk (sc v40) (
                                chk (sc v41) (
                                  ∃ v42, (callG prog 6 [(.agg [v40, v41])] h_14 fun v h2 => v = v42 ∧ h2 = h_14) ∧
                                  tTup v42 fun l_36 =>
                                  tCons l_36 fun v43 l_37 =>
                                  tCons l_37 fun v44 l_38 =>
                                  tCons l_38 fun v45 l_39 =>
                                  tInt .i64 v45 fun v46 =>
                                  tNil l_39 (
                                    tAgg v43 fun l_40 =>
                                    tCons l_40 fun v47 l_41 =>
                                    tNil l_41 (
                                      Sym.newRow 1 [(.agg [.nilsl])] h_14 fun r3 h_16 =>
                                      ((callG prog 6 [(.agg [v40, v41])] h_16 fun v h2 => v = (.tuple [v43, v44, (.int .i64 v46)]) ∧ h2 = h_16)) ∧
                                      st false h_16 (.ptr r3 0 0) [v47] fun h_18 =>
                                      ldN 1 h_18 (.ptr r 0 0) fun l_42 =>
                                      tCons l_42 fun v49 l_43 =>
                                      tNil l_43 (
                                        callG prog 13 [(.agg [v49])] h_18 fun v50 h_19 =>
                                        tTup v50 fun l_44 =>
                                        tCons l_44 fun v51 l_45 =>
                                        tCons l_45 fun v52 l_46 =>
                                        tCons l_46 fun v53 l_47 =>
                                        tInt .i64 v53 fun v54 =>
                                        tNil l_47 (
                                          tAgg v51 fun l_48 =>
                                          tCons l_48 fun v55 l_49 =>
                                          tCons l_49 fun v56 l_50 =>
                                          tNil l_50 (
                                            Sym.newRow 2 [(.agg [.nilsl, .nilsl])] h_19 fun r4 h_20 =>
                                            st false h_20 (.ptr r4 0 0) [v55, v56] fun h_21 =>
                                            ifT (v3 == 0) (
                                              ifT (v8 == 0) (
                                                ifT (v15 == 0) (
                                                  ifT (v21 == 0) (
                                                    ifT (v27 == 0) (
                                                      ifT (v33 == 0) (
                                                        ifT (v13 == 0) (
                                                          ifT (v19 == 2) (
                                                            ifT (!v25) (
                                                              ifT v31 (
                                                                ifT (v38 == 0) (
                                                                  lenN v36 fun n =>
                                                                  ifT (n == 3) (
                                                                    ixS 1 v36 1 fun p =>
                                                                    ld1 h_21 p fun v57 =>
                                                                    callG prog 18 [v57, (.lsl 1 [(.int .i64 1)])] h_21 fun v58 h_22 =>
                                                                    tBool v58 fun v59 =>
                                                                    ifT v59 (
                                                                      ifT (v46 == 231) (
                                                                        ifT (v54 == 0) (
                                                                          callG prog 18 [v52, (.lsl 1 [(.int .i64 1), (.int .i64 2)])] h_22 fun v60 h_23 =>
                                                                          tBool v60 fun v61 =>
                                                                          ifT v61 (
                                                                            ld1 h_23 (.ptr r4 0 0) fun v62 =>
                                                                            lenN v62 fun n1 =>
                                                                            ifT (n1 == 2) (
                                                                              ld1 h_23 (.ptr r4 0 0) fun v63 =>
                                                                              ixS 1 v63 1 fun p1 =>
                                                                              ld1 h_23 p1 fun v64 =>
                                                                              callG prog 18 [v64, (.lsl 1 [(.int .i64 0)])] h_23 fun v65 h_24 =>
                                                                              tBool v65 fun v66 =>
                                                                              ifT v66 (
                                                                                callG prog 45 [(.agg [(.lsl 1 [(.lsl 1 [(.bool true), (.bool true), (.bool true)]), (.lsl 1 [(.bool false), (.bool true), (.bool false)]), (.lsl 1 [(.bool false), (.bool false), (.bool true)])])])] h_24 fun v67 h_25 =>
                                                                                tInt .i64 v67 fun v68 =>
                                                                                retG (.bool (v68 == 230)) h_25 Ψ) (
                                                                                retG (.bool false) h_24 Ψ)) (
                                                                              retG (.bool false) h_23 Ψ)) (
                                                                            retG (.bool false) h_23 Ψ)) (
                                                                          retG (.bool false) h_22 Ψ)) (
                                                                        retG (.bool false) h_22 Ψ)) (
                                                                      retG (.bool false) h_22 Ψ)) (
                                                                    retG (.bool false) h_21 Ψ)) (
                                                                  retG (.bool false) h_21 Ψ)) (
                                                                retG (.bool false) h_21 Ψ)) (
                                                              retG (.bool false) h_21 Ψ)) (
                                                            retG (.bool false) h_21 Ψ)) (
                                                          retG (.bool false) h_21 Ψ)) (
                                                        retG (.bool false) h_21 Ψ)) (
                                                      retG (.bool false) h_21 Ψ)) (
                                                    retG (.bool false) h_21 Ψ)) (
                                                  retG (.bool false) h_21 Ψ)) (
                                                retG (.bool false) h_21 Ψ)) (
                                              retG (.bool false) h_21 Ψ))))))))) ∧
                              mkS true 1 24 .nilsl h_12 7 7 fun v69 h_26 =>
                              Sym.newRow 1 [(.agg [.nilsl])] h_26 fun r5 h_27 =>
                              mkS true 1 24 .nilsl h_27 7 7 fun v70 h_28 =>
                              chk (sc v69) (
                                chk (sc v70) (
                                  ∃ v71, (callG prog 6 [(.agg [v69, v70])] h_28 fun v h2 => v = v71 ∧ h2 = h_28) ∧
                                  tTup v71 fun l_51 =>
                                  tCons l_51 fun v72 l_52 =>
                                  tCons l_52 fun v73 l_53 =>
                                  tCons l_53 fun v74 l_54 =>
                                  tInt .i64 v74 fun v75 =>
                                  tNil l_54 (
                                    tAgg v72 fun l_55 =>
                                    tCons l_55 fun v76 l_56 =>
                                    tNil l_56 (
                                      st false h_28 (.ptr r5 0 0) [v76] fun h_30 =>
                                      ldN 1 h_30 (.ptr r 0 0) fun l_57 =>
                                      tCons l_57 fun v77 l_58 =>
                                      tNil l_58 (
                                        callG prog 13 [(.agg [v77])] h_30 fun v78 h_31 =>
                                        tTup v78 fun l_59 =>
                                        tCons l_59 fun v79 l_60 =>
                                        tCons l_60 fun v80 l_61 =>
                                        tCons l_61 fun v81 l_62 =>
                                        tInt .i64 v81 fun v82 =>
                                        tNil l_62 (
                                          tAgg v79 fun l_63 =>
                                          tCons l_63 fun v83 l_64 =>
                                          tCons l_64 fun v84 l_65 =>
                                          tNil l_65 (
                                            Sym.newRow 2 [(.agg [.nilsl, .nilsl])] h_31 fun r6 h_32 =>
                                            st false h_32 (.ptr r6 0 0) [v83, v84] fun h_33 =>
                                            ifT (v3 == 0) (
                                              ifT (v8 == 0) (
                                                ifT (v15 == 0) (
                                                  ifT (v21 == 0) (
                                                    ifT (v27 == 0) (
                                                      ifT (v33 == 0) (
                                                        ifT (v13 == 0) (
                                                          ifT (v19 == 2) (
                                                            ifT (!v25) (
                                                              ifT v31 (
                                                                ifT (v38 == 0) (
                                                                  lenN v36 fun n2 =>
                                                                  ifT (n2 == 3) (
                                                                    ixS 1 v36 1 fun p2 =>
                                                                    ld1 h_33 p2 fun v85 =>
                                                                    callG prog 18 [v85, (.lsl 1 [(.int .i64 1)])] h_33 fun v86 h_34 =>
                                                                    tBool v86 fun v87 =>
                                                                    ifT v87 (
                                                                      ifT (v75 == 231) (
                                                                        ifT (v82 == 0) (
                                                                          callG prog 18 [v80, (.lsl 1 [(.int .i64 1), (.int .i64 2)])] h_34 fun v88 h_35 =>
                                                                          tBool v88 fun v89 =>
                                                                          ifT v89 (
                                                                            ld1 h_35 (.ptr r6 0 0) fun v90 =>
                                                                            lenN v90 fun n3 =>
                                                                            ifT (n3 == 2) (
                                                                              ld1 h_35 (.ptr r6 0 0) fun v91 =>
                                                                              ixS 1 v91 1 fun p3 =>
                                                                              ld1 h_35 p3 fun v92 =>
                                                                              callG prog 18 [v92, (.lsl 1 [(.int .i64 0)])] h_35 fun v93 h_36 =>
                                                                              tBool v93 fun v94 =>
                                                                              ifT v94 (
                                                                                callG prog 45 [(.agg [(.lsl 1 [(.lsl 1 [(.bool true), (.bool true), (.bool true)]), (.lsl 1 [(.bool false), (.bool true), (.bool false)]), (.lsl 1 [(.bool false), (.bool false), (.bool true)])])])] h_36 fun v95 h_37 =>
                                                                                tInt .i64 v95 fun v96 =>
                                                                                retG (.bool (v96 == 230)) h_37 Ψ) (
                                                                                retG (.bool false) h_36 Ψ)) (
                                                                              retG (.bool false) h_35 Ψ)) (
                                                                            retG (.bool false) h_35 Ψ)) (
                                                                          retG (.bool false) h_34 Ψ)) (
                                                                        retG (.bool false) h_34 Ψ)) (
                                                                      retG (.bool false) h_34 Ψ)) (
                                                                    retG (.bool false) h_33 Ψ)) (
                                                                  retG (.bool false) h_33 Ψ)) (
                                                                retG (.bool false) h_33 Ψ)) (
                                                              retG (.bool false) h_33 Ψ)) (
                                                            retG (.bool false) h_33 Ψ)) (
                                                          retG (.bool false) h_33 Ψ)) (
                                                        retG (.bool false) h_33 Ψ)) (
                                                      retG (.bool false) h_33 Ψ)) (
                                                    retG (.bool false) h_33 Ψ)) (
                                                  retG (.bool false) h_33 Ψ)) (
                                                retG (.bool false) h_33 Ψ)) (
                                              retG (.bool false) h_33 Ψ))))))))) ∧
                              Sym.newRow 1 [(.agg [.nilsl])] h_12 fun r7 h_38 =>
                              mkS true 1 24 .nilsl h_38 7 7 fun v97 h_39 =>
                              mkS true 1 24 .nilsl h_39 7 7 fun v98 h_40 =>
                              chk (sc v97) (
                                chk (sc v98) (
                                  ∃ v99, (callG prog 6 [(.agg [v97, v98])] h_40 fun v h2 => v = v99 ∧ h2 = h_40) ∧
                                  tTup v99 fun l_66 =>
                                  tCons l_66 fun v100 l_67 =>
                                  tCons l_67 fun v101 l_68 =>
                                  tCons l_68 fun v102 l_69 =>
                                  tInt .i64 v102 fun v103 =>
                                  tNil l_69 (
                                    tAgg v100 fun l_70 =>
                                    tCons l_70 fun v104 l_71 =>
                                    tNil l_71 (
                                      st false h_40 (.ptr r7 0 0) [v104] fun h_42 =>
                                      ldN 1 h_42 (.ptr r 0 0) fun l_72 =>
                                      tCons l_72 fun v105 l_73 =>
                                      tNil l_73 (
                                        callG prog 13 [(.agg [v105])] h_42 fun v106 h_43 =>
                                        tTup v106 fun l_74 =>
                                        tCons l_74 fun v107 l_75 =>
                                        tCons l_75 fun v108 l_76 =>
                                        tCons l_76 fun v109 l_77 =>
                                        tInt .i64 v109 fun v110 =>
                                        tNil l_77 (
                                          tAgg v107 fun l_78 =>
                                          tCons l_78 fun v111 l_79 =>
                                          tCons l_79 fun v112 l_80 =>
                                          tNil l_80 (
                                            Sym.newRow 2 [(.agg [.nilsl, .nilsl])] h_43 fun r8 h_44 =>
                                            st false h_44 (.ptr r8 0 0) [v111, v112] fun h_45 =>
                                            ifT (v3 == 0) (
                                              ifT (v8 == 0) (
                                                ifT (v15 == 0) (
                                                  ifT (v21 == 0) (
                                                    ifT (v27 == 0) (
                                                      ifT (v33 == 0) (
                                                        ifT (v13 == 0) (
                                                          ifT (v19 == 2) (
                                                            ifT (!v25) (
                                                              ifT v31 (
                                                                ifT (v38 == 0) (
                                                                  lenN v36 fun n4 =>
                                                                  ifT (n4 == 3) (
                                                                    ixS 1 v36 1 fun p4 =>
                                                                    ld1 h_45 p4 fun v113 =>
                                                                    callG prog 18 [v113, (.lsl 1 [(.int .i64 1)])] h_45 fun v114 h_46 =>
                                                                    tBool v114 fun v115 =>
                                                                    ifT v115 (
                                                                      ifT (v103 == 231) (
                                                                        ifT (v110 == 0) (
                                                                          callG prog 18 [v108, (.lsl 1 [(.int .i64 1), (.int .i64 2)])] h_46 fun v116 h_47 =>
                                                                          tBool v116 fun v117 =>
                                                                          ifT v117 (
                                                                            ld1 h_47 (.ptr r8 0 0) fun v118 =>
                                                                            lenN v118 fun n5 =>
                                                                            ifT (n5 == 2) (
                                                                              ld1 h_47 (.ptr r8 0 0) fun v119 =>
                                                                              ixS 1 v119 1 fun p5 =>
                                                                              ld1 h_47 p5 fun v120 =>
                                                                              callG prog 18 [v120, (.lsl 1 [(.int .i64 0)])] h_47 fun v121 h_48 =>
                                                                              tBool v121 fun v122 =>
                                                                              ifT v122 (
                                                                                callG prog 45 [(.agg [(.lsl 1 [(.lsl 1 [(.bool true), (.bool true), (.bool true)]), (.lsl 1 [(.bool false), (.bool true), (.bool false)]), (.lsl 1 [(.bool false), (.bool false), (.bool true)])])])] h_48 fun v123 h_49 =>
                                                                                tInt .i64 v123 fun v124 =>
                                                                                retG (.bool (v124 == 230)) h_49 Ψ) (
                                                                                retG (.bool false) h_48 Ψ)) (
                                                                              retG (.bool false) h_47 Ψ)) (
                                                                            retG (.bool false) h_47 Ψ)) (
                                                                          retG (.bool false) h_46 Ψ)) (
                                                                        retG (.bool false) h_46 Ψ)) (
                                                                      retG (.bool false) h_46 Ψ)) (
                                                                    retG (.bool false) h_45 Ψ)) (
                                                                  retG (.bool false) h_45 Ψ)) (
                                                                retG (.bool false) h_45 Ψ)) (
                                                              retG (.bool false) h_45 Ψ)) (
                                                            retG (.bool false) h_45 Ψ)) (
                                                          retG (.bool false) h_45 Ψ)) (
                                                        retG (.bool false) h_45 Ψ)) (
                                                      retG (.bool false) h_45 Ψ)) (
                                                    retG (.bool false) h_45 Ψ)) (
                                                  retG (.bool false) h_45 Ψ)) (
                                                retG (.bool false) h_45 Ψ)) (
                                              retG (.bool false) h_45 Ψ))))))))) ∧
                              (mkS true 1 24 .nilsl h_12 7 7 fun v125 h_50 =>
                              mkS true 1 24 .nilsl h_50 7 7 fun v126 h_51 =>
                              chk (sc v126) (
                                chk (sc v125) (
                                  ∃ v127, (callG prog 6 [(.agg [v126, v125])] h_51 fun v h2 => v = v127 ∧ h2 = h_51) ∧
                                  tTup v127 fun l_81 =>
                                  tCons l_81 fun v128 l_82 =>
                                  tCons l_82 fun v129 l_83 =>
                                  tCons l_83 fun v130 l_84 =>
                                  tInt .i64 v130 fun v131 =>
                                  tNil l_84 (
                                    tAgg v128 fun l_85 =>
                                    tCons l_85 fun v132 l_86 =>
                                    tNil l_86 (
                                      Sym.newRow 1 [(.agg [.nilsl])] h_51 fun r9 h_53 =>
                                      ((callG prog 6 [(.agg [v126, v125])] h_53 fun v h2 => v = (.tuple [v128, v129, (.int .i64 v131)]) ∧ h2 = h_53)) ∧
                                      st false h_53 (.ptr r9 0 0) [v132] fun h_55 =>
                                      ldN 1 h_55 (.ptr r 0 0) fun l_87 =>
                                      tCons l_87 fun v134 l_88 =>
                                      tNil l_88 (
                                        callG prog 13 [(.agg [v134])] h_55 fun v135 h_56 =>
                                        tTup v135 fun l_89 =>
                                        tCons l_89 fun v136 l_90 =>
                                        tCons l_90 fun v137 l_91 =>
                                        tCons l_91 fun v138 l_92 =>
                                        tInt .i64 v138 fun v139 =>
                                        tNil l_92 (
                                          tAgg v136 fun l_93 =>
                                          tCons l_93 fun v140 l_94 =>
                                          tCons l_94 fun v141 l_95 =>
                                          tNil l_95 (
                                            Sym.newRow 2 [(.agg [.nilsl, .nilsl])] h_56 fun r10 h_57 =>
                                            st false h_57 (.ptr r10 0 0) [v140, v141] fun h_58 =>
                                            ifT (v3 == 0) (
                                              ifT (v8 == 0) (
                                                ifT (v15 == 0) (
                                                  ifT (v21 == 0) (
                                                    ifT (v27 == 0) (
                                                      ifT (v33 == 0) (
                                                        ifT (v13 == 0) (
                                                          ifT (v19 == 2) (
                                                            ifT (!v25) (
                                                              ifT v31 (
                                                                ifT (v38 == 0) (
                                                                  lenN v36 fun n6 =>
                                                                  ifT (n6 == 3) (
                                                                    ixS 1 v36 1 fun p6 =>
                                                                    ld1 h_58 p6 fun v142 =>
                                                                    callG prog 18 [v142, (.lsl 1 [(.int .i64 1)])] h_58 fun v143 h_59 =>
                                                                    tBool v143 fun v144 =>
                                                                    ifT v144 (
                                                                      ifT (v131 == 231) (
                                                                        ifT (v139 == 0) (
                                                                          callG prog 18 [v137, (.lsl 1 [(.int .i64 1), (.int .i64 2)])] h_59 fun v145 h_60 =>
                                                                          tBool v145 fun v146 =>
                                                                          ifT v146 (
                                                                            ld1 h_60 (.ptr r10 0 0) fun v147 =>
                                                                            lenN v147 fun n7 =>
                                                                            ifT (n7 == 2) (
                                                                              ld1 h_60 (.ptr r10 0 0) fun v148 =>
                                                                              ixS 1 v148 1 fun p7 =>
                                                                              ld1 h_60 p7 fun v149 =>
                                                                              callG prog 18 [v149, (.lsl 1 [(.int .i64 0)])] h_60 fun v150 h_61 =>
                                                                              tBool v150 fun v151 =>
                                                                              ifT v151 (
                                                                                callG prog 45 [(.agg [(.lsl 1 [(.lsl 1 [(.bool true), (.bool true), (.bool true)]), (.lsl 1 [(.bool false), (.bool true), (.bool false)]), (.lsl 1 [(.bool false), (.bool false), (.bool true)])])])] h_61 fun v152 h_62 =>
                                                                                tInt .i64 v152 fun v153 =>
                                                                                retG (.bool (v153 == 230)) h_62 Ψ) (
                                                                                retG (.bool false) h_61 Ψ)) (
                                                                              retG (.bool false) h_60 Ψ)) (
                                                                            retG (.bool false) h_60 Ψ)) (
                                                                          retG (.bool false) h_59 Ψ)) (
                                                                        retG (.bool false) h_59 Ψ)) (
                                                                      retG (.bool false) h_59 Ψ)) (
                                                                    retG (.bool false) h_58 Ψ)) (
                                                                  retG (.bool false) h_58 Ψ)) (
                                                                retG (.bool false) h_58 Ψ)) (
                                                              retG (.bool false) h_58 Ψ)) (
                                                            retG (.bool false) h_58 Ψ)) (
                                                          retG (.bool false) h_58 Ψ)) (
                                                        retG (.bool false) h_58 Ψ)) (
                                                      retG (.bool false) h_58 Ψ)) (
                                                    retG (.bool false) h_58 Ψ)) (
                                                  retG (.bool false) h_58 Ψ)) (
                                                retG (.bool false) h_58 Ψ)) (
                                              retG (.bool false) h_58 Ψ))))))))) ∧
                              (mkS true 1 24 .nilsl h_12 7 7 fun v154 h_63 =>
                              Sym.newRow 1 [(.agg [.nilsl])] h_63 fun r11 h_64 =>
                              mkS true 1 24 .nilsl h_64 7 7 fun v155 h_65 =>
                              chk (sc v155) (
                                chk (sc v154) (
                                  ∃ v156, (callG prog 6 [(.agg [v155, v154])] h_65 fun v h2 => v = v156 ∧ h2 = h_65) ∧
                                  tTup v156 fun l_96 =>
                                  tCons l_96 fun v157 l_97 =>
                                  tCons l_97 fun v158 l_98 =>
                                  tCons l_98 fun v159 l_99 =>
                                  tInt .i64 v159 fun v160 =>
                                  tNil l_99 (
                                    tAgg v157 fun l_100 =>
                                    tCons l_100 fun v161 l_101 =>
                                    tNil l_101 (
                                      st false h_65 (.ptr r11 0 0) [v161] fun h_67 =>
                                      ldN 1 h_67 (.ptr r 0 0) fun l_102 =>
                                      tCons l_102 fun v162 l_103 =>
                                      tNil l_103 (
                                        callG prog 13 [(.agg [v162])] h_67 fun v163 h_68 =>
                                        tTup v163 fun l_104 =>
                                        tCons l_104 fun v164 l_105 =>
                                        tCons l_105 fun v165 l_106 =>
                                        tCons l_106 fun v166 l_107 =>
                                        tInt .i64 v166 fun v167 =>
                                        tNil l_107 (
                                          tAgg v164 fun l_108 =>
                                          tCons l_108 fun v168 l_109 =>
                                          tCons l_109 fun v169 l_110 =>
                                          tNil l_110 (
                                            Sym.newRow 2 [(.agg [.nilsl, .nilsl])] h_68 fun r12 h_69 =>
                                            st false h_69 (.ptr r12 0 0) [v168, v169] fun h_70 =>
                                            ifT (v3 == 0) (
                                              ifT (v8 == 0) (
                                                ifT (v15 == 0) (
                                                  ifT (v21 == 0) (
                                                    ifT (v27 == 0) (
                                                      ifT (v33 == 0) (
                                                        ifT (v13 == 0) (
                                                          ifT (v19 == 2) (
                                                            ifT (!v25) (
                                                              ifT v31 (
                                                                ifT (v38 == 0) (
                                                                  lenN v36 fun n8 =>
                                                                  ifT (n8 == 3) (
                                                                    ixS 1 v36 1 fun p8 =>
                                                                    ld1 h_70 p8 fun v170 =>
                                                                    callG prog 18 [v170, (.lsl 1 [(.int .i64 1)])] h_70 fun v171 h_71 =>
                                                                    tBool v171 fun v172 =>
                                                                    ifT v172 (
                                                                      ifT (v160 == 231) (
                                                                        ifT (v167 == 0) (
                                                                          callG prog 18 [v165, (.lsl 1 [(.int .i64 1), (.int .i64 2)])] h_71 fun v173 h_72 =>
                                                                          tBool v173 fun v174 =>
                                                                          ifT v174 (
                                                                            ld1 h_72 (.ptr r12 0 0) fun v175 =>
                                                                            lenN v175 fun n9 =>
                                                                            ifT (n9 == 2) (
                                                                              ld1 h_72 (.ptr r12 0 0) fun v176 =>
                                                                              ixS 1 v176 1 fun p9 =>
                                                                              ld1 h_72 p9 fun v177 =>
                                                                              callG prog 18 [v177, (.lsl 1 [(.int .i64 0)])] h_72 fun v178 h_73 =>
                                                                              tBool v178 fun v179 =>
                                                                              ifT v179 (
                                                                                callG prog 45 [(.agg [(.lsl 1 [(.lsl 1 [(.bool true), (.bool true), (.bool true)]), (.lsl 1 [(.bool false), (.bool true), (.bool false)]), (.lsl 1 [(.bool false), (.bool false), (.bool true)])])])] h_73 fun v180 h_74 =>
                                                                                tInt .i64 v180 fun v181 =>
                                                                                retG (.bool (v181 == 230)) h_74 Ψ) (
                                                                                retG (.bool false) h_73 Ψ)) (
                                                                              retG (.bool false) h_72 Ψ)) (
                                                                            retG (.bool false) h_72 Ψ)) (
                                                                          retG (.bool false) h_71 Ψ)) (
                                                                        retG (.bool false) h_71 Ψ)) (
                                                                      retG (.bool false) h_71 Ψ)) (
                                                                    retG (.bool false) h_70 Ψ)) (
                                                                  retG (.bool false) h_70 Ψ)) (
                                                                retG (.bool false) h_70 Ψ)) (
                                                              retG (.bool false) h_70 Ψ)) (
                                                            retG (.bool false) h_70 Ψ)) (
                                                          retG (.bool false) h_70 Ψ)) (
                                                        retG (.bool false) h_70 Ψ)) (
                                                      retG (.bool false) h_70 Ψ)) (
                                                    retG (.bool false) h_70 Ψ)) (
                                                  retG (.bool false) h_70 Ψ)) (
                                                retG (.bool false) h_70 Ψ)) (
                                              retG (.bool false) h_70 Ψ))))))))) ∧
                              Sym.newRow 1 [(.agg [.nilsl])] h_12 fun r13 h_75 =>
                              mkS true 1 24 .nilsl h_75 7 7 fun v182 h_76 =>
                              mkS true 1 24 .nilsl h_76 7 7 fun v183 h_77 =>
                              chk (sc v183) (
                                chk (sc v182) (
                                  ∃ v184, (callG prog 6 [(.agg [v183, v182])] h_77 fun v h2 => v = v184 ∧ h2 = h_77) ∧
                                  tTup v184 fun l_111 =>
                                  tCons l_111 fun v185 l_112 =>
                                  tCons l_112 fun v186 l_113 =>
                                  tCons l_113 fun v187 l_114 =>
                                  tInt .i64 v187 fun v188 =>
                                  tNil l_114 (
                                    tAgg v185 fun l_115 =>
                                    tCons l_115 fun v189 l_116 =>
                                    tNil l_116 (
                                      st false h_77 (.ptr r13 0 0) [v189] fun h_79 =>
                                      ldN 1 h_79 (.ptr r 0 0) fun l_117 =>
                                      tCons l_117 fun v190 l_118 =>
                                      tNil l_118 (
                                        callG prog 13 [(.agg [v190])] h_79 fun v191 h_80 =>
                                        tTup v191 fun l_119 =>
                                        tCons l_119 fun v192 l_120 =>
                                        tCons l_120 fun v193 l_121 =>
                                        tCons l_121 fun v194 l_122 =>
                                        tInt .i64 v194 fun v195 =>
                                        tNil l_122 (
                                          tAgg v192 fun l_123 =>
                                          tCons l_123 fun v196 l_124 =>
                                          tCons l_124 fun v197 l_125 =>
                                          tNil l_125 (
                                            Sym.newRow 2 [(.agg [.nilsl, .nilsl])] h_80 fun r14 h_81 =>
                                            st false h_81 (.ptr r14 0 0) [v196, v197] fun h_82 =>
                                            ifT (v3 == 0) (
                                              ifT (v8 == 0) (
                                                ifT (v15 == 0) (
                                                  ifT (v21 == 0) (
                                                    ifT (v27 == 0) (
                                                      ifT (v33 == 0) (
                                                        ifT (v13 == 0) (
                                                          ifT (v19 == 2) (
                                                            ifT (!v25) (
                                                              ifT v31 (
                                                                ifT (v38 == 0) (
                                                                  lenN v36 fun n10 =>
                                                                  ifT (n10 == 3) (
                                                                    ixS 1 v36 1 fun p10 =>
                                                                    ld1 h_82 p10 fun v198 =>
                                                                    callG prog 18 [v198, (.lsl 1 [(.int .i64 1)])] h_82 fun v199 h_83 =>
                                                                    tBool v199 fun v200 =>
                                                                    ifT v200 (
                                                                      ifT (v188 == 231) (
                                                                        ifT (v195 == 0) (
                                                                          callG prog 18 [v193, (.lsl 1 [(.int .i64 1), (.int .i64 2)])] h_83 fun v201 h_84 =>
                                                                          tBool v201 fun v202 =>
                                                                          ifT v202 (
                                                                            ld1 h_84 (.ptr r14 0 0) fun v203 =>
                                                                            lenN v203 fun n11 =>
                                                                            ifT (n11 == 2) (
                                                                              ld1 h_84 (.ptr r14 0 0) fun v204 =>
                                                                              ixS 1 v204 1 fun p11 =>
                                                                              ld1 h_84 p11 fun v205 =>
                                                                              callG prog 18 [v205, (.lsl 1 [(.int .i64 0)])] h_84 fun v206 h_85 =>
                                                                              tBool v206 fun v207 =>
                                                                              ifT v207 (
                                                                                callG prog 45 [(.agg [(.lsl 1 [(.lsl 1 [(.bool true), (.bool true), (.bool true)]), (.lsl 1 [(.bool false), (.bool true), (.bool false)]), (.lsl 1 [(.bool false), (.bool false), (.bool true)])])])] h_85 fun v208 h_86 =>
                                                                                tInt .i64 v208 fun v209 =>
                                                                                retG (.bool (v209 == 230)) h_86 Ψ) (
                                                                                retG (.bool false) h_85 Ψ)) (
                                                                              retG (.bool false) h_84 Ψ)) (
                                                                            retG (.bool false) h_84 Ψ)) (
                                                                          retG (.bool false) h_83 Ψ)) (
                                                                        retG (.bool false) h_83 Ψ)) (
                                                                      retG (.bool false) h_83 Ψ)) (
                                                                    retG (.bool false) h_82 Ψ)) (
                                                                  retG (.bool false) h_82 Ψ)) (
                                                                retG (.bool false) h_82 Ψ)) (
                                                              retG (.bool false) h_82 Ψ)) (
                                                            retG (.bool false) h_82 Ψ)) (
                                                          retG (.bool false) h_82 Ψ)) (
                                                        retG (.bool false) h_82 Ψ)) (
                                                      retG (.bool false) h_82 Ψ)) (
                                                    retG (.bool false) h_82 Ψ)) (
                                                  retG (.bool false) h_82 Ψ)) (
                                                retG (.bool false) h_82 Ψ)) (
                                              retG (.bool false) h_82 Ψ))))))))))))))))))))))

def s19_A (Ψ : AVal → Heap → Prop) : Ann :=
  .seq (rA 1)
  (.seq (rA 7)
  (.seq (rA 7)
  (.seq (rA 7)
  (.seq (rA 7)
  (.seq (rA 7)
  (.seq (rA 7)
  (.seq (.reg [⟨none, [(0, true), (1, true), (2, true), (3, false), (4, false), (5, false), (6, false), (7, false), (8, false), (9, false), (10, false), (11, false), (12, false)]⟩])
  (.seq (.drawT (.split 0 1 (.split 0 8 (.split 1 8 (.leaf [(0, true), (1, true), (2, false), (3, true), (4, false), (5, false), (6, false), (7, false), (8, false), (9, false), (10, false), (11, false)]) (.leaf [(0, true), (8, false), (1, true), (2, false), (3, true), (4, false), (5, false), (6, false), (7, false), (9, false), (10, false), (11, false)])) (.leaf [(8, false), (0, true), (1, true), (2, false), (3, true), (4, false), (5, false), (6, false), (7, false), (9, false), (10, false), (11, false)])) (.split 0 8 (.leaf [(1, true), (0, true), (2, false), (3, true), (4, false), (5, false), (6, false), (7, false), (8, false), (9, false), (10, false), (11, false)]) (.split 1 8 (.leaf [(1, true), (8, false), (0, true), (2, false), (3, true), (4, false), (5, false), (6, false), (7, false), (9, false), (10, false), (11, false)]) (.leaf [(8, false), (1, true), (0, true), (2, false), (3, true), (4, false), (5, false), (6, false), (7, false), (9, false), (10, false), (11, false)])))) [0, 0, 3, 7, 15, 31, 31, 31, 0, 319, 895, 2047])
  (.seq (rA 10)
  (.seq (.reg [⟨none, [(0, false), (1, false), (2, false)]⟩, ⟨some (75, true), [(3, false), (4, false)]⟩, ⟨none, [(5, false), (6, false)]⟩, ⟨some (79, true), [(7, false), (8, false)]⟩, ⟨none, [(9, false), (10, false)]⟩, ⟨some (83, true), [(11, false), (12, false)]⟩, ⟨none, [(13, false), (14, false)]⟩, ⟨some (87, true), [(15, false), (16, false)]⟩, ⟨none, [(17, false), (18, false)]⟩, ⟨some (91, true), [(19, false), (20, false)]⟩, ⟨none, [(21, false), (22, false)]⟩, ⟨some (95, true), [(23, false), (24, false)]⟩, ⟨none, [(25, false), (26, false)]⟩, ⟨some (99, true), [(27, false), (28, false)]⟩, ⟨none, [(29, false), (30, false)]⟩, ⟨some (103, true), [(31, false), (32, false)]⟩, ⟨none, [(33, false), (34, false)]⟩, ⟨some (107, true), [(35, false)]⟩, ⟨none, [(36, false), (37, false)]⟩, ⟨some (110, true), [(38, false), (39, false)]⟩, ⟨none, [(40, false), (41, false)]⟩, ⟨some (114, true), [(42, false), (43, false), (44, false)]⟩, ⟨none, [(45, false), (46, false)]⟩, ⟨some (119, true), [(47, false), (48, false), (49, false), (50, true), (51, false)]⟩, ⟨none, [(52, false), (53, false)]⟩, ⟨some (126, true), [(54, false), (55, false)]⟩, ⟨none, [(56, false), (57, false)]⟩, ⟨some (130, true), [(58, false), (59, false)]⟩, ⟨none, [(60, false), (61, false)]⟩, ⟨some (134, true), [(62, false), (63, true), (64, false)]⟩, ⟨none, [(65, false), (66, false)]⟩, ⟨some (139, true), [(67, false), (68, false), (69, false), (70, false)]⟩, ⟨none, [(71, false), (72, false)]⟩, ⟨some (145, true), [(73, false), (74, false), (75, false), (76, false), (77, true), (78, false)]⟩, ⟨none, [(79, false), (80, false)]⟩, ⟨some (153, true), [(81, true), (82, true), (83, true), (84, true), (85, false), (86, false), (87, false)]⟩, ⟨none, [(88, false), (89, false)]⟩])
  (.leaf)))))))))))

theorem s19_ok {Ψ : AVal → Heap → Prop} {h : Heap} (H : s19 Ψ  h) : ACalls prog 19 [] h Ψ :=
  calls_of_evF func19 (by kernel_rfl) (by kernel_rfl) (by kernel_rfl)
    (Eq.mpr (by as_aux_lemma => kernel_rfl : oblF prog f19 (s19_A Ψ) Ψ = (True ∧ True ∧ True ∧ True ∧ True ∧ True ∧ True ∧ True ∧ True ∧ True ∧ True ∧ True)) ⟨trivial, ⟨trivial, ⟨trivial, ⟨trivial, ⟨trivial, ⟨trivial, ⟨trivial, ⟨trivial, ⟨trivial, ⟨trivial, ⟨trivial, trivial⟩⟩⟩⟩⟩⟩⟩⟩⟩⟩⟩)
    (Eq.mpr (by as_aux_lemma => kernel_rfl : evF prog f19 (s19_A Ψ) Ψ [] h = s19 Ψ  h) H)

/- 21 dictum/heyting.Value -/
abbrev s21l1_T := AVal → Int → AVal → AVal → AVal → AVal → Int → Int → Heap → Prop
def s21l1_R (F : s21l1_T) (l : List AVal) (h : Heap) : Prop := J.cons l fun x0 l => J.cons l fun v l => J.int .i64 v fun x1 => J.cons l fun x2 l => J.cons l fun x3 l => J.cons l fun x4 l => J.cons l fun x5 l => J.cons l fun v l => J.int .i64 v fun x6 => J.cons l fun v l => J.int .i64 v fun x7 => J.nil l (F x0 x1 x2 x3 x4 x5 x6 x7 h)
def s21l1_G (F : s21l1_T) (x0 : AVal) (x1 : Int) (x2 x3 x4 x5 : AVal) (x6 x7 : Int) (h : Heap) : Prop := gJ [.any, .int .i64, .any, .any, .any, .any, .int .i64, .int .i64] [x0, (.int .i64 x1), x2, x3, x4, x5, (.int .i64 x6), (.int .i64 x7)] h (s21l1_R F)
def s21l1_E (F : Nat → s21l1_T) (x0 : AVal) (x1 : Int) (x2 x3 x4 x5 : AVal) (x6 x7 : Int) (h : Heap) : Prop := gJ [.any, .int .i64, .any, .any, .any, .any, .int .i64, .int .i64] [x0, (.int .i64 x1), x2, x3, x4, x5, (.int .i64 x6), (.int .i64 x7)] h (fun l h => ∃ n, s21l1_R (F n) l h)
theorem s21l1_go {F : s21l1_T} {x0 : AVal} {x1 : Int} {x2 x3 x4 x5 : AVal} {x6 x7 : Int} {h : Heap} (H : F x0 x1 x2 x3 x4 x5 x6 x7 h) : s21l1_G F x0 x1 x2 x3 x4 x5 x6 x7 h := gJ_plain rfl H
theorem s21l1_in {F : Nat → s21l1_T} {x0 : AVal} {x1 : Int} {x2 x3 x4 x5 : AVal} {x6 x7 : Int} {h : Heap} (n : Nat) (H : F n x0 x1 x2 x3 x4 x5 x6 x7 h) : s21l1_E F x0 x1 x2 x3 x4 x5 x6 x7 h := gJ_plain rfl ⟨n, H⟩

def s21c2 (Ψ : AVal → Heap → Prop) (L1 : s21l1_T) (t2 : AVal) (id_2 : Int) (l_13 below1 named1 h_7 t45_1 : AVal) (t46_1 t47_1 : Int) (t70 : Bool) (h : Heap) : Prop :=
  ifT t70 (
    retG (.tuple [(.int .i64 0), (.int .i64 2)]) h Ψ) (
    addOff h_7 0 fun p1 =>
    ld1 h p1 fun v19 =>
    tStr v19 fun v20 =>
    addOff h_7 1 fun p2 =>
    ld1 h p2 fun v21 =>
    tInt .i64 v21 fun v22 =>
    mapPut h named1 (.str v20) (.int .i64 v22) fun h_8 =>
    rg (t47_1 + 1) (
      L1 t2 id_2 l_13 below1 named1 t45_1 t46_1 (t47_1 + 1) h_8))

abbrev s21l3_T := AVal → Int → AVal → AVal → Int → AVal → AVal → Int → Int → Heap → Prop
def s21l3_R (F : s21l3_T) (l : List AVal) (h : Heap) : Prop := J.cons l fun x0 l => J.cons l fun v l => J.int .i64 v fun x1 => J.cons l fun x2 l => J.cons l fun x3 l => J.cons l fun v l => J.int .i64 v fun x4 => J.cons l fun x5 l => J.cons l fun x6 l => J.cons l fun v l => J.int .i64 v fun x7 => J.cons l fun v l => J.int .i64 v fun x8 => J.nil l (F x0 x1 x2 x3 x4 x5 x6 x7 x8 h)
def s21l3_G (F : s21l3_T) (x0 : AVal) (x1 : Int) (x2 x3 : AVal) (x4 : Int) (x5 x6 : AVal) (x7 x8 : Int) (h : Heap) : Prop := gJ [.any, .int .i64, .any, .any, .int .i64, .any, .any, .int .i64, .int .i64] [x0, (.int .i64 x1), x2, x3, (.int .i64 x4), x5, x6, (.int .i64 x7), (.int .i64 x8)] h (s21l3_R F)
def s21l3_E (F : Nat → s21l3_T) (x0 : AVal) (x1 : Int) (x2 x3 : AVal) (x4 : Int) (x5 x6 : AVal) (x7 x8 : Int) (h : Heap) : Prop := gJ [.any, .int .i64, .any, .any, .int .i64, .any, .any, .int .i64, .int .i64] [x0, (.int .i64 x1), x2, x3, (.int .i64 x4), x5, x6, (.int .i64 x7), (.int .i64 x8)] h (fun l h => ∃ n, s21l3_R (F n) l h)
theorem s21l3_go {F : s21l3_T} {x0 : AVal} {x1 : Int} {x2 x3 : AVal} {x4 : Int} {x5 x6 : AVal} {x7 x8 : Int} {h : Heap} (H : F x0 x1 x2 x3 x4 x5 x6 x7 x8 h) : s21l3_G F x0 x1 x2 x3 x4 x5 x6 x7 x8 h := gJ_plain rfl H
theorem s21l3_in {F : Nat → s21l3_T} {x0 : AVal} {x1 : Int} {x2 x3 : AVal} {x4 : Int} {x5 x6 : AVal} {x7 x8 : Int} {h : Heap} (n : Nat) (H : F n x0 x1 x2 x3 x4 x5 x6 x7 x8 h) : s21l3_E F x0 x1 x2 x3 x4 x5 x6 x7 x8 h := gJ_plain rfl ⟨n, H⟩

def s21c4 (Ψ : AVal → Heap → Prop) (L3 : s21l3_T) (t4 : AVal) (id_4 : Int) (l_21 named3 : AVal) (low1 : Int) (v38 t83_1 : AVal) (t84_1 t85_1 : Int) (h : Heap) : Prop :=
  rg (t85_1 + 1) (
    L3 t4 id_4 l_21 named3 low1 v38 t83_1 t84_1 (t85_1 + 1) h)

def s21l3 (Ψ : AVal → Heap → Prop) : Nat → s21l3_T
  | 0, _, _, _, _, _, _, _, _, _, _ => False
  | n3 + 1, t3, id_3, l_20, named2, low, v37, t83, t84, t85, h =>
    ifT (decide (t85 < t84)) (
      ixS 1 t83 t85 fun p4 =>
      ld1 h p4 fun v39 =>
      tInt .i64 v39 fun v40 =>
      callG prog 49 [t3, (.int .i64 v40)] h fun v41 h_11 =>
      tTup v41 fun l_22 =>
      tCons l_22 fun v42 l_23 =>
      tCons l_23 fun v43 l_24 =>
      tBool v43 fun v44 =>
      tNil l_24 (
        tAgg v42 fun l_25 =>
        tCons l_25 fun v45 l_26 =>
        tInt .i64 v45 fun v46 =>
        tCons l_26 fun v47 l_27 =>
        tStr v47 fun v48 =>
        tCons l_27 fun v49 l_28 =>
        tInt .i64 v49 fun v50 =>
        tCons l_28 fun v51 l_29 =>
        tInt .i64 v51 fun v52 =>
        tNil l_29 (
          Sym.newRow 4 [(.agg [(.int .i64 0), (.str (ByteArray.mk #[])), (.int .i64 0), (.int .i64 0)])] h_11 fun r4 h_12 =>
          st false h_12 (.ptr r4 0 0) [(.int .i64 v46), (.str v48), (.int .i64 v50), (.int .i64 v52)] fun h_13 =>
          ld1 h_13 (.ptr r4 0 0) fun v53 =>
          tInt .i64 v53 fun v54 =>
          ifT (v54 == 1) (
            ld1 h_13 (.ptr r4 0 1) fun v55 =>
            tStr v55 fun v56 =>
            mapGet (.int .i64 0) h_13 named2 (.str v56) fun v57 b1 =>
            tInt .i64 v57 fun v58 =>
            ifT (!b1) (
              retG (.tuple [(.int .i64 0), (.int .i64 2)]) h_13 Ψ) (
              mapPut h_13 v37 (.int .i64 v40) (.int .i64 v58) fun h_14 =>
              s21c4 Ψ (s21l3_G (s21l3 Ψ n3)) t3 id_3 l_20 named2 low v37 t83 t84 t85 h_14)) (
            ifT (v54 == 2) (
              mapPut h_13 v37 (.int .i64 v40) (.int .i64 low) fun h_15 =>
              s21c4 Ψ (s21l3_G (s21l3 Ψ n3)) t3 id_3 l_20 named2 low v37 t83 t84 t85 h_15) (
              ifT (v54 == 3) (
                ldN 2 h_13 l_20 fun l_30 =>
                tCons l_30 fun v59 l_31 =>
                tInt .i64 v59 fun v60 =>
                tCons l_31 fun v61 l_32 =>
                tNil l_32 (
                  ld1 h_13 (.ptr r4 0 2) fun v62 =>
                  tInt .i64 v62 fun v63 =>
                  mapGet (.int .i64 0) h_13 v37 (.int .i64 v63) fun v64 b2 =>
                  tInt .i64 v64 fun v65 =>
                  ld1 h_13 (.ptr r4 0 3) fun v66 =>
                  tInt .i64 v66 fun v67 =>
                  mapGet (.int .i64 0) h_13 v37 (.int .i64 v67) fun v68 b3 =>
                  tInt .i64 v68 fun v69 =>
                  callG prog 50 [(.agg [(.int .i64 v60), v61]), (.int .i64 v65), (.int .i64 v69)] h_13 fun v70 h_16 =>
                  tTup v70 fun l_33 =>
                  tCons l_33 fun v71 l_34 =>
                  tInt .i64 v71 fun v72 =>
                  tCons l_34 fun v73 l_35 =>
                  tBool v73 fun v74 =>
                  tNil l_35 (
                    mapPut h_16 v37 (.int .i64 v40) (.int .i64 v72) fun h_17 =>
                    s21c4 Ψ (s21l3_G (s21l3 Ψ n3)) t3 id_3 l_20 named2 low v37 t83 t84 t85 h_17))) (
                ifT (v54 == 4) (
                  ldN 2 h_13 l_20 fun l_36 =>
                  tCons l_36 fun v75 l_37 =>
                  tInt .i64 v75 fun v76 =>
                  tCons l_37 fun v77 l_38 =>
                  tNil l_38 (
                    ld1 h_13 (.ptr r4 0 2) fun v78 =>
                    tInt .i64 v78 fun v79 =>
                    mapGet (.int .i64 0) h_13 v37 (.int .i64 v79) fun v80 b4 =>
                    tInt .i64 v80 fun v81 =>
                    ld1 h_13 (.ptr r4 0 3) fun v82 =>
                    tInt .i64 v82 fun v83 =>
                    mapGet (.int .i64 0) h_13 v37 (.int .i64 v83) fun v84 b5 =>
                    tInt .i64 v84 fun v85 =>
                    callG prog 37 [(.agg [(.int .i64 v76), v77]), (.int .i64 v81), (.int .i64 v85)] h_13 fun v86 h_18 =>
                    tTup v86 fun l_39 =>
                    tCons l_39 fun v87 l_40 =>
                    tInt .i64 v87 fun v88 =>
                    tCons l_40 fun v89 l_41 =>
                    tBool v89 fun v90 =>
                    tNil l_41 (
                      mapPut h_18 v37 (.int .i64 v40) (.int .i64 v88) fun h_19 =>
                      s21c4 Ψ (s21l3_G (s21l3 Ψ n3)) t3 id_3 l_20 named2 low v37 t83 t84 t85 h_19))) (
                  ifT (v54 == 5) (
                    ldN 2 h_13 l_20 fun l_42 =>
                    tCons l_42 fun v91 l_43 =>
                    tInt .i64 v91 fun v92 =>
                    tCons l_43 fun v93 l_44 =>
                    tNil l_44 (
                      ld1 h_13 (.ptr r4 0 2) fun v94 =>
                      tInt .i64 v94 fun v95 =>
                      mapGet (.int .i64 0) h_13 v37 (.int .i64 v95) fun v96 b6 =>
                      tInt .i64 v96 fun v97 =>
                      ld1 h_13 (.ptr r4 0 3) fun v98 =>
                      tInt .i64 v98 fun v99 =>
                      mapGet (.int .i64 0) h_13 v37 (.int .i64 v99) fun v100 b7 =>
                      tInt .i64 v100 fun v101 =>
                      callG prog 51 [(.agg [(.int .i64 v92), v93]), (.int .i64 v97), (.int .i64 v101)] h_13 fun v102 h_20 =>
                      tInt .i64 v102 fun v103 =>
                      mapPut h_20 v37 (.int .i64 v40) (.int .i64 v103) fun h_21 =>
                      s21c4 Ψ (s21l3_G (s21l3 Ψ n3)) t3 id_3 l_20 named2 low v37 t83 t84 t85 h_21)) (
                    s21c4 Ψ (s21l3_G (s21l3 Ψ n3)) t3 id_3 l_20 named2 low v37 t83 t84 t85 h_13)))))))) (
      mapGet (.int .i64 0) h v37 (.int .i64 id_3) fun v104 b8 =>
      tInt .i64 v104 fun v105 =>
      retG (.tuple [(.int .i64 v105), (.int .i64 0)]) h Ψ)

def s21l1 (Ψ : AVal → Heap → Prop) : Nat → s21l1_T
  | 0, _, _, _, _, _, _, _, _, _ => False
  | n1 + 1, t1, id_1, l_9, below, named, t45, t46, t47, h =>
    ifT (decide (t47 < t46)) (
      ixS 2 t45 t47 fun p =>
      ldN 2 h p fun l_10 =>
      tCons l_10 fun v11 l_11 =>
      tStr v11 fun v12 =>
      tCons l_11 fun v13 l_12 =>
      tInt .i64 v13 fun v14 =>
      tNil l_12 (
        Sym.newRow 2 [(.agg [(.str (ByteArray.mk #[])), (.int .i64 0)])] h fun r2 h_5 =>
        st false h_5 (.ptr r2 0 0) [(.str v12), (.int .i64 v14)] fun h_6 =>
        ld1 h_6 (.ptr r2 0 0) fun v15 =>
        tStr v15 fun v16 =>
        mapGet (.int .i64 0) h_6 named (.str v16) fun v17 b =>
        tInt .i64 v17 fun v18 =>
        ifT b (
          s21c2 Ψ (s21l1_G (s21l1 Ψ n1)) t1 id_1 l_9 below named (.ptr r2 0 0) t45 t46 t47 true h_6) (
          ld1 h_6 (.ptr r2 0 1) fun v23 =>
          tInt .i64 v23 fun v24 =>
          ifT (decide (v24 < 0)) (
            s21c2 Ψ (s21l1_G (s21l1 Ψ n1)) t1 id_1 l_9 below named (.ptr r2 0 0) t45 t46 t47 true h_6) (
            ld1 h_6 (.ptr r2 0 1) fun v25 =>
            tInt .i64 v25 fun v26 =>
            addOff l_9 0 fun p3 =>
            ld1 h_6 p3 fun v27 =>
            tInt .i64 v27 fun v28 =>
            s21c2 Ψ (s21l1_G (s21l1 Ψ n1)) t1 id_1 l_9 below named (.ptr r2 0 0) t45 t46 t47 (decide (v28 ≤ v26)) h_6)))) (
      ldN 2 h l_9 fun l_14 =>
      tCons l_14 fun v29 l_15 =>
      tInt .i64 v29 fun v30 =>
      tCons l_15 fun v31 l_16 =>
      tNil l_16 (
        callG prog 36 [(.agg [(.int .i64 v30), v31])] h fun v32 h_9 =>
        tTup v32 fun l_17 =>
        tCons l_17 fun v33 l_18 =>
        tInt .i64 v33 fun v34 =>
        tCons l_18 fun v35 l_19 =>
        tInt .i64 v35 fun v36 =>
        tNil l_19 (
          newMap h_9 fun r3 h_10 =>
          lenN below fun n2 =>
          s21l3_E (s21l3 Ψ) t1 id_1 l_9 named v34 (.mapr r3) below n2 0 h_10)))

def s21 (Ψ : AVal → Heap → Prop) (a_Leq : AVal) (t : AVal) (id_ : Int) (by_ : AVal) (h : Heap) : Prop :=
  callG prog 35 [(.agg [a_Leq]), .nilsl] h fun v h_ =>
  tTup v fun l_ =>
  tCons l_ fun v1 l_1 =>
  tCons l_1 fun v2 l_2 =>
  tInt .i64 v2 fun v3 =>
  tNil l_2 (
    tAgg v1 fun l_3 =>
    tCons l_3 fun v4 l_4 =>
    tInt .i64 v4 fun v5 =>
    tCons l_4 fun v6 l_5 =>
    tNil l_5 (
      Sym.newRow 2 [(.agg [(.int .i64 0), .nilfunc])] h_ fun r h_1 =>
      st false h_1 (.ptr r 0 0) [(.int .i64 v5), v6] fun h_2 =>
      ifT (v3 != 0) (
        retG (.tuple [(.int .i64 0), (.int .i64 v3)]) h_2 Ψ) (
        callG prog 48 [t, (.int .i64 id_)] h_2 fun v7 h_3 =>
        tTup v7 fun l_6 =>
        tCons l_6 fun v8 l_7 =>
        tCons l_7 fun v9 l_8 =>
        tInt .i64 v9 fun v10 =>
        tNil l_8 (
          ifT (v10 != 0) (
            retG (.tuple [(.int .i64 0), (.int .i64 v10)]) h_3 Ψ) (
            newMap h_3 fun r1 h_4 =>
            lenN by_ fun n =>
            s21l1_E (s21l1 Ψ) t id_ (.ptr r 0 0) v8 (.mapr r1) by_ n 0 h_4)))))

def s21_A (Ψ : AVal → Heap → Prop) : Ann :=
  .seq (.reg [⟨none, [(0, true), (1, false), (2, false)]⟩])
  (.seq (rA 8)
  (.seq (.seq (rA 2)
  (.cond (.seq (rA 3)
  (.leaf))
  (.leaf)))
  (.seq (rA 8)
  (.seq (.seq (rA 2)
  (.cond (.seq (rA 3)
  (.leaf))
  (.leaf)))
  (.seq (rA 2)
  (.seq (.seq (rA 3)
  (.block (.loop [(1, .any), (2, .int .i64), (10, .any), (12, .any), (13, .any), (45, .any), (46, .int .i64), (47, .int .i64)] (fun n l h => s21l1_R (s21l1 Ψ n) l h) (fun L1 =>
  .seq (rA 1)
  (.seq (.cond (.leaf)
  (.leaf))
  (.seq (.block (.seq (rA 4)
  (.seq (.seq (rA 9)
  (.cut [(1, .any), (2, .int .i64), (10, .any), (12, .any), (13, .any), (15, .any), (45, .any), (46, .int .i64), (47, .int .i64), (70, .bool)] (fun l h => J.cons l fun x0 l => J.cons l fun v l => J.int .i64 v fun x1 => J.cons l fun x2 l => J.cons l fun x3 l => J.cons l fun x4 l => J.cons l fun x5 l => J.cons l fun x6 l => J.cons l fun v l => J.int .i64 v fun x7 => J.cons l fun v l => J.int .i64 v fun x8 => J.cons l fun v l => J.bool v fun x9 => J.nil l (s21c2 Ψ (fun y0 y1 y2 y3 y4 y5 y6 y7 h => L1 [y0, (.int .i64 y1), y2, y3, y4, y5, (.int .i64 y6), (.int .i64 y7)] h) x0 x1 x2 x3 x4 x5 x6 x7 x8 x9 h)) (.reg [⟨none, [(0, false), (1, false)]⟩, ⟨some (59, false), [(2, false), (3, false), (4, false)]⟩, ⟨none, [(5, false), (6, false)]⟩, ⟨some (64, false), [(7, false), (8, false), (9, false), (10, false), (11, false)]⟩, ⟨none, [(12, false)]⟩])
  (.cond (.seq (rA 2)
  (.leaf))
  (.leaf))))
  (rA 6))))
  (rA 2)))))))
  (.seq (rA 7)
  (.seq (rA 2)
  (.seq (.seq (rA 3)
  (.block (.loop [(1, .any), (2, .int .i64), (10, .any), (13, .any), (18, .int .i64), (20, .any), (83, .any), (84, .int .i64), (85, .int .i64)] (fun n l h => s21l3_R (s21l3 Ψ n) l h) (fun L3 =>
  .seq (rA 1)
  (.seq (.cond (.leaf)
  (.leaf))
  (.cut [(1, .any), (2, .int .i64), (10, .any), (13, .any), (18, .int .i64), (20, .any), (83, .any), (84, .int .i64), (85, .int .i64)] (fun l h => J.cons l fun x0 l => J.cons l fun v l => J.int .i64 v fun x1 => J.cons l fun x2 l => J.cons l fun x3 l => J.cons l fun v l => J.int .i64 v fun x4 => J.cons l fun x5 l => J.cons l fun x6 l => J.cons l fun v l => J.int .i64 v fun x7 => J.cons l fun v l => J.int .i64 v fun x8 => J.nil l (s21c4 Ψ (fun y0 y1 y2 y3 y4 y5 y6 y7 y8 h => L3 [y0, (.int .i64 y1), y2, y3, (.int .i64 y4), y5, y6, (.int .i64 y7), (.int .i64 y8)] h) x0 x1 x2 x3 x4 x5 x6 x7 x8 h)) (.block (.seq (rA 3)
  (.seq (rA 9)
  (.seq (rA 2)
  (.block (.seq (rA 2)
  (.cond (.seq (rA 9)
  (.seq (.seq (rA 2)
  (.cond (.seq (rA 2)
  (.leaf))
  (.leaf)))
  (rA 4)))
  (.seq (rA 2)
  (.cond (rA 4)
  (.seq (rA 2)
  (.cond (rA 16)
  (.seq (rA 2)
  (.cond (rA 16)
  (.seq (rA 2)
  (.cond (rA 13)
  (.leaf))))))))))))))))
  (rA 2)))))))
  (.seq (rA 5)
  (.leaf)))))))))))

theorem s21_ok {Ψ : AVal → Heap → Prop} {a_Leq : AVal} {t : AVal} {id_ : Int} {by_ : AVal} {h : Heap} (H : s21 Ψ a_Leq t id_ by_ h) : ACalls prog 21 [(.agg [a_Leq]), t, (.int .i64 id_), by_] h Ψ :=
  calls_of_evF func21 (by kernel_rfl) (by kernel_rfl) (by kernel_rfl)
    (Eq.mpr (by as_aux_lemma => kernel_rfl : oblF prog f21 (s21_A Ψ) Ψ = (True ∧ True ∧ (True ∧ (True ∧ True) ∧ True) ∧ True ∧ (True ∧ (True ∧ True) ∧ True) ∧ True ∧ (True ∧ (∀ (h : Heap) (x0 : AVal) (x1 : Int) (x2 x3 x4 x5 : AVal) (x6 x7 : Int), ON (s21l1 Ψ 0 x0 x1 x2 x3 x4 x5 x6 x7 h)) ∧ ∀ n1 : Nat, (∀ (h : Heap) (x0 : AVal) (x1 : Int) (x2 x3 x4 x5 : AVal) (x6 x7 : Int), OI (s21l1 Ψ (n1 + 1) x0 x1 x2 x3 x4 x5 x6 x7 h)) ∧ (True ∧ (True ∧ True) ∧ (True ∧ (True ∧ (True) ∧ (∀ (h : Heap) (x0 : AVal) (x1 : Int) (x2 x3 x4 x5 x6 : AVal) (x7 x8 : Int) (x9 : Bool), OI (s21c2 Ψ (s21l1_G (s21l1 Ψ n1)) x0 x1 x2 x3 x4 x5 x6 x7 x8 x9 h)) ∧ ((True ∧ True) ∧ True)) ∧ True) ∧ True)) ∧ True ∧ True ∧ (True ∧ (∀ (h : Heap) (x0 : AVal) (x1 : Int) (x2 x3 : AVal) (x4 : Int) (x5 x6 : AVal) (x7 x8 : Int), ON (s21l3 Ψ 0 x0 x1 x2 x3 x4 x5 x6 x7 x8 h)) ∧ ∀ n3 : Nat, (∀ (h : Heap) (x0 : AVal) (x1 : Int) (x2 x3 : AVal) (x4 : Int) (x5 x6 : AVal) (x7 x8 : Int), OI (s21l3 Ψ (n3 + 1) x0 x1 x2 x3 x4 x5 x6 x7 x8 h)) ∧ (True ∧ (True ∧ True) ∧ (True ∧ True ∧ True ∧ True ∧ (True ∧ (True ∧ (True ∧ True) ∧ True) ∧ True) ∧ True ∧ True ∧ True ∧ True ∧ True ∧ True ∧ True ∧ True ∧ True) ∧ (∀ (h : Heap) (x0 : AVal) (x1 : Int) (x2 x3 : AVal) (x4 : Int) (x5 x6 : AVal) (x7 x8 : Int), OI (s21c4 Ψ (s21l3_G (s21l3 Ψ n3)) x0 x1 x2 x3 x4 x5 x6 x7 x8 h)) ∧ (True))) ∧ True ∧ True)) ⟨trivial, ⟨trivial, ⟨⟨trivial, ⟨⟨trivial, trivial⟩, trivial⟩⟩, ⟨trivial, ⟨⟨trivial, ⟨⟨trivial, trivial⟩, trivial⟩⟩, ⟨trivial, ⟨⟨trivial, ⟨fun _ _ _ _ _ _ _ _ _ H => H, fun _ => ⟨fun _ _ _ _ _ _ _ _ _ H => H, ⟨trivial, ⟨⟨trivial, trivial⟩, ⟨⟨trivial, ⟨⟨trivial, ⟨trivial, fun _ _ _ _ _ _ _ _ _ _ _ H => H, ⟨⟨trivial, trivial⟩, trivial⟩⟩⟩, trivial⟩⟩, trivial⟩⟩⟩⟩⟩⟩, ⟨trivial, ⟨trivial, ⟨⟨trivial, ⟨fun _ _ _ _ _ _ _ _ _ _ H => H, fun _ => ⟨fun _ _ _ _ _ _ _ _ _ _ H => H, ⟨trivial, ⟨⟨trivial, trivial⟩, ⟨⟨trivial, ⟨trivial, ⟨trivial, ⟨trivial, ⟨⟨trivial, ⟨⟨trivial, ⟨⟨trivial, trivial⟩, trivial⟩⟩, trivial⟩⟩, ⟨trivial, ⟨trivial, ⟨trivial, ⟨trivial, ⟨trivial, ⟨trivial, ⟨trivial, ⟨trivial, trivial⟩⟩⟩⟩⟩⟩⟩⟩⟩⟩⟩⟩⟩, fun _ _ _ _ _ _ _ _ _ _ H => H, trivial⟩⟩⟩⟩⟩⟩, ⟨trivial, trivial⟩⟩⟩⟩⟩⟩⟩⟩⟩⟩⟩)
    (Eq.mpr (by as_aux_lemma => kernel_rfl : evF prog f21 (s21_A Ψ) Ψ [(.agg [a_Leq]), t, (.int .i64 id_), by_] h = s21 Ψ a_Leq t id_ by_ h) H)

/- 23 dictum/dictumref23.Check -/
def s23 (Ψ : AVal → Heap → Prop) (a_Leq : AVal) (h : Heap) : Prop :=
  callG prog 39 [(.agg [a_Leq])] h fun v h_ =>
  tTup v fun l_ =>
  tCons l_ fun v1 l_1 =>
  tCons l_1 fun v2 l_2 =>
  tBool v2 fun v3 =>
  tNil l_2 (
    ifT (!v3) (
      retG (.int .i64 230) h_ Ψ) (
      retG (.int .i64 0) h_ Ψ))

def s23_A (Ψ : AVal → Heap → Prop) : Ann :=
  .seq (.reg [⟨none, [(0, true), (1, false)]⟩])
  (.seq (rA 7)
  (.seq (.seq (rA 2)
  (.cond (.seq (rA 1)
  (.leaf))
  (.leaf)))
  (.seq (rA 1)
  (.leaf))))

theorem s23_ok {Ψ : AVal → Heap → Prop} {a_Leq : AVal} {h : Heap} (H : s23 Ψ a_Leq h) : ACalls prog 23 [(.agg [a_Leq])] h Ψ :=
  calls_of_evF func23 (by kernel_rfl) (by kernel_rfl) (by kernel_rfl)
    (Eq.mpr (by as_aux_lemma => kernel_rfl : oblF prog f23 (s23_A Ψ) Ψ = (True ∧ True ∧ (True ∧ (True ∧ True) ∧ True) ∧ True ∧ True)) ⟨trivial, ⟨trivial, ⟨⟨trivial, ⟨⟨trivial, trivial⟩, trivial⟩⟩, ⟨trivial, trivial⟩⟩⟩⟩)
    (Eq.mpr (by as_aux_lemma => kernel_rfl : evF prog f23 (s23_A Ψ) Ψ [(.agg [a_Leq])] h = s23 Ψ a_Leq h) H)

/- 25 dictum/heyting.Bounds -/
def s25 (Ψ : AVal → Heap → Prop) (a_Leq : AVal) (h : Heap) : Prop :=
  callG prog 35 [(.agg [a_Leq]), .nilsl] h fun v h_ =>
  tTup v fun l_ =>
  tCons l_ fun v1 l_1 =>
  tCons l_1 fun v2 l_2 =>
  tInt .i64 v2 fun v3 =>
  tNil l_2 (
    tAgg v1 fun l_3 =>
    tCons l_3 fun v4 l_4 =>
    tInt .i64 v4 fun v5 =>
    tCons l_4 fun v6 l_5 =>
    tNil l_5 (
      Sym.newRow 2 [(.agg [(.int .i64 0), .nilfunc])] h_ fun r h_1 =>
      st false h_1 (.ptr r 0 0) [(.int .i64 v5), v6] fun h_2 =>
      ifT (v3 != 0) (
        retG (.tuple [(.int .i64 0), (.int .i64 0), (.int .i64 v3)]) h_2 Ψ) (
        ldN 2 h_2 (.ptr r 0 0) fun l_6 =>
        tCons l_6 fun v7 l_7 =>
        tInt .i64 v7 fun v8 =>
        tCons l_7 fun v9 l_8 =>
        tNil l_8 (
          callG prog 36 [(.agg [(.int .i64 v8), v9])] h_2 fun v10 h_3 =>
          tTup v10 fun l_9 =>
          tCons l_9 fun v11 l_10 =>
          tInt .i64 v11 fun v12 =>
          tCons l_10 fun v13 l_11 =>
          tInt .i64 v13 fun v14 =>
          tNil l_11 (
            retG (.tuple [(.int .i64 v12), (.int .i64 v14), (.int .i64 0)]) h_3 Ψ)))))

def s25_A (Ψ : AVal → Heap → Prop) : Ann :=
  .seq (.reg [⟨none, [(0, true), (1, false), (2, false), (3, false)]⟩])
  (.seq (rA 8)
  (.seq (.seq (rA 2)
  (.cond (.seq (rA 4)
  (.leaf))
  (.leaf)))
  (.seq (rA 7)
  (.seq (rA 5)
  (.leaf)))))

theorem s25_ok {Ψ : AVal → Heap → Prop} {a_Leq : AVal} {h : Heap} (H : s25 Ψ a_Leq h) : ACalls prog 25 [(.agg [a_Leq])] h Ψ :=
  calls_of_evF func25 (by kernel_rfl) (by kernel_rfl) (by kernel_rfl)
    (Eq.mpr (by as_aux_lemma => kernel_rfl : oblF prog f25 (s25_A Ψ) Ψ = (True ∧ True ∧ (True ∧ (True ∧ True) ∧ True) ∧ True ∧ True ∧ True)) ⟨trivial, ⟨trivial, ⟨⟨trivial, ⟨⟨trivial, trivial⟩, trivial⟩⟩, ⟨trivial, ⟨trivial, trivial⟩⟩⟩⟩⟩)
    (Eq.mpr (by as_aux_lemma => kernel_rfl : evF prog f25 (s25_A Ψ) Ψ [(.agg [a_Leq])] h = s25 Ψ a_Leq h) H)

/- 28 dictum/heyting.joined -/
abbrev s28l1_T := AVal → AVal → Int → Int → Heap → Prop
def s28l1_R (F : s28l1_T) (l : List AVal) (h : Heap) : Prop := J.cons l fun x0 l => J.cons l fun x1 l => J.cons l fun v l => J.int .i64 v fun x2 => J.cons l fun v l => J.int .i64 v fun x3 => J.nil l (F x0 x1 x2 x3 h)
def s28l1_G (F : s28l1_T) (x0 x1 : AVal) (x2 x3 : Int) (h : Heap) : Prop := gJ [.any, .any, .int .i64, .int .i64] [x0, x1, (.int .i64 x2), (.int .i64 x3)] h (s28l1_R F)
def s28l1_E (F : Nat → s28l1_T) (x0 x1 : AVal) (x2 x3 : Int) (h : Heap) : Prop := gJ [.any, .any, .int .i64, .int .i64] [x0, x1, (.int .i64 x2), (.int .i64 x3)] h (fun l h => ∃ n, s28l1_R (F n) l h)
theorem s28l1_go {F : s28l1_T} {x0 x1 : AVal} {x2 x3 : Int} {h : Heap} (H : F x0 x1 x2 x3 h) : s28l1_G F x0 x1 x2 x3 h := gJ_plain rfl H
theorem s28l1_in {F : Nat → s28l1_T} {x0 x1 : AVal} {x2 x3 : Int} {h : Heap} (n : Nat) (H : F n x0 x1 x2 x3 h) : s28l1_E F x0 x1 x2 x3 h := gJ_plain rfl ⟨n, H⟩

def s28l1 (Ψ : AVal → Heap → Prop) : Nat → s28l1_T
  | 0, _, _, _, _, _ => False
  | n1 + 1, out, t10, t11, t12, h =>
    ifT (decide (t12 < t11)) (
      ixS 1 t10 t12 fun p =>
      ld1 h p fun v1 =>
      tInt .i64 v1 fun v2 =>
      ixS 1 out v2 fun p1 =>
      st true h p1 [(.int .u8 1)] fun h_1 =>
      rg (t12 + 1) (
        s28l1_G (s28l1 Ψ n1) out t10 t11 (t12 + 1) h_1)) (
      bStr h out fun s =>
      retG (.str s) h Ψ)

def s28 (Ψ : AVal → Heap → Prop) (a : ByteArray) (b : AVal) (h : Heap) : Prop :=
  sBytes h (.str a) fun v h_ =>
  lenN b fun n =>
  s28l1_E (s28l1 Ψ) v b n 0 h_

def s28_A (Ψ : AVal → Heap → Prop) : Ann :=
  .seq (rA 1)
  (.seq (rA 3)
  (.seq (.seq (rA 3)
  (.block (.loop [(5, .any), (10, .any), (11, .int .i64), (12, .int .i64)] (fun n l h => s28l1_R (s28l1 Ψ n) l h) (fun L1 =>
  .seq (rA 1)
  (.seq (.cond (.leaf)
  (.leaf))
  (.seq (.block (.seq (rA 3)
  (rA 4)))
  (rA 2)))))))
  (.seq (rA 3)
  (.leaf))))

theorem s28_ok {Ψ : AVal → Heap → Prop} {a : ByteArray} {b : AVal} {h : Heap} (H : s28 Ψ a b h) : ACalls prog 28 [(.str a), b] h Ψ :=
  calls_of_evF func28 (by kernel_rfl) (by kernel_rfl) (by kernel_rfl)
    (Eq.mpr (by as_aux_lemma => kernel_rfl : oblF prog f28 (s28_A Ψ) Ψ = (True ∧ True ∧ (True ∧ (∀ (h : Heap) (x0 x1 : AVal) (x2 x3 : Int), ON (s28l1 Ψ 0 x0 x1 x2 x3 h)) ∧ ∀ n1 : Nat, (∀ (h : Heap) (x0 x1 : AVal) (x2 x3 : Int), OI (s28l1 Ψ (n1 + 1) x0 x1 x2 x3 h)) ∧ (True ∧ (True ∧ True) ∧ (True ∧ True) ∧ True)) ∧ True ∧ True)) ⟨trivial, ⟨trivial, ⟨⟨trivial, ⟨fun _ _ _ _ _ H => H, fun _ => ⟨fun _ _ _ _ _ H => H, ⟨trivial, ⟨⟨trivial, trivial⟩, ⟨⟨trivial, trivial⟩, trivial⟩⟩⟩⟩⟩⟩, ⟨trivial, trivial⟩⟩⟩⟩)
    (Eq.mpr (by as_aux_lemma => kernel_rfl : evF prog f28 (s28_A Ψ) Ψ [(.str a), b] h = s28 Ψ a b h) H)

/- 36 (dictum/heyting.lattice).bounds -/
def s36 (Ψ : AVal → Heap → Prop) (l_n : Int) (l_leq : AVal) (h : Heap) : Prop :=
  callG prog 75 [(.int .i64 l_n), (.func (.func 74) [] []), (.func (.func 76) [(.agg [(.int .i64 l_n), l_leq])] [])] h fun v h_ =>
  tTup v fun l_ =>
  tCons l_ fun v1 l_1 =>
  tInt .i64 v1 fun v2 =>
  tCons l_1 fun v3 l_2 =>
  tBool v3 fun v4 =>
  tNil l_2 (
    callG prog 75 [(.int .i64 l_n), (.func (.func 74) [] []), (.func (.func 77) [(.agg [(.int .i64 l_n), l_leq])] [])] h_ fun v5 h_1 =>
    tTup v5 fun l_3 =>
    tCons l_3 fun v6 l_4 =>
    tInt .i64 v6 fun v7 =>
    tCons l_4 fun v8 l_5 =>
    tBool v8 fun v9 =>
    tNil l_5 (
      retG (.tuple [(.int .i64 v2), (.int .i64 v7)]) h_1 Ψ))

def s36_A (Ψ : AVal → Heap → Prop) : Ann :=
  .seq (.reg [⟨none, [(0, true), (1, false), (2, false)]⟩])
  (.seq (rA 1)
  (.seq (rA 11)
  (.seq (rA 11)
  (.seq (rA 4)
  (.leaf)))))

theorem s36_ok {Ψ : AVal → Heap → Prop} {l_n : Int} {l_leq : AVal} {h : Heap} (H : s36 Ψ l_n l_leq h) : ACalls prog 36 [(.agg [(.int .i64 l_n), l_leq])] h Ψ :=
  calls_of_evF func36 (by kernel_rfl) (by kernel_rfl) (by kernel_rfl)
    (Eq.mpr (by as_aux_lemma => kernel_rfl : oblF prog f36 (s36_A Ψ) Ψ = (True ∧ True ∧ True ∧ True ∧ True ∧ True)) ⟨trivial, ⟨trivial, ⟨trivial, ⟨trivial, ⟨trivial, trivial⟩⟩⟩⟩⟩)
    (Eq.mpr (by as_aux_lemma => kernel_rfl : evF prog f36 (s36_A Ψ) Ψ [(.agg [(.int .i64 l_n), l_leq])] h = s36 Ψ l_n l_leq h) H)

/- 38 dictum/worlds.Tidy -/
abbrev s38l1_T := AVal → AVal → AVal → AVal → Int → Int → Heap → Prop
def s38l1_R (F : s38l1_T) (l : List AVal) (h : Heap) : Prop := J.cons l fun x0 l => J.cons l fun x1 l => J.cons l fun x2 l => J.cons l fun x3 l => J.cons l fun v l => J.int .i64 v fun x4 => J.cons l fun v l => J.int .i64 v fun x5 => J.nil l (F x0 x1 x2 x3 x4 x5 h)
def s38l1_G (F : s38l1_T) (x0 x1 x2 x3 : AVal) (x4 x5 : Int) (h : Heap) : Prop := gJ [.any, .any, .any, .any, .int .i64, .int .i64] [x0, x1, x2, x3, (.int .i64 x4), (.int .i64 x5)] h (s38l1_R F)
def s38l1_E (F : Nat → s38l1_T) (x0 x1 x2 x3 : AVal) (x4 x5 : Int) (h : Heap) : Prop := gJ [.any, .any, .any, .any, .int .i64, .int .i64] [x0, x1, x2, x3, (.int .i64 x4), (.int .i64 x5)] h (fun l h => ∃ n, s38l1_R (F n) l h)
theorem s38l1_go {F : s38l1_T} {x0 x1 x2 x3 : AVal} {x4 x5 : Int} {h : Heap} (H : F x0 x1 x2 x3 x4 x5 h) : s38l1_G F x0 x1 x2 x3 x4 x5 h := gJ_plain rfl H
theorem s38l1_in {F : Nat → s38l1_T} {x0 x1 x2 x3 : AVal} {x4 x5 : Int} {h : Heap} (n : Nat) (H : F n x0 x1 x2 x3 x4 x5 h) : s38l1_E F x0 x1 x2 x3 x4 x5 h := gJ_plain rfl ⟨n, H⟩

abbrev s38l2_T := AVal → AVal → AVal → AVal → AVal → AVal → AVal → Int → Int → AVal → Int → Int → Heap → Prop
def s38l2_R (F : s38l2_T) (l : List AVal) (h : Heap) : Prop := J.cons l fun x0 l => J.cons l fun x1 l => J.cons l fun x2 l => J.cons l fun x3 l => J.cons l fun x4 l => J.cons l fun x5 l => J.cons l fun x6 l => J.cons l fun v l => J.int .i64 v fun x7 => J.cons l fun v l => J.int .i64 v fun x8 => J.cons l fun x9 l => J.cons l fun v l => J.int .i64 v fun x10 => J.cons l fun v l => J.int .i64 v fun x11 => J.nil l (F x0 x1 x2 x3 x4 x5 x6 x7 x8 x9 x10 x11 h)
def s38l2_G (F : s38l2_T) (x0 x1 x2 x3 x4 x5 x6 : AVal) (x7 x8 : Int) (x9 : AVal) (x10 x11 : Int) (h : Heap) : Prop := gJ [.any, .any, .any, .any, .any, .any, .any, .int .i64, .int .i64, .any, .int .i64, .int .i64] [x0, x1, x2, x3, x4, x5, x6, (.int .i64 x7), (.int .i64 x8), x9, (.int .i64 x10), (.int .i64 x11)] h (s38l2_R F)
def s38l2_E (F : Nat → s38l2_T) (x0 x1 x2 x3 x4 x5 x6 : AVal) (x7 x8 : Int) (x9 : AVal) (x10 x11 : Int) (h : Heap) : Prop := gJ [.any, .any, .any, .any, .any, .any, .any, .int .i64, .int .i64, .any, .int .i64, .int .i64] [x0, x1, x2, x3, x4, x5, x6, (.int .i64 x7), (.int .i64 x8), x9, (.int .i64 x10), (.int .i64 x11)] h (fun l h => ∃ n, s38l2_R (F n) l h)
theorem s38l2_go {F : s38l2_T} {x0 x1 x2 x3 x4 x5 x6 : AVal} {x7 x8 : Int} {x9 : AVal} {x10 x11 : Int} {h : Heap} (H : F x0 x1 x2 x3 x4 x5 x6 x7 x8 x9 x10 x11 h) : s38l2_G F x0 x1 x2 x3 x4 x5 x6 x7 x8 x9 x10 x11 h := gJ_plain rfl H
theorem s38l2_in {F : Nat → s38l2_T} {x0 x1 x2 x3 x4 x5 x6 : AVal} {x7 x8 : Int} {x9 : AVal} {x10 x11 : Int} {h : Heap} (n : Nat) (H : F n x0 x1 x2 x3 x4 x5 x6 x7 x8 x9 x10 x11 h) : s38l2_E F x0 x1 x2 x3 x4 x5 x6 x7 x8 x9 x10 x11 h := gJ_plain rfl ⟨n, H⟩

def s38c3 (Ψ : AVal → Heap → Prop) (L1 : s38l1_T) (L2 : s38l2_T) (m2 t2_2 leq2 out2 a1 next1 row1 : AVal) (t24_2 t25_2 : Int) (t32_1 : AVal) (t33_1 t34_1 : Int) (h : Heap) : Prop :=
  rg (t34_1 + 1) (
    L2 m2 t2_2 leq2 out2 a1 next1 row1 t24_2 t25_2 t32_1 t33_1 (t34_1 + 1) h)

def s38l2 (Ψ : AVal → Heap → Prop) (L1 : s38l1_T) : Nat → s38l2_T
  | 0, _, _, _, _, _, _, _, _, _, _, _, _, _ => False
  | n3 + 1, m1, t2_1, leq1, out1, a, next, row, t24_1, t25_1, t32, t33, t34, h =>
    ifT (decide (t34 < t33)) (
      ixS 1 t32 t34 fun p =>
      ld1 h p fun v10 =>
      tInt .i64 v10 fun v11 =>
      callV prog next [(.int .i64 v11)] h fun v12 h_11 =>
      tBool v12 fun v13 =>
      ifT v13 (
        appC 1 8 h_11 row (.lsl 1 [(.int .i64 v11)]) fun v14 h_12 =>
        s38c3 Ψ L1 (s38l2_G (s38l2 Ψ L1 n3)) m1 t2_1 leq1 out1 a next v14 t24_1 t25_1 t32 t33 t34 h_12) (
        s38c3 Ψ L1 (s38l2_G (s38l2 Ψ L1 n3)) m1 t2_1 leq1 out1 a next row t24_1 t25_1 t32 t33 t34 h_11)) (
      addOff out1 0 fun p1 =>
      ld1 h p1 fun v15 =>
      chk (sc row) (
        appC 1 24 h v15 (.lsl 1 [row]) fun v16 h_13 =>
        addOff out1 0 fun p2 =>
        chk (sc v16) (
          st true h_13 p2 [v16] fun h_14 =>
          addOff out1 1 fun p3 =>
          ld1 h_14 p3 fun v17 =>
          addOff m1 1 fun p4 =>
          ld1 h_14 p4 fun v18 =>
          ld1 h_14 a fun v19 =>
          tInt .i64 v19 fun v20 =>
          ixS 1 v18 v20 fun p5 =>
          ld1 h_14 p5 fun v21 =>
          callG prog 85 [v21] h_14 fun v22 h_15 =>
          (ld1 h_15 p3 fun v23 =>
          v23 = v17) ∧
          chk (sc v22) (
            (ld1 h_15 p3 fun v24 =>
            v24 = v17) ∧
            appC 1 24 h_15 v17 (.lsl 1 [v22]) fun v25 h_16 =>
            addOff out1 1 fun p6 =>
            chk (sc v25) (
              st true h_16 p6 [v25] fun h_17 =>
              rg (t25_1 + 1) (
                L1 m1 t2_1 leq1 out1 t24_1 (t25_1 + 1) h_17))))))

def s38l1 (Ψ : AVal → Heap → Prop) : Nat → s38l1_T
  | 0, _, _, _, _, _, _, _ => False
  | n1 + 1, m, t2, leq, out, t24, t25, h =>
    ifT (decide (t25 < t24)) (
      Sym.newRow 1 [(.int .i64 0)] h fun r3 h_6 =>
      st true h_6 (.ptr r3 0 0) [(.int .i64 t25)] fun h_7 =>
      ldN 2 h_7 m fun l_6 =>
      tCons l_6 fun v6 l_7 =>
      tCons l_7 fun v7 l_8 =>
      tNil l_8 (
        callG prog 80 [(.agg [v6, v7]), (.func (.func 81) [] [(.ptr r3 0 0), leq])] h_7 fun v8 h_8 =>
        Sym.newRow 1 [.nilsl] h_8 fun r4 h_9 =>
        chk (sc v8) (
          st true h_9 (.ptr r4 0 0) [v8] fun h_10 =>
          ld1 h_10 (.ptr r4 0 0) fun v9 =>
          lenN v9 fun n2 =>
          s38l2_E (s38l2 Ψ (s38l1_G (s38l1 Ψ n1))) m t2 leq out (.ptr r3 0 0) (.func (.func 82) [] [(.ptr r4 0 0), leq]) .nilsl t24 t25 v9 n2 0 h_10))) (
      ldN 2 h out fun l_9 =>
      tCons l_9 fun v26 l_10 =>
      tCons l_10 fun v27 l_11 =>
      tNil l_11 (
        st false h t2 [v26, v27] fun h_18 =>
        ldN 2 h_18 t2 fun l_12 =>
        tCons l_12 fun v28 l_13 =>
        tCons l_13 fun v29 l_14 =>
        tNil l_14 (
          retG (.tuple [(.agg [v28, v29]), (.int .i64 0)]) h_18 Ψ)))

def s38 (Ψ : AVal → Heap → Prop) (m_Up : AVal) (m_Val : AVal) (h : Heap) : Prop :=
  Sym.newRow 2 [(.agg [.nilsl, .nilsl])] h fun r h_ =>
  callG prog 79 [(.agg [m_Up, m_Val]), .nilsl] h_ fun v h_1 =>
  tTup v fun l_ =>
  tCons l_ fun v1 l_1 =>
  tCons l_1 fun v2 l_2 =>
  tInt .i64 v2 fun v3 =>
  tNil l_2 (
    Sym.newRow 1 [.nilfunc] h_1 fun r1 h_2 =>
    chk (sc v1) (
      st true h_2 (.ptr r1 0 0) [v1] fun h_3 =>
      ifT (v3 != 0) (
        st false h_3 (.ptr r 0 0) [.nilsl, .nilsl] fun h_4 =>
        ldN 2 h_4 (.ptr r 0 0) fun l_3 =>
        tCons l_3 fun v4 l_4 =>
        tCons l_4 fun v5 l_5 =>
        tNil l_5 (
          retG (.tuple [(.agg [v4, v5]), (.int .i64 v3)]) h_4 Ψ)) (
        Sym.newRow 2 [(.agg [.nilsl, .nilsl])] h_3 fun r2 h_5 =>
        lenN m_Up fun n =>
        s38l1_E (s38l1 Ψ) (.lptr [m_Up, m_Val]) (.ptr r 0 0) (.ptr r1 0 0) (.ptr r2 0 0) n 0 h_5)))

def s38_A (Ψ : AVal → Heap → Prop) : Ann :=
  .seq (.reg [⟨none, [(0, true), (1, false), (2, false)]⟩])
  (.seq (rA 8)
  (.seq (.seq (rA 2)
  (.cond (.seq (rA 4)
  (.leaf))
  (.leaf)))
  (.seq (rA 1)
  (.seq (.seq (rA 4)
  (.block (.loop [(1, .any), (2, .any), (4, .any), (6, .any), (24, .int .i64), (25, .int .i64)] (fun n l h => s38l1_R (s38l1 Ψ n) l h) (fun L1 =>
  .seq (rA 1)
  (.seq (.cond (.leaf)
  (.leaf))
  (.seq (.block (.seq (rA 3)
  (.seq (rA 5)
  (.seq (rA 2)
  (.seq (rA 1)
  (.seq (.seq (rA 3)
  (.block (.loop [(1, .any), (2, .any), (4, .any), (6, .any), (7, .any), (9, .any), (10, .any), (24, .int .i64), (25, .int .i64), (32, .any), (33, .int .i64), (34, .int .i64)] (fun n l h => s38l2_R (s38l2 Ψ (fun y0 y1 y2 y3 y4 y5 h => L1 [y0, y1, y2, y3, (.int .i64 y4), (.int .i64 y5)] h) n) l h) (fun L2 =>
  .seq (rA 1)
  (.seq (.cond (.leaf)
  (.leaf))
  (.cut [(1, .any), (2, .any), (4, .any), (6, .any), (7, .any), (9, .any), (10, .any), (24, .int .i64), (25, .int .i64), (32, .any), (33, .int .i64), (34, .int .i64)] (fun l h => J.cons l fun x0 l => J.cons l fun x1 l => J.cons l fun x2 l => J.cons l fun x3 l => J.cons l fun x4 l => J.cons l fun x5 l => J.cons l fun x6 l => J.cons l fun v l => J.int .i64 v fun x7 => J.cons l fun v l => J.int .i64 v fun x8 => J.cons l fun x9 l => J.cons l fun v l => J.int .i64 v fun x10 => J.cons l fun v l => J.int .i64 v fun x11 => J.nil l (s38c3 Ψ (fun y0 y1 y2 y3 y4 y5 h => L1 [y0, y1, y2, y3, (.int .i64 y4), (.int .i64 y5)] h) (fun y0 y1 y2 y3 y4 y5 y6 y7 y8 y9 y10 y11 h => L2 [y0, y1, y2, y3, y4, y5, y6, (.int .i64 y7), (.int .i64 y8), y9, (.int .i64 y10), (.int .i64 y11)] h) x0 x1 x2 x3 x4 x5 x6 x7 x8 x9 x10 x11 h)) (.block (.seq (rA 3)
  (.seq (rA 3)
  (.cond (.reg [⟨none, [(0, false), (1, false), (2, true), (3, false), (4, false)]⟩])
  (.leaf)))))
  (rA 2)))))))
  (.seq (.reg [⟨none, [(0, false), (1, false), (2, false), (3, true), (4, false), (5, false), (6, false)]⟩])
  (.draw [(0, false), (1, false), (2, false), (3, false), (4, false), (5, false), (6, false), (7, false), (8, true), (9, false), (10, false), (11, false)] [0, 1, 0, 4, 0, 28, 60, 124, 252, 511, 1023, 2047]))))))))
  (rA 2)))))))
  (.seq (rA 3)
  (.leaf))))))

theorem s38_ok {Ψ : AVal → Heap → Prop} {m_Up : AVal} {m_Val : AVal} {h : Heap} (H : s38 Ψ m_Up m_Val h) : ACalls prog 38 [(.agg [m_Up, m_Val])] h Ψ :=
  calls_of_evF func38 (by kernel_rfl) (by kernel_rfl) (by kernel_rfl)
    (Eq.mpr (by as_aux_lemma => kernel_rfl : oblF prog f38 (s38_A Ψ) Ψ = (True ∧ True ∧ (True ∧ (True ∧ True) ∧ True) ∧ True ∧ (True ∧ (∀ (h : Heap) (x0 x1 x2 x3 : AVal) (x4 x5 : Int), ON (s38l1 Ψ 0 x0 x1 x2 x3 x4 x5 h)) ∧ ∀ n1 : Nat, (∀ (h : Heap) (x0 x1 x2 x3 : AVal) (x4 x5 : Int), OI (s38l1 Ψ (n1 + 1) x0 x1 x2 x3 x4 x5 h)) ∧ (True ∧ (True ∧ True) ∧ (True ∧ True ∧ True ∧ True ∧ (True ∧ (∀ (h : Heap) (x0 x1 x2 x3 x4 x5 x6 : AVal) (x7 x8 : Int) (x9 : AVal) (x10 x11 : Int), ON (s38l2 Ψ (s38l1_G (s38l1 Ψ n1)) 0 x0 x1 x2 x3 x4 x5 x6 x7 x8 x9 x10 x11 h)) ∧ ∀ n2 : Nat, (∀ (h : Heap) (x0 x1 x2 x3 x4 x5 x6 : AVal) (x7 x8 : Int) (x9 : AVal) (x10 x11 : Int), OI (s38l2 Ψ (s38l1_G (s38l1 Ψ n1)) (n2 + 1) x0 x1 x2 x3 x4 x5 x6 x7 x8 x9 x10 x11 h)) ∧ (True ∧ (True ∧ True) ∧ (True ∧ True ∧ True ∧ True) ∧ (∀ (h : Heap) (x0 x1 x2 x3 x4 x5 x6 : AVal) (x7 x8 : Int) (x9 : AVal) (x10 x11 : Int), OI (s38c3 Ψ (s38l1_G (s38l1 Ψ n1)) (s38l2_G (s38l2 Ψ (s38l1_G (s38l1 Ψ n1)) n2)) x0 x1 x2 x3 x4 x5 x6 x7 x8 x9 x10 x11 h)) ∧ (True))) ∧ True ∧ True) ∧ True)) ∧ True ∧ True)) ⟨trivial, ⟨trivial, ⟨⟨trivial, ⟨⟨trivial, trivial⟩, trivial⟩⟩, ⟨trivial, ⟨⟨trivial, ⟨fun _ _ _ _ _ _ _ H => H, fun _ => ⟨fun _ _ _ _ _ _ _ H => H, ⟨trivial, ⟨⟨trivial, trivial⟩, ⟨⟨trivial, ⟨trivial, ⟨trivial, ⟨trivial, ⟨⟨trivial, ⟨fun _ _ _ _ _ _ _ _ _ _ _ _ _ H => H, fun _ => ⟨fun _ _ _ _ _ _ _ _ _ _ _ _ _ H => H, ⟨trivial, ⟨⟨trivial, trivial⟩, ⟨⟨trivial, ⟨trivial, ⟨trivial, trivial⟩⟩⟩, fun _ _ _ _ _ _ _ _ _ _ _ _ _ H => H, trivial⟩⟩⟩⟩⟩⟩, ⟨trivial, trivial⟩⟩⟩⟩⟩⟩, trivial⟩⟩⟩⟩⟩⟩, ⟨trivial, trivial⟩⟩⟩⟩⟩⟩)
    (Eq.mpr (by as_aux_lemma => kernel_rfl : evF prog f38 (s38_A Ψ) Ψ [(.agg [m_Up, m_Val])] h = s38 Ψ m_Up m_Val h) H)

/- 40 (*dictum/dictumref23.H).Bounds -/
abbrev s40l1_T := AVal → Int → Int → Int → Heap → Prop
def s40l1_R (F : s40l1_T) (l : List AVal) (h : Heap) : Prop := J.cons l fun x0 l => J.cons l fun v l => J.int .i64 v fun x1 => J.cons l fun v l => J.int .i64 v fun x2 => J.cons l fun v l => J.int .i64 v fun x3 => J.nil l (F x0 x1 x2 x3 h)
def s40l1_G (F : s40l1_T) (x0 : AVal) (x1 x2 x3 : Int) (h : Heap) : Prop := gJ [.any, .int .i64, .int .i64, .int .i64] [x0, (.int .i64 x1), (.int .i64 x2), (.int .i64 x3)] h (s40l1_R F)
def s40l1_E (F : Nat → s40l1_T) (x0 : AVal) (x1 x2 x3 : Int) (h : Heap) : Prop := gJ [.any, .int .i64, .int .i64, .int .i64] [x0, (.int .i64 x1), (.int .i64 x2), (.int .i64 x3)] h (fun l h => ∃ n, s40l1_R (F n) l h)
theorem s40l1_go {F : s40l1_T} {x0 : AVal} {x1 x2 x3 : Int} {h : Heap} (H : F x0 x1 x2 x3 h) : s40l1_G F x0 x1 x2 x3 h := gJ_plain rfl H
theorem s40l1_in {F : Nat → s40l1_T} {x0 : AVal} {x1 x2 x3 : Int} {h : Heap} (n : Nat) (H : F n x0 x1 x2 x3 h) : s40l1_E F x0 x1 x2 x3 h := gJ_plain rfl ⟨n, H⟩

def s40c2 (Ψ : AVal → Heap → Prop) (L1 : s40l1_T) (h_2 : AVal) (low1 high1 x1 : Int) (h : Heap) : Prop :=
  rg (x1 + 1) (
    L1 h_2 low1 high1 (x1 + 1) h)

def s40c3 (Ψ : AVal → Heap → Prop) (L1 : s40l1_T) (h_3 : AVal) (low2 high2 x2 : Int) (h : Heap) : Prop :=
  nilCheckA h_3 fun p2 =>
  addOff p2 0 fun p3 =>
  ld1 h p3 fun v1 =>
  ixS 1 v1 high2 fun p4 =>
  ld1 h p4 fun v2 =>
  ixS 1 v2 x2 fun p5 =>
  ld1 h p5 fun v3 =>
  tBool v3 fun v4 =>
  ifT v4 (
    s40c2 Ψ L1 h_3 low2 x2 x2 h) (
    s40c2 Ψ L1 h_3 low2 high2 x2 h)

def s40l1 (Ψ : AVal → Heap → Prop) : Nat → s40l1_T
  | 0, _, _, _, _, _ => False
  | n + 1, h_1, low, high, x, h =>
    nilCheckA h_1 fun p =>
    addOff p 0 fun p1 =>
    ld1 h p1 fun v =>
    lenN v fun n1 =>
    ifT (decide (x < n1)) (
      nilCheckA h_1 fun p6 =>
      addOff p6 0 fun p7 =>
      ld1 h p7 fun v5 =>
      ixS 1 v5 x fun p8 =>
      ld1 h p8 fun v6 =>
      ixS 1 v6 low fun p9 =>
      ld1 h p9 fun v7 =>
      tBool v7 fun v8 =>
      ifT v8 (
        s40c3 Ψ (s40l1_G (s40l1 Ψ n)) h_1 x high x h) (
        s40c3 Ψ (s40l1_G (s40l1 Ψ n)) h_1 low high x h)) (
      retG (.tuple [(.int .i64 low), (.int .i64 high)]) h Ψ)

def s40 (Ψ : AVal → Heap → Prop) (h_ : AVal) (h : Heap) : Prop :=
  s40l1_E (s40l1 Ψ) h_ 0 0 0 h

def s40_A (Ψ : AVal → Heap → Prop) : Ann :=
  .seq (rA 2)
  (.seq (rA 1)
  (.seq (rA 1)
  (.seq (.seq (rA 1)
  (.block (.loop [(0, .any), (4, .int .i64), (5, .int .i64), (6, .int .i64)] (fun n l h => s40l1_R (s40l1 Ψ n) l h) (fun L1 =>
  .seq (.seq (rA 7)
  (.cond (.leaf)
  (.leaf)))
  (.cut [(0, .any), (4, .int .i64), (5, .int .i64), (6, .int .i64)] (fun l h => J.cons l fun x0 l => J.cons l fun v l => J.int .i64 v fun x1 => J.cons l fun v l => J.int .i64 v fun x2 => J.cons l fun v l => J.int .i64 v fun x3 => J.nil l (s40c2 Ψ (fun y0 y1 y2 y3 h => L1 [y0, (.int .i64 y1), (.int .i64 y2), (.int .i64 y3)] h) x0 x1 x2 x3 h)) (.block (.cut [(0, .any), (4, .int .i64), (5, .int .i64), (6, .int .i64)] (fun l h => J.cons l fun x0 l => J.cons l fun v l => J.int .i64 v fun x1 => J.cons l fun v l => J.int .i64 v fun x2 => J.cons l fun v l => J.int .i64 v fun x3 => J.nil l (s40c3 Ψ (fun y0 y1 y2 y3 h => L1 [y0, (.int .i64 y1), (.int .i64 y2), (.int .i64 y3)] h) x0 x1 x2 x3 h)) (.seq (rA 10)
  (.cond (rA 2)
  (.leaf)))
  (.seq (rA 10)
  (.cond (rA 2)
  (.leaf)))))
  (rA 3))))))
  (.seq (rA 4)
  (.leaf)))))

theorem s40_ok {Ψ : AVal → Heap → Prop} {h_ : AVal} {h : Heap} (H : s40 Ψ h_ h) : ACalls prog 40 [h_] h Ψ :=
  calls_of_evF func40 (by kernel_rfl) (by kernel_rfl) (by kernel_rfl)
    (Eq.mpr (by as_aux_lemma => kernel_rfl : oblF prog f40 (s40_A Ψ) Ψ = (True ∧ True ∧ True ∧ (True ∧ (∀ (h : Heap) (x0 : AVal) (x1 x2 x3 : Int), ON (s40l1 Ψ 0 x0 x1 x2 x3 h)) ∧ ∀ n1 : Nat, (∀ (h : Heap) (x0 : AVal) (x1 x2 x3 : Int), OI (s40l1 Ψ (n1 + 1) x0 x1 x2 x3 h)) ∧ ((True ∧ True ∧ True) ∧ ((True ∧ True ∧ True) ∧ (∀ (h : Heap) (x0 : AVal) (x1 x2 x3 : Int), OI (s40c3 Ψ (s40l1_G (s40l1 Ψ n1)) x0 x1 x2 x3 h)) ∧ (True ∧ True ∧ True)) ∧ (∀ (h : Heap) (x0 : AVal) (x1 x2 x3 : Int), OI (s40c2 Ψ (s40l1_G (s40l1 Ψ n1)) x0 x1 x2 x3 h)) ∧ (True))) ∧ True ∧ True)) ⟨trivial, ⟨trivial, ⟨trivial, ⟨⟨trivial, ⟨fun _ _ _ _ _ H => H, fun _ => ⟨fun _ _ _ _ _ H => H, ⟨⟨trivial, ⟨trivial, trivial⟩⟩, ⟨⟨⟨trivial, ⟨trivial, trivial⟩⟩, fun _ _ _ _ _ H => H, ⟨trivial, ⟨trivial, trivial⟩⟩⟩, fun _ _ _ _ _ H => H, trivial⟩⟩⟩⟩⟩, ⟨trivial, trivial⟩⟩⟩⟩⟩)
    (Eq.mpr (by as_aux_lemma => kernel_rfl : evF prog f40 (s40_A Ψ) Ψ [h_] h = s40 Ψ h_ h) H)

/- 43 dictum/heyting.Imp -/
def s43 (Ψ : AVal → Heap → Prop) (a_Leq : AVal) (x : Int) (y : Int) (h : Heap) : Prop :=
  callG prog 35 [(.agg [a_Leq]), (.lsl 1 [(.int .i64 x), (.int .i64 y)])] h fun v h_ =>
  tTup v fun l_ =>
  tCons l_ fun v1 l_1 =>
  tCons l_1 fun v2 l_2 =>
  tInt .i64 v2 fun v3 =>
  tNil l_2 (
    tAgg v1 fun l_3 =>
    tCons l_3 fun v4 l_4 =>
    tInt .i64 v4 fun v5 =>
    tCons l_4 fun v6 l_5 =>
    tNil l_5 (
      Sym.newRow 2 [(.agg [(.int .i64 0), .nilfunc])] h_ fun r h_1 =>
      st false h_1 (.ptr r 0 0) [(.int .i64 v5), v6] fun h_2 =>
      ifT (v3 != 0) (
        retG (.tuple [(.int .i64 0), (.int .i64 v3)]) h_2 Ψ) (
        ldN 2 h_2 (.ptr r 0 0) fun l_6 =>
        tCons l_6 fun v7 l_7 =>
        tInt .i64 v7 fun v8 =>
        tCons l_7 fun v9 l_8 =>
        tNil l_8 (
          callG prog 51 [(.agg [(.int .i64 v8), v9]), (.int .i64 x), (.int .i64 y)] h_2 fun v10 h_3 =>
          tInt .i64 v10 fun v11 =>
          retG (.tuple [(.int .i64 v11), (.int .i64 0)]) h_3 Ψ))))

def s43_A (Ψ : AVal → Heap → Prop) : Ann :=
  .seq (.reg [⟨none, [(0, true), (1, false), (2, false)]⟩])
  (.seq (.reg [⟨none, [(0, false), (1, false), (2, false), (3, true), (4, false), (5, false), (6, false), (7, false), (8, false), (9, false), (10, false)]⟩])
  (.seq (.seq (rA 2)
  (.cond (.seq (rA 3)
  (.leaf))
  (.leaf)))
  (.seq (rA 6)
  (.leaf))))

theorem s43_ok {Ψ : AVal → Heap → Prop} {a_Leq : AVal} {x : Int} {y : Int} {h : Heap} (H : s43 Ψ a_Leq x y h) : ACalls prog 43 [(.agg [a_Leq]), (.int .i64 x), (.int .i64 y)] h Ψ :=
  calls_of_evF func43 (by kernel_rfl) (by kernel_rfl) (by kernel_rfl)
    (Eq.mpr (by as_aux_lemma => kernel_rfl : oblF prog f43 (s43_A Ψ) Ψ = (True ∧ True ∧ (True ∧ (True ∧ True) ∧ True) ∧ True ∧ True)) ⟨trivial, ⟨trivial, ⟨⟨trivial, ⟨⟨trivial, trivial⟩, trivial⟩⟩, ⟨trivial, trivial⟩⟩⟩⟩)
    (Eq.mpr (by as_aux_lemma => kernel_rfl : evF prog f43 (s43_A Ψ) Ψ [(.agg [a_Leq]), (.int .i64 x), (.int .i64 y)] h = s43 Ψ a_Leq x y h) H)

/- 45 dictum/heyting.Check -/
def s45 (Ψ : AVal → Heap → Prop) (a_Leq : AVal) (h : Heap) : Prop :=
  callG prog 35 [(.agg [a_Leq]), .nilsl] h fun v h_ =>
  tTup v fun l_ =>
  tCons l_ fun v1 l_1 =>
  tCons l_1 fun v2 l_2 =>
  tInt .i64 v2 fun v3 =>
  tNil l_2 (
    tAgg v1 fun l_3 =>
    tCons l_3 fun v4 l_4 =>
    tInt .i64 v4 fun v5 =>
    tCons l_4 fun v6 l_5 =>
    tNil l_5 (
      Sym.newRow 2 [(.agg [(.int .i64 0), .nilfunc])] h_ fun r h_1 =>
      st false h_1 (.ptr r 0 0) [(.int .i64 v5), v6] fun h_2 =>
      retG (.int .i64 v3) h_2 Ψ))

def s45_A (Ψ : AVal → Heap → Prop) : Ann :=
  .seq (.reg [⟨none, [(0, true), (1, false)]⟩])
  (.seq (rA 8)
  (.seq (rA 2)
  (.leaf)))

theorem s45_ok {Ψ : AVal → Heap → Prop} {a_Leq : AVal} {h : Heap} (H : s45 Ψ a_Leq h) : ACalls prog 45 [(.agg [a_Leq])] h Ψ :=
  calls_of_evF func45 (by kernel_rfl) (by kernel_rfl) (by kernel_rfl)
    (Eq.mpr (by as_aux_lemma => kernel_rfl : oblF prog f45 (s45_A Ψ) Ψ = (True ∧ True ∧ True ∧ True)) ⟨trivial, ⟨trivial, ⟨trivial, trivial⟩⟩⟩)
    (Eq.mpr (by as_aux_lemma => kernel_rfl : evF prog f45 (s45_A Ψ) Ψ [(.agg [a_Leq])] h = s45 Ψ a_Leq h) H)

/- 47 dictum/formula.From -/
abbrev s47l1_T := AVal → AVal → Int → Int → Heap → Prop
def s47l1_R (F : s47l1_T) (l : List AVal) (h : Heap) : Prop := J.cons l fun x0 l => J.cons l fun x1 l => J.cons l fun v l => J.int .i64 v fun x2 => J.cons l fun v l => J.int .i64 v fun x3 => J.nil l (F x0 x1 x2 x3 h)
def s47l1_G (F : s47l1_T) (x0 x1 : AVal) (x2 x3 : Int) (h : Heap) : Prop := gJ [.any, .any, .int .i64, .int .i64] [x0, x1, (.int .i64 x2), (.int .i64 x3)] h (s47l1_R F)
def s47l1_E (F : Nat → s47l1_T) (x0 x1 : AVal) (x2 x3 : Int) (h : Heap) : Prop := gJ [.any, .any, .int .i64, .int .i64] [x0, x1, (.int .i64 x2), (.int .i64 x3)] h (fun l h => ∃ n, s47l1_R (F n) l h)
theorem s47l1_go {F : s47l1_T} {x0 x1 : AVal} {x2 x3 : Int} {h : Heap} (H : F x0 x1 x2 x3 h) : s47l1_G F x0 x1 x2 x3 h := gJ_plain rfl H
theorem s47l1_in {F : Nat → s47l1_T} {x0 x1 : AVal} {x2 x3 : Int} {h : Heap} (n : Nat) (H : F n x0 x1 x2 x3 h) : s47l1_E F x0 x1 x2 x3 h := gJ_plain rfl ⟨n, H⟩

def s47c2 (Ψ : AVal → Heap → Prop) (L1 : s47l1_T) (t1 : AVal) (e : Int) (t10_1 : AVal) (t11_1 t12_1 : Int) (h : Heap) : Prop :=
  ifT (e != 0) (
    retG (.tuple [.nilptr, (.int .i64 e)]) h Ψ) (
    rg (t12_1 + 1) (
      L1 t1 t10_1 t11_1 (t12_1 + 1) h))

def s47c3 (Ψ : AVal → Heap → Prop) (L1 : s47l1_T) (t2 : AVal) (e1 : Int) (t10_2 : AVal) (t11_2 t12_2 : Int) (t29 : Bool) (h : Heap) : Prop :=
  ifT t29 (
    s47c2 Ψ L1 t2 31 t10_2 t11_2 t12_2 h) (
    s47c2 Ψ L1 t2 e1 t10_2 t11_2 t12_2 h)

def s47l1 (Ψ : AVal → Heap → Prop) : Nat → s47l1_T
  | 0, _, _, _, _, _ => False
  | n1 + 1, t, t10, t11, t12, h =>
    ifT (decide (t12 < t11)) (
      ixS 4 t10 t12 fun p =>
      ldN 4 h p fun l_ =>
      tCons l_ fun v1 l_1 =>
      tInt .i64 v1 fun v2 =>
      tCons l_1 fun v3 l_2 =>
      tStr v3 fun v4 =>
      tCons l_2 fun v5 l_3 =>
      tInt .i64 v5 fun v6 =>
      tCons l_3 fun v7 l_4 =>
      tInt .i64 v7 fun v8 =>
      tNil l_4 (
        Sym.newRow 4 [(.agg [(.int .i64 0), (.str (ByteArray.mk #[])), (.int .i64 0), (.int .i64 0)])] h fun r h_1 =>
        st false h_1 (.ptr r 0 0) [(.int .i64 v2), (.str v4), (.int .i64 v6), (.int .i64 v8)] fun h_2 =>
        ldN 4 h_2 (.ptr r 0 0) fun l_5 =>
        tCons l_5 fun v9 l_6 =>
        tInt .i64 v9 fun v10 =>
        tCons l_6 fun v11 l_7 =>
        tStr v11 fun v12 =>
        tCons l_7 fun v13 l_8 =>
        tInt .i64 v13 fun v14 =>
        tCons l_8 fun v15 l_9 =>
        tInt .i64 v15 fun v16 =>
        tNil l_9 (
          callG prog 90 [t, (.agg [(.int .i64 v10), (.str v12), (.int .i64 v14), (.int .i64 v16)])] h_2 fun v17 h_3 =>
          tTup v17 fun l_10 =>
          tCons l_10 fun v18 l_11 =>
          tInt .i64 v18 fun v19 =>
          tCons l_11 fun v20 l_12 =>
          tInt .i64 v20 fun v21 =>
          tNil l_12 (
            ifT (v21 == 0) (
              s47c3 Ψ (s47l1_G (s47l1 Ψ n1)) t v21 t10 t11 t12 (v19 != t12) h_3) (
              s47c3 Ψ (s47l1_G (s47l1 Ψ n1)) t v21 t10 t11 t12 false h_3))))) (
      retG (.tuple [t, (.int .i64 0)]) h Ψ)

def s47 (Ψ : AVal → Heap → Prop) (rows : AVal) (h : Heap) : Prop :=
  callG prog 89 [] h fun v h_ =>
  lenN rows fun n =>
  s47l1_E (s47l1 Ψ) v rows n 0 h_

def s47_A (Ψ : AVal → Heap → Prop) : Ann :=
  .seq (rA 2)
  (.seq (rA 2)
  (.seq (.seq (rA 3)
  (.block (.loop [(4, .any), (10, .any), (11, .int .i64), (12, .int .i64)] (fun n l h => s47l1_R (s47l1 Ψ n) l h) (fun L1 =>
  .seq (rA 1)
  (.seq (.cond (.leaf)
  (.leaf))
  (.seq (.block (.seq (rA 6)
  (.seq (rA 8)
  (.cut [(4, .any), (8, .int .i64), (10, .any), (11, .int .i64), (12, .int .i64)] (fun l h => J.cons l fun x0 l => J.cons l fun v l => J.int .i64 v fun x1 => J.cons l fun x2 l => J.cons l fun v l => J.int .i64 v fun x3 => J.cons l fun v l => J.int .i64 v fun x4 => J.nil l (s47c2 Ψ (fun y0 y1 y2 y3 h => L1 [y0, y1, (.int .i64 y2), (.int .i64 y3)] h) x0 x1 x2 x3 x4 h)) (.cut [(4, .any), (8, .int .i64), (10, .any), (11, .int .i64), (12, .int .i64), (29, .bool)] (fun l h => J.cons l fun x0 l => J.cons l fun v l => J.int .i64 v fun x1 => J.cons l fun x2 l => J.cons l fun v l => J.int .i64 v fun x3 => J.cons l fun v l => J.int .i64 v fun x4 => J.cons l fun v l => J.bool v fun x5 => J.nil l (s47c3 Ψ (fun y0 y1 y2 y3 h => L1 [y0, y1, (.int .i64 y2), (.int .i64 y3)] h) x0 x1 x2 x3 x4 x5 h)) (.reg [⟨none, [(0, false), (1, false), (2, false)]⟩, ⟨some (25, true), [(3, false), (4, false), (5, false)]⟩, ⟨none, [(6, false)]⟩])
  (.cond (rA 1)
  (.leaf)))
  (.seq (rA 2)
  (.cond (.seq (rA 3)
  (.leaf))
  (.leaf)))))))
  (rA 2)))))))
  (.seq (rA 3)
  (.leaf))))

theorem s47_ok {Ψ : AVal → Heap → Prop} {rows : AVal} {h : Heap} (H : s47 Ψ rows h) : ACalls prog 47 [rows] h Ψ :=
  calls_of_evF func47 (by kernel_rfl) (by kernel_rfl) (by kernel_rfl)
    (Eq.mpr (by as_aux_lemma => kernel_rfl : oblF prog f47 (s47_A Ψ) Ψ = (True ∧ True ∧ (True ∧ (∀ (h : Heap) (x0 x1 : AVal) (x2 x3 : Int), ON (s47l1 Ψ 0 x0 x1 x2 x3 h)) ∧ ∀ n1 : Nat, (∀ (h : Heap) (x0 x1 : AVal) (x2 x3 : Int), OI (s47l1 Ψ (n1 + 1) x0 x1 x2 x3 h)) ∧ (True ∧ (True ∧ True) ∧ (True ∧ True ∧ ((True) ∧ (∀ (h : Heap) (x0 : AVal) (x1 : Int) (x2 : AVal) (x3 x4 : Int) (x5 : Bool), OI (s47c3 Ψ (s47l1_G (s47l1 Ψ n1)) x0 x1 x2 x3 x4 x5 h)) ∧ (True ∧ True)) ∧ (∀ (h : Heap) (x0 : AVal) (x1 : Int) (x2 : AVal) (x3 x4 : Int), OI (s47c2 Ψ (s47l1_G (s47l1 Ψ n1)) x0 x1 x2 x3 x4 h)) ∧ (True ∧ (True ∧ True) ∧ True)) ∧ True)) ∧ True ∧ True)) ⟨trivial, ⟨trivial, ⟨⟨trivial, ⟨fun _ _ _ _ _ H => H, fun _ => ⟨fun _ _ _ _ _ H => H, ⟨trivial, ⟨⟨trivial, trivial⟩, ⟨⟨trivial, ⟨trivial, ⟨⟨trivial, fun _ _ _ _ _ _ _ H => H, ⟨trivial, trivial⟩⟩, fun _ _ _ _ _ _ H => H, ⟨trivial, ⟨⟨trivial, trivial⟩, trivial⟩⟩⟩⟩⟩, trivial⟩⟩⟩⟩⟩⟩, ⟨trivial, trivial⟩⟩⟩⟩)
    (Eq.mpr (by as_aux_lemma => kernel_rfl : evF prog f47 (s47_A Ψ) Ψ [rows] h = s47 Ψ rows h) H)

/- 49 (*dictum/formula.Table).Node -/
def s49c1 (Ψ : AVal → Heap → Prop) (t1 : AVal) (id_1 : Int) (t4 : AVal) (t14 : Bool) (h : Heap) : Prop :=
  ifT t14 (
    st false h t4 [(.int .i64 0), (.str (ByteArray.mk #[])), (.int .i64 0), (.int .i64 0)] fun h_1 =>
    ldN 4 h_1 t4 fun l_ =>
    tCons l_ fun v l_1 =>
    tInt .i64 v fun v1 =>
    tCons l_1 fun v2 l_2 =>
    tStr v2 fun v3 =>
    tCons l_2 fun v4 l_3 =>
    tInt .i64 v4 fun v5 =>
    tCons l_3 fun v6 l_4 =>
    tInt .i64 v6 fun v7 =>
    tNil l_4 (
      retG (.tuple [(.agg [(.int .i64 v1), (.str v3), (.int .i64 v5), (.int .i64 v7)]), (.bool false)]) h_1 Ψ)) (
    nilCheckA t1 fun p =>
    addOff p 0 fun p1 =>
    ld1 h p1 fun v8 =>
    ixS 4 v8 id_1 fun p2 =>
    ldN 4 h p2 fun l_5 =>
    tCons l_5 fun v9 l_6 =>
    tInt .i64 v9 fun v10 =>
    tCons l_6 fun v11 l_7 =>
    tStr v11 fun v12 =>
    tCons l_7 fun v13 l_8 =>
    tInt .i64 v13 fun v14 =>
    tCons l_8 fun v15 l_9 =>
    tInt .i64 v15 fun v16 =>
    tNil l_9 (
      st false h t4 [(.int .i64 v10), (.str v12), (.int .i64 v14), (.int .i64 v16)] fun h_2 =>
      ldN 4 h_2 t4 fun l_10 =>
      tCons l_10 fun v17 l_11 =>
      tInt .i64 v17 fun v18 =>
      tCons l_11 fun v19 l_12 =>
      tStr v19 fun v20 =>
      tCons l_12 fun v21 l_13 =>
      tInt .i64 v21 fun v22 =>
      tCons l_13 fun v23 l_14 =>
      tInt .i64 v23 fun v24 =>
      tNil l_14 (
        retG (.tuple [(.agg [(.int .i64 v18), (.str v20), (.int .i64 v22), (.int .i64 v24)]), (.bool true)]) h_2 Ψ)))

def s49 (Ψ : AVal → Heap → Prop) (t : AVal) (id_ : Int) (h : Heap) : Prop :=
  Sym.newRow 4 [(.agg [(.int .i64 0), (.str (ByteArray.mk #[])), (.int .i64 0), (.int .i64 0)])] h fun r h_ =>
  callG prog 91 [t] h_ fun v25 h_3 =>
  tBool v25 fun v26 =>
  ifT (!v26) (
    s49c1 Ψ t id_ (.ptr r 0 0) true h_3) (
    callG prog 92 [t, (.int .i64 id_)] h_3 fun v27 h_4 =>
    tBool v27 fun v28 =>
    s49c1 Ψ t id_ (.ptr r 0 0) (!v28) h_4)

def s49_A (Ψ : AVal → Heap → Prop) : Ann :=
  .seq (rA 2)
  (.seq (.cut [(0, .any), (1, .int .i64), (4, .any), (14, .bool)] (fun l h => J.cons l fun x0 l => J.cons l fun v l => J.int .i64 v fun x1 => J.cons l fun x2 l => J.cons l fun v l => J.bool v fun x3 => J.nil l (s49c1 Ψ x0 x1 x2 x3 h)) (.reg [⟨none, [(0, false), (1, false), (2, false), (3, false)]⟩, ⟨some (9, false), [(4, false), (5, false), (6, false), (7, false)]⟩, ⟨none, [(8, false)]⟩])
  (.cond (.seq (rA 3)
  (.leaf))
  (.leaf)))
  (.seq (rA 9)
  (.leaf)))

theorem s49_ok {Ψ : AVal → Heap → Prop} {t : AVal} {id_ : Int} {h : Heap} (H : s49 Ψ t id_ h) : ACalls prog 49 [t, (.int .i64 id_)] h Ψ :=
  calls_of_evF func49 (by kernel_rfl) (by kernel_rfl) (by kernel_rfl)
    (Eq.mpr (by as_aux_lemma => kernel_rfl : oblF prog f49 (s49_A Ψ) Ψ = (True ∧ ((True) ∧ (∀ (h : Heap) (x0 : AVal) (x1 : Int) (x2 : AVal) (x3 : Bool), OI (s49c1 Ψ x0 x1 x2 x3 h)) ∧ ((True ∧ True) ∧ True)) ∧ True ∧ True)) ⟨trivial, ⟨⟨trivial, fun _ _ _ _ _ H => H, ⟨⟨trivial, trivial⟩, trivial⟩⟩, ⟨trivial, trivial⟩⟩⟩)
    (Eq.mpr (by as_aux_lemma => kernel_rfl : evF prog f49 (s49_A Ψ) Ψ [t, (.int .i64 id_)] h = s49 Ψ t id_ h) H)

/- 51 (dictum/heyting.lattice).imp -/
def s51 (Ψ : AVal → Heap → Prop) (l_n : Int) (l_leq : AVal) (x : Int) (y : Int) (h : Heap) : Prop :=
  callG prog 75 [(.int .i64 l_n), (.func (.func 96) [] [(.lptr [(.int .i64 l_n), l_leq]), (.lptr [(.int .i64 x)]), (.lptr [(.int .i64 y)])]), (.func (.func 77) [(.agg [(.int .i64 l_n), l_leq])] [])] h fun v h_ =>
  tTup v fun l_ =>
  tCons l_ fun v1 l_1 =>
  tInt .i64 v1 fun v2 =>
  tCons l_1 fun v3 l_2 =>
  tBool v3 fun v4 =>
  tNil l_2 (
    retG (.int .i64 v2) h_ Ψ)

def s51_A (Ψ : AVal → Heap → Prop) : Ann :=
  .seq (.reg [⟨none, [(0, true), (1, true), (2, true), (3, false)]⟩])
  (.seq (rA 11)
  (.seq (rA 2)
  (.leaf)))

theorem s51_ok {Ψ : AVal → Heap → Prop} {l_n : Int} {l_leq : AVal} {x : Int} {y : Int} {h : Heap} (H : s51 Ψ l_n l_leq x y h) : ACalls prog 51 [(.agg [(.int .i64 l_n), l_leq]), (.int .i64 x), (.int .i64 y)] h Ψ :=
  calls_of_evF func51 (by kernel_rfl) (by kernel_rfl) (by kernel_rfl)
    (Eq.mpr (by as_aux_lemma => kernel_rfl : oblF prog f51 (s51_A Ψ) Ψ = (True ∧ True ∧ True ∧ True)) ⟨trivial, ⟨trivial, ⟨trivial, trivial⟩⟩⟩)
    (Eq.mpr (by as_aux_lemma => kernel_rfl : evF prog f51 (s51_A Ψ) Ψ [(.agg [(.int .i64 l_n), l_leq]), (.int .i64 x), (.int .i64 y)] h = s51 Ψ l_n l_leq x y h) H)

/- 53 dictum/dictumref23.named -/
abbrev s53l1_T := AVal → ByteArray → Int → Heap → Prop
def s53l1_R (F : s53l1_T) (l : List AVal) (h : Heap) : Prop := J.cons l fun x0 l => J.cons l fun v l => J.str v fun x1 => J.cons l fun v l => J.int .i64 v fun x2 => J.nil l (F x0 x1 x2 h)
def s53l1_G (F : s53l1_T) (x0 : AVal) (x1 : ByteArray) (x2 : Int) (h : Heap) : Prop := gJ [.any, .str, .int .i64] [x0, (.str x1), (.int .i64 x2)] h (s53l1_R F)
def s53l1_E (F : Nat → s53l1_T) (x0 : AVal) (x1 : ByteArray) (x2 : Int) (h : Heap) : Prop := gJ [.any, .str, .int .i64] [x0, (.str x1), (.int .i64 x2)] h (fun l h => ∃ n, s53l1_R (F n) l h)
theorem s53l1_go {F : s53l1_T} {x0 : AVal} {x1 : ByteArray} {x2 : Int} {h : Heap} (H : F x0 x1 x2 h) : s53l1_G F x0 x1 x2 h := gJ_plain rfl H
theorem s53l1_in {F : Nat → s53l1_T} {x0 : AVal} {x1 : ByteArray} {x2 : Int} {h : Heap} (n : Nat) (H : F n x0 x1 x2 h) : s53l1_E F x0 x1 x2 h := gJ_plain rfl ⟨n, H⟩

def s53l1 (Ψ : AVal → Heap → Prop) : Nat → s53l1_T
  | 0, _, _, _, _ => False
  | n + 1, by_1, name1, i, h =>
    lenN by_1 fun n1 =>
    ifT (decide (i < n1)) (
      ixS 2 by_1 i fun p =>
      addOff p 0 fun p1 =>
      ld1 h p1 fun v =>
      tStr v fun v1 =>
      ifT (strEq v1 name1) (
        ixS 2 by_1 i fun p2 =>
        addOff p2 1 fun p3 =>
        ld1 h p3 fun v2 =>
        tInt .i64 v2 fun v3 =>
        retG (.int .i64 v3) h Ψ) (
        rg (i + 1) (
          s53l1_G (s53l1 Ψ n) by_1 name1 (i + 1) h))) (
      retG (.int .i64 (-1)) h Ψ)

def s53 (Ψ : AVal → Heap → Prop) (by_ : AVal) (name : ByteArray) (h : Heap) : Prop :=
  s53l1_E (s53l1 Ψ) by_ name 0 h

def s53_A (Ψ : AVal → Heap → Prop) : Ann :=
  .seq (rA 1)
  (.seq (.seq (rA 1)
  (.block (.loop [(0, .any), (1, .str), (5, .int .i64)] (fun n l h => s53l1_R (s53l1 Ψ n) l h) (fun L1 =>
  .seq (.seq (rA 4)
  (.cond (.leaf)
  (.leaf)))
  (.seq (.block (.seq (rA 7)
  (.cond (.seq (rA 6)
  (.leaf))
  (.leaf))))
  (rA 3))))))
  (.seq (rA 1)
  (.leaf)))

theorem s53_ok {Ψ : AVal → Heap → Prop} {by_ : AVal} {name : ByteArray} {h : Heap} (H : s53 Ψ by_ name h) : ACalls prog 53 [by_, (.str name)] h Ψ :=
  calls_of_evF func53 (by kernel_rfl) (by kernel_rfl) (by kernel_rfl)
    (Eq.mpr (by as_aux_lemma => kernel_rfl : oblF prog f53 (s53_A Ψ) Ψ = (True ∧ (True ∧ (∀ (h : Heap) (x0 : AVal) (x1 : ByteArray) (x2 : Int), ON (s53l1 Ψ 0 x0 x1 x2 h)) ∧ ∀ n1 : Nat, (∀ (h : Heap) (x0 : AVal) (x1 : ByteArray) (x2 : Int), OI (s53l1 Ψ (n1 + 1) x0 x1 x2 h)) ∧ ((True ∧ True ∧ True) ∧ (True ∧ (True ∧ True) ∧ True) ∧ True)) ∧ True ∧ True)) ⟨trivial, ⟨⟨trivial, ⟨fun _ _ _ _ H => H, fun _ => ⟨fun _ _ _ _ H => H, ⟨⟨trivial, ⟨trivial, trivial⟩⟩, ⟨⟨trivial, ⟨⟨trivial, trivial⟩, trivial⟩⟩, trivial⟩⟩⟩⟩⟩, ⟨trivial, trivial⟩⟩⟩)
    (Eq.mpr (by as_aux_lemma => kernel_rfl : evF prog f53 (s53_A Ψ) Ψ [by_, (.str name)] h = s53 Ψ by_ name h) H)

/- 59 dictum/worlds.Check -/
def s59 (Ψ : AVal → Heap → Prop) (m_Up : AVal) (m_Val : AVal) (h : Heap) : Prop :=
  callG prog 79 [(.agg [m_Up, m_Val]), .nilsl] h fun v h_ =>
  tTup v fun l_ =>
  tCons l_ fun v1 l_1 =>
  tCons l_1 fun v2 l_2 =>
  tInt .i64 v2 fun v3 =>
  tNil l_2 (
    retG (.int .i64 v3) h_ Ψ)

def s59_A (Ψ : AVal → Heap → Prop) : Ann :=
  .seq (.reg [⟨none, [(0, true), (1, false)]⟩])
  (.seq (rA 7)
  (.seq (rA 2)
  (.leaf)))

theorem s59_ok {Ψ : AVal → Heap → Prop} {m_Up : AVal} {m_Val : AVal} {h : Heap} (H : s59 Ψ m_Up m_Val h) : ACalls prog 59 [(.agg [m_Up, m_Val])] h Ψ :=
  calls_of_evF func59 (by kernel_rfl) (by kernel_rfl) (by kernel_rfl)
    (Eq.mpr (by as_aux_lemma => kernel_rfl : oblF prog f59 (s59_A Ψ) Ψ = (True ∧ True ∧ True ∧ True)) ⟨trivial, ⟨trivial, ⟨trivial, trivial⟩⟩⟩)
    (Eq.mpr (by as_aux_lemma => kernel_rfl : evF prog f59 (s59_A Ψ) Ψ [(.agg [m_Up, m_Val])] h = s59 Ψ m_Up m_Val h) H)

/- 62 dictum/heyting.compare -/
abbrev s62l1_T := ByteArray → ByteArray → Int → Heap → Prop
def s62l1_R (F : s62l1_T) (l : List AVal) (h : Heap) : Prop := J.cons l fun v l => J.str v fun x0 => J.cons l fun v l => J.str v fun x1 => J.cons l fun v l => J.int .i64 v fun x2 => J.nil l (F x0 x1 x2 h)
def s62l1_G (F : s62l1_T) (x0 x1 : ByteArray) (x2 : Int) (h : Heap) : Prop := gJ [.str, .str, .int .i64] [(.str x0), (.str x1), (.int .i64 x2)] h (s62l1_R F)
def s62l1_E (F : Nat → s62l1_T) (x0 x1 : ByteArray) (x2 : Int) (h : Heap) : Prop := gJ [.str, .str, .int .i64] [(.str x0), (.str x1), (.int .i64 x2)] h (fun l h => ∃ n, s62l1_R (F n) l h)
theorem s62l1_go {F : s62l1_T} {x0 x1 : ByteArray} {x2 : Int} {h : Heap} (H : F x0 x1 x2 h) : s62l1_G F x0 x1 x2 h := gJ_plain rfl H
theorem s62l1_in {F : Nat → s62l1_T} {x0 x1 : ByteArray} {x2 : Int} {h : Heap} (n : Nat) (H : F n x0 x1 x2 h) : s62l1_E F x0 x1 x2 h := gJ_plain rfl ⟨n, H⟩

def s62l1 (Ψ : AVal → Heap → Prop) : Nat → s62l1_T
  | 0, _, _, _, _ => False
  | n + 1, a1, b1, w, h =>
    ifT (decide (0 ≤ w)) (
      ((0 : Int) ≤ w ∧ w < (a1.size : Int)) ∧
      ((0 : Int) ≤ w ∧ w < (b1.size : Int)) ∧
      ifT ((btA a1 w) != (btA b1 w)) (
        ((0 : Int) ≤ w ∧ w < (a1.size : Int)) ∧
        rg (btA a1 w) (
          ((0 : Int) ≤ w ∧ w < (b1.size : Int)) ∧
          rg (btA b1 w) (
            rg ((btA a1 w) - (btA b1 w)) (
              retG (.int .i64 ((btA a1 w) - (btA b1 w))) h Ψ)))) (
        rg (w - 1) (
          s62l1_G (s62l1 Ψ n) a1 b1 (w - 1) h))) (
      retG (.int .i64 0) h Ψ)

def s62 (Ψ : AVal → Heap → Prop) (a : ByteArray) (b : ByteArray) (h : Heap) : Prop :=
  rg ((a.size : Int) - 1) (
    s62l1_E (s62l1 Ψ) a b ((a.size : Int) - 1) h)

def s62_A (Ψ : AVal → Heap → Prop) : Ann :=
  .seq (rA 1)
  (.seq (.seq (rA 4)
  (.block (.loop [(0, .str), (1, .str), (5, .int .i64)] (fun n l h => s62l1_R (s62l1 Ψ n) l h) (fun L1 =>
  .seq (.seq (rA 2)
  (.cond (.leaf)
  (.leaf)))
  (.seq (.block (.seq (.draw [(0, false), (1, false), (2, false), (3, false), (4, false), (5, false), (6, false)] [0, 0, 3, 0, 0, 24, 63])
  (.cond (.seq (.draw [(0, false), (1, false), (2, false), (3, false), (4, false), (5, false), (6, false), (7, false), (8, false), (9, false)] [0, 0, 3, 7, 0, 0, 48, 112, 255, 511])
  (.leaf))
  (.leaf))))
  (rA 3))))))
  (.seq (rA 1)
  (.leaf)))

theorem s62_ok {Ψ : AVal → Heap → Prop} {a : ByteArray} {b : ByteArray} {h : Heap} (H : s62 Ψ a b h) : ACalls prog 62 [(.str a), (.str b)] h Ψ :=
  calls_of_evF func62 (by kernel_rfl) (by kernel_rfl) (by kernel_rfl)
    (Eq.mpr (by as_aux_lemma => kernel_rfl : oblF prog f62 (s62_A Ψ) Ψ = (True ∧ (True ∧ (∀ (h : Heap) (x0 x1 : ByteArray) (x2 : Int), ON (s62l1 Ψ 0 x0 x1 x2 h)) ∧ ∀ n1 : Nat, (∀ (h : Heap) (x0 x1 : ByteArray) (x2 : Int), OI (s62l1 Ψ (n1 + 1) x0 x1 x2 h)) ∧ ((True ∧ True ∧ True) ∧ (True ∧ (True ∧ True) ∧ True) ∧ True)) ∧ True ∧ True)) ⟨trivial, ⟨⟨trivial, ⟨fun _ _ _ _ H => H, fun _ => ⟨fun _ _ _ _ H => H, ⟨⟨trivial, ⟨trivial, trivial⟩⟩, ⟨⟨trivial, ⟨⟨trivial, trivial⟩, trivial⟩⟩, trivial⟩⟩⟩⟩⟩, ⟨trivial, trivial⟩⟩⟩)
    (Eq.mpr (by as_aux_lemma => kernel_rfl : evF prog f62 (s62_A Ψ) Ψ [(.str a), (.str b)] h = s62 Ψ a b h) H)

/- 70 slices.ContainsFunc[[][]bool,[]bool] -/
def s70 (Ψ : AVal → Heap → Prop) (s : AVal) (f : AVal) (h : Heap) : Prop :=
  callG prog 115 [s, f] h fun v h_ =>
  tInt .i64 v fun v1 =>
  retG (.bool (decide (0 ≤ v1))) h_ Ψ

def s70_A (Ψ : AVal → Heap → Prop) : Ann :=
  .seq (rA 1)
  (.seq (rA 5)
  (.leaf))

theorem s70_ok {Ψ : AVal → Heap → Prop} {s : AVal} {f : AVal} {h : Heap} (H : s70 Ψ s f h) : ACalls prog 70 [s, f] h Ψ :=
  calls_of_evF func70 (by kernel_rfl) (by kernel_rfl) (by kernel_rfl)
    (Eq.mpr (by as_aux_lemma => kernel_rfl : oblF prog f70 (s70_A Ψ) Ψ = (True ∧ True ∧ True)) ⟨trivial, ⟨trivial, trivial⟩⟩)
    (Eq.mpr (by as_aux_lemma => kernel_rfl : evF prog f70 (s70_A Ψ) Ψ [s, f] h = s70 Ψ s f h) H)

/- 72 (dictum/heyting.lattice).ordered -/
abbrev s72l1_T := AVal → Int → Int → Heap → Prop
def s72l1_R (F : s72l1_T) (l : List AVal) (h : Heap) : Prop := J.cons l fun x0 l => J.cons l fun v l => J.int .i64 v fun x1 => J.cons l fun v l => J.int .i64 v fun x2 => J.nil l (F x0 x1 x2 h)
def s72l1_G (F : s72l1_T) (x0 : AVal) (x1 x2 : Int) (h : Heap) : Prop := gJ [.any, .int .i64, .int .i64] [x0, (.int .i64 x1), (.int .i64 x2)] h (s72l1_R F)
def s72l1_E (F : Nat → s72l1_T) (x0 : AVal) (x1 x2 : Int) (h : Heap) : Prop := gJ [.any, .int .i64, .int .i64] [x0, (.int .i64 x1), (.int .i64 x2)] h (fun l h => ∃ n, s72l1_R (F n) l h)
theorem s72l1_go {F : s72l1_T} {x0 : AVal} {x1 x2 : Int} {h : Heap} (H : F x0 x1 x2 h) : s72l1_G F x0 x1 x2 h := gJ_plain rfl H
theorem s72l1_in {F : Nat → s72l1_T} {x0 : AVal} {x1 x2 : Int} {h : Heap} (n : Nat) (H : F n x0 x1 x2 h) : s72l1_E F x0 x1 x2 h := gJ_plain rfl ⟨n, H⟩

abbrev s72l2_T := AVal → Int → Int → Int → Int → Int → Heap → Prop
def s72l2_R (F : s72l2_T) (l : List AVal) (h : Heap) : Prop := J.cons l fun x0 l => J.cons l fun v l => J.int .i64 v fun x1 => J.cons l fun v l => J.int .i64 v fun x2 => J.cons l fun v l => J.int .i64 v fun x3 => J.cons l fun v l => J.int .i64 v fun x4 => J.cons l fun v l => J.int .i64 v fun x5 => J.nil l (F x0 x1 x2 x3 x4 x5 h)
def s72l2_G (F : s72l2_T) (x0 : AVal) (x1 x2 x3 x4 x5 : Int) (h : Heap) : Prop := gJ [.any, .int .i64, .int .i64, .int .i64, .int .i64, .int .i64] [x0, (.int .i64 x1), (.int .i64 x2), (.int .i64 x3), (.int .i64 x4), (.int .i64 x5)] h (s72l2_R F)
def s72l2_E (F : Nat → s72l2_T) (x0 : AVal) (x1 x2 x3 x4 x5 : Int) (h : Heap) : Prop := gJ [.any, .int .i64, .int .i64, .int .i64, .int .i64, .int .i64] [x0, (.int .i64 x1), (.int .i64 x2), (.int .i64 x3), (.int .i64 x4), (.int .i64 x5)] h (fun l h => ∃ n, s72l2_R (F n) l h)
theorem s72l2_go {F : s72l2_T} {x0 : AVal} {x1 x2 x3 x4 x5 : Int} {h : Heap} (H : F x0 x1 x2 x3 x4 x5 h) : s72l2_G F x0 x1 x2 x3 x4 x5 h := gJ_plain rfl H
theorem s72l2_in {F : Nat → s72l2_T} {x0 : AVal} {x1 x2 x3 x4 x5 : Int} {h : Heap} (n : Nat) (H : F n x0 x1 x2 x3 x4 x5 h) : s72l2_E F x0 x1 x2 x3 x4 x5 h := gJ_plain rfl ⟨n, H⟩

abbrev s72l4_T := AVal → Int → Int → Int → Int → Int → Int → Int → Int → Heap → Prop
def s72l4_R (F : s72l4_T) (l : List AVal) (h : Heap) : Prop := J.cons l fun x0 l => J.cons l fun v l => J.int .i64 v fun x1 => J.cons l fun v l => J.int .i64 v fun x2 => J.cons l fun v l => J.int .i64 v fun x3 => J.cons l fun v l => J.int .i64 v fun x4 => J.cons l fun v l => J.int .i64 v fun x5 => J.cons l fun v l => J.int .i64 v fun x6 => J.cons l fun v l => J.int .i64 v fun x7 => J.cons l fun v l => J.int .i64 v fun x8 => J.nil l (F x0 x1 x2 x3 x4 x5 x6 x7 x8 h)
def s72l4_G (F : s72l4_T) (x0 : AVal) (x1 x2 x3 x4 x5 x6 x7 x8 : Int) (h : Heap) : Prop := gJ [.any, .int .i64, .int .i64, .int .i64, .int .i64, .int .i64, .int .i64, .int .i64, .int .i64] [x0, (.int .i64 x1), (.int .i64 x2), (.int .i64 x3), (.int .i64 x4), (.int .i64 x5), (.int .i64 x6), (.int .i64 x7), (.int .i64 x8)] h (s72l4_R F)
def s72l4_E (F : Nat → s72l4_T) (x0 : AVal) (x1 x2 x3 x4 x5 x6 x7 x8 : Int) (h : Heap) : Prop := gJ [.any, .int .i64, .int .i64, .int .i64, .int .i64, .int .i64, .int .i64, .int .i64, .int .i64] [x0, (.int .i64 x1), (.int .i64 x2), (.int .i64 x3), (.int .i64 x4), (.int .i64 x5), (.int .i64 x6), (.int .i64 x7), (.int .i64 x8)] h (fun l h => ∃ n, s72l4_R (F n) l h)
theorem s72l4_go {F : s72l4_T} {x0 : AVal} {x1 x2 x3 x4 x5 x6 x7 x8 : Int} {h : Heap} (H : F x0 x1 x2 x3 x4 x5 x6 x7 x8 h) : s72l4_G F x0 x1 x2 x3 x4 x5 x6 x7 x8 h := gJ_plain rfl H
theorem s72l4_in {F : Nat → s72l4_T} {x0 : AVal} {x1 x2 x3 x4 x5 x6 x7 x8 : Int} {h : Heap} (n : Nat) (H : F n x0 x1 x2 x3 x4 x5 x6 x7 x8 h) : s72l4_E F x0 x1 x2 x3 x4 x5 x6 x7 x8 h := gJ_plain rfl ⟨n, H⟩

def s72c5 (Ψ : AVal → Heap → Prop) (L1 : s72l1_T) (L2 : s72l2_T) (L4 : s72l4_T) (l_4 : AVal) (x3 y2 t7_4 t8_4 t18_3 t19_3 t40_1 t41_1 : Int) (t63 : Bool) (h : Heap) : Prop :=
  ifT t63 (
    retG (.bool false) h Ψ) (
    rg (t41_1 + 1) (
      L4 l_4 x3 y2 t7_4 t8_4 t18_3 t19_3 t40_1 (t41_1 + 1) h))

def s72l4 (Ψ : AVal → Heap → Prop) (L1 : s72l1_T) (L2 : s72l2_T) : Nat → s72l4_T
  | 0, _, _, _, _, _, _, _, _, _, _ => False
  | n2 + 1, l_3, x2, y1, t7_3, t8_3, t18_2, t19_2, t40, t41, h =>
    ifT (decide (t41 < t40)) (
      addOff l_3 1 fun p3 =>
      ld1 h p3 fun v7 =>
      callV prog v7 [(.int .i64 x2), (.int .i64 y1)] h fun v8 h_1 =>
      tBool v8 fun v9 =>
      ifT v9 (
        addOff l_3 1 fun p4 =>
        ld1 h_1 p4 fun v10 =>
        callV prog v10 [(.int .i64 y1), (.int .i64 t41)] h_1 fun v11 h_2 =>
        tBool v11 fun v12 =>
        ifT v12 (
          addOff l_3 1 fun p5 =>
          ld1 h_2 p5 fun v13 =>
          callV prog v13 [(.int .i64 x2), (.int .i64 t41)] h_2 fun v14 h_3 =>
          tBool v14 fun v15 =>
          s72c5 Ψ L1 L2 (s72l4_G (s72l4 Ψ L1 L2 n2)) l_3 x2 y1 t7_3 t8_3 t18_2 t19_2 t40 t41 (!v15) h_3) (
          s72c5 Ψ L1 L2 (s72l4_G (s72l4 Ψ L1 L2 n2)) l_3 x2 y1 t7_3 t8_3 t18_2 t19_2 t40 t41 false h_2)) (
        s72c5 Ψ L1 L2 (s72l4_G (s72l4 Ψ L1 L2 n2)) l_3 x2 y1 t7_3 t8_3 t18_2 t19_2 t40 t41 false h_1)) (
      rg (t19_2 + 1) (
        L2 l_3 x2 t7_3 t8_3 t18_2 (t19_2 + 1) h))

def s72c3 (Ψ : AVal → Heap → Prop) (L1 : s72l1_T) (L2 : s72l2_T) (l_2 : AVal) (x1 y t7_2 t8_2 t18_1 t19_1 : Int) (t38 : Bool) (h : Heap) : Prop :=
  ifT t38 (
    retG (.bool false) h Ψ) (
    addOff l_2 0 fun p2 =>
    ld1 h p2 fun v5 =>
    tInt .i64 v5 fun v6 =>
    s72l4_E (s72l4 Ψ L1 L2) l_2 x1 y t7_2 t8_2 t18_1 t19_1 v6 0 h)

def s72l2 (Ψ : AVal → Heap → Prop) (L1 : s72l1_T) : Nat → s72l2_T
  | 0, _, _, _, _, _, _, _ => False
  | n1 + 1, l_1, x, t7_1, t8_1, t18, t19, h =>
    ifT (decide (t19 < t18)) (
      ifT (x != t19) (
        addOff l_1 1 fun p6 =>
        ld1 h p6 fun v16 =>
        callV prog v16 [(.int .i64 x), (.int .i64 t19)] h fun v17 h_4 =>
        tBool v17 fun v18 =>
        ifT v18 (
          addOff l_1 1 fun p7 =>
          ld1 h_4 p7 fun v19 =>
          callV prog v19 [(.int .i64 t19), (.int .i64 x)] h_4 fun v20 h_5 =>
          tBool v20 fun v21 =>
          s72c3 Ψ L1 (s72l2_G (s72l2 Ψ L1 n1)) l_1 x t19 t7_1 t8_1 t18 t19 v21 h_5) (
          s72c3 Ψ L1 (s72l2_G (s72l2 Ψ L1 n1)) l_1 x t19 t7_1 t8_1 t18 t19 false h_4)) (
        s72c3 Ψ L1 (s72l2_G (s72l2 Ψ L1 n1)) l_1 x t19 t7_1 t8_1 t18 t19 false h)) (
      rg (t8_1 + 1) (
        L1 l_1 t7_1 (t8_1 + 1) h))

def s72l1 (Ψ : AVal → Heap → Prop) : Nat → s72l1_T
  | 0, _, _, _, _ => False
  | n + 1, l_, t7, t8, h =>
    ifT (decide (t8 < t7)) (
      addOff l_ 1 fun p =>
      ld1 h p fun v =>
      callV prog v [(.int .i64 t8), (.int .i64 t8)] h fun v1 h_ =>
      tBool v1 fun v2 =>
      ifT (!v2) (
        retG (.bool false) h_ Ψ) (
        addOff l_ 0 fun p1 =>
        ld1 h_ p1 fun v3 =>
        tInt .i64 v3 fun v4 =>
        s72l2_E (s72l2 Ψ (s72l1_G (s72l1 Ψ n))) l_ t8 t7 t8 v4 0 h_)) (
      retG (.bool true) h Ψ)

def s72 (Ψ : AVal → Heap → Prop) (l_n : Int) (l_leq : AVal) (h : Heap) : Prop :=
  s72l1_E (s72l1 Ψ) (.lptr [(.int .i64 l_n), l_leq]) l_n 0 h

def s72_A (Ψ : AVal → Heap → Prop) : Ann :=
  .seq (.reg [⟨none, [(0, true), (1, false)]⟩])
  (.seq (.seq (rA 3)
  (.block (.loop [(1, .any), (7, .int .i64), (8, .int .i64)] (fun n l h => s72l1_R (s72l1 Ψ n) l h) (fun L1 =>
  .seq (rA 1)
  (.seq (.cond (.leaf)
  (.leaf))
  (.seq (.block (.seq (rA 2)
  (.seq (.seq (rA 6)
  (.cond (.seq (rA 1)
  (.leaf))
  (.leaf)))
  (.seq (rA 3)
  (.block (.loop [(1, .any), (3, .int .i64), (7, .int .i64), (8, .int .i64), (18, .int .i64), (19, .int .i64)] (fun n l h => s72l2_R (s72l2 Ψ (fun y0 y1 y2 h => L1 [y0, (.int .i64 y1), (.int .i64 y2)] h) n) l h) (fun L2 =>
  .seq (rA 1)
  (.seq (.cond (.leaf)
  (.leaf))
  (.seq (.block (.seq (rA 2)
  (.seq (.cut [(1, .any), (3, .int .i64), (4, .int .i64), (7, .int .i64), (8, .int .i64), (18, .int .i64), (19, .int .i64), (38, .bool)] (fun l h => J.cons l fun x0 l => J.cons l fun v l => J.int .i64 v fun x1 => J.cons l fun v l => J.int .i64 v fun x2 => J.cons l fun v l => J.int .i64 v fun x3 => J.cons l fun v l => J.int .i64 v fun x4 => J.cons l fun v l => J.int .i64 v fun x5 => J.cons l fun v l => J.int .i64 v fun x6 => J.cons l fun v l => J.bool v fun x7 => J.nil l (s72c3 Ψ (fun y0 y1 y2 h => L1 [y0, (.int .i64 y1), (.int .i64 y2)] h) (fun y0 y1 y2 y3 y4 y5 h => L2 [y0, (.int .i64 y1), (.int .i64 y2), (.int .i64 y3), (.int .i64 y4), (.int .i64 y5)] h) x0 x1 x2 x3 x4 x5 x6 x7 h)) (.reg [⟨none, [(0, false), (1, false), (2, false), (3, false)]⟩, ⟨some (25, true), [(4, false), (5, false), (6, false), (7, false), (8, false)]⟩, ⟨none, [(9, false), (10, false)]⟩, ⟨some (32, true), [(11, false), (12, false), (13, false), (14, false), (15, false)]⟩, ⟨none, [(16, false)]⟩])
  (.cond (.seq (rA 1)
  (.leaf))
  (.leaf)))
  (.seq (rA 3)
  (.block (.loop [(1, .any), (3, .int .i64), (4, .int .i64), (7, .int .i64), (8, .int .i64), (18, .int .i64), (19, .int .i64), (40, .int .i64), (41, .int .i64)] (fun n l h => s72l4_R (s72l4 Ψ (fun y0 y1 y2 h => L1 [y0, (.int .i64 y1), (.int .i64 y2)] h) (fun y0 y1 y2 y3 y4 y5 h => L2 [y0, (.int .i64 y1), (.int .i64 y2), (.int .i64 y3), (.int .i64 y4), (.int .i64 y5)] h) n) l h) (fun L4 =>
  .seq (rA 1)
  (.seq (.cond (.leaf)
  (.leaf))
  (.seq (.block (.seq (rA 2)
  (.cut [(1, .any), (3, .int .i64), (4, .int .i64), (7, .int .i64), (8, .int .i64), (18, .int .i64), (19, .int .i64), (40, .int .i64), (41, .int .i64), (63, .bool)] (fun l h => J.cons l fun x0 l => J.cons l fun v l => J.int .i64 v fun x1 => J.cons l fun v l => J.int .i64 v fun x2 => J.cons l fun v l => J.int .i64 v fun x3 => J.cons l fun v l => J.int .i64 v fun x4 => J.cons l fun v l => J.int .i64 v fun x5 => J.cons l fun v l => J.int .i64 v fun x6 => J.cons l fun v l => J.int .i64 v fun x7 => J.cons l fun v l => J.int .i64 v fun x8 => J.cons l fun v l => J.bool v fun x9 => J.nil l (s72c5 Ψ (fun y0 y1 y2 h => L1 [y0, (.int .i64 y1), (.int .i64 y2)] h) (fun y0 y1 y2 y3 y4 y5 h => L2 [y0, (.int .i64 y1), (.int .i64 y2), (.int .i64 y3), (.int .i64 y4), (.int .i64 y5)] h) (fun y0 y1 y2 y3 y4 y5 y6 y7 y8 h => L4 [y0, (.int .i64 y1), (.int .i64 y2), (.int .i64 y3), (.int .i64 y4), (.int .i64 y5), (.int .i64 y6), (.int .i64 y7), (.int .i64 y8)] h) x0 x1 x2 x3 x4 x5 x6 x7 x8 x9 h)) (.reg [⟨none, [(0, false), (1, false), (2, false), (3, false), (4, false), (5, false)]⟩, ⟨some (49, true), [(6, false), (7, false), (8, false), (9, false), (10, false)]⟩, ⟨none, [(11, false), (12, false)]⟩, ⟨some (56, true), [(13, false), (14, false), (15, false), (16, false), (17, false), (18, false)]⟩, ⟨none, [(19, false)]⟩])
  (.cond (.seq (rA 1)
  (.leaf))
  (.leaf)))))
  (rA 2))))))))))
  (rA 2))))))))))
  (rA 2)))))))
  (.seq (rA 1)
  (.leaf)))

theorem s72_ok {Ψ : AVal → Heap → Prop} {l_n : Int} {l_leq : AVal} {h : Heap} (H : s72 Ψ l_n l_leq h) : ACalls prog 72 [(.agg [(.int .i64 l_n), l_leq])] h Ψ :=
  calls_of_evF func72 (by kernel_rfl) (by kernel_rfl) (by kernel_rfl)
    (Eq.mpr (by as_aux_lemma => kernel_rfl : oblF prog f72 (s72_A Ψ) Ψ = (True ∧ (True ∧ (∀ (h : Heap) (x0 : AVal) (x1 x2 : Int), ON (s72l1 Ψ 0 x0 x1 x2 h)) ∧ ∀ n1 : Nat, (∀ (h : Heap) (x0 : AVal) (x1 x2 : Int), OI (s72l1 Ψ (n1 + 1) x0 x1 x2 h)) ∧ (True ∧ (True ∧ True) ∧ (True ∧ (True ∧ (True ∧ True) ∧ True) ∧ True ∧ (∀ (h : Heap) (x0 : AVal) (x1 x2 x3 x4 x5 : Int), ON (s72l2 Ψ (s72l1_G (s72l1 Ψ n1)) 0 x0 x1 x2 x3 x4 x5 h)) ∧ ∀ n2 : Nat, (∀ (h : Heap) (x0 : AVal) (x1 x2 x3 x4 x5 : Int), OI (s72l2 Ψ (s72l1_G (s72l1 Ψ n1)) (n2 + 1) x0 x1 x2 x3 x4 x5 h)) ∧ (True ∧ (True ∧ True) ∧ (True ∧ ((True) ∧ (∀ (h : Heap) (x0 : AVal) (x1 x2 x3 x4 x5 x6 : Int) (x7 : Bool), OI (s72c3 Ψ (s72l1_G (s72l1 Ψ n1)) (s72l2_G (s72l2 Ψ (s72l1_G (s72l1 Ψ n1)) n2)) x0 x1 x2 x3 x4 x5 x6 x7 h)) ∧ ((True ∧ True) ∧ True)) ∧ True ∧ (∀ (h : Heap) (x0 : AVal) (x1 x2 x3 x4 x5 x6 x7 x8 : Int), ON (s72l4 Ψ (s72l1_G (s72l1 Ψ n1)) (s72l2_G (s72l2 Ψ (s72l1_G (s72l1 Ψ n1)) n2)) 0 x0 x1 x2 x3 x4 x5 x6 x7 x8 h)) ∧ ∀ n4 : Nat, (∀ (h : Heap) (x0 : AVal) (x1 x2 x3 x4 x5 x6 x7 x8 : Int), OI (s72l4 Ψ (s72l1_G (s72l1 Ψ n1)) (s72l2_G (s72l2 Ψ (s72l1_G (s72l1 Ψ n1)) n2)) (n4 + 1) x0 x1 x2 x3 x4 x5 x6 x7 x8 h)) ∧ (True ∧ (True ∧ True) ∧ (True ∧ (True) ∧ (∀ (h : Heap) (x0 : AVal) (x1 x2 x3 x4 x5 x6 x7 x8 : Int) (x9 : Bool), OI (s72c5 Ψ (s72l1_G (s72l1 Ψ n1)) (s72l2_G (s72l2 Ψ (s72l1_G (s72l1 Ψ n1)) n2)) (s72l4_G (s72l4 Ψ (s72l1_G (s72l1 Ψ n1)) (s72l2_G (s72l2 Ψ (s72l1_G (s72l1 Ψ n1)) n2)) n4)) x0 x1 x2 x3 x4 x5 x6 x7 x8 x9 h)) ∧ ((True ∧ True) ∧ True)) ∧ True)) ∧ True)) ∧ True)) ∧ True ∧ True)) ⟨trivial, ⟨⟨trivial, ⟨fun _ _ _ _ H => H, fun _ => ⟨fun _ _ _ _ H => H, ⟨trivial, ⟨⟨trivial, trivial⟩, ⟨⟨trivial, ⟨⟨trivial, ⟨⟨trivial, trivial⟩, trivial⟩⟩, ⟨trivial, ⟨fun _ _ _ _ _ _ _ H => H, fun _ => ⟨fun _ _ _ _ _ _ _ H => H, ⟨trivial, ⟨⟨trivial, trivial⟩, ⟨⟨trivial, ⟨⟨trivial, fun _ _ _ _ _ _ _ _ _ H => H, ⟨⟨trivial, trivial⟩, trivial⟩⟩, ⟨trivial, ⟨fun _ _ _ _ _ _ _ _ _ _ H => H, fun _ => ⟨fun _ _ _ _ _ _ _ _ _ _ H => H, ⟨trivial, ⟨⟨trivial, trivial⟩, ⟨⟨trivial, ⟨trivial, fun _ _ _ _ _ _ _ _ _ _ _ H => H, ⟨⟨trivial, trivial⟩, trivial⟩⟩⟩, trivial⟩⟩⟩⟩⟩⟩⟩⟩, trivial⟩⟩⟩⟩⟩⟩⟩⟩, trivial⟩⟩⟩⟩⟩⟩, ⟨trivial, trivial⟩⟩⟩)
    (Eq.mpr (by as_aux_lemma => kernel_rfl : evF prog f72 (s72_A Ψ) Ψ [(.agg [(.int .i64 l_n), l_leq])] h = s72 Ψ l_n l_leq h) H)

/- 74 (dictum/heyting.lattice).bounds$1 -/
def s74 (Ψ : AVal → Heap → Prop) (a0 : Int) (h : Heap) : Prop :=
  retG (.bool true) h Ψ

def s74_A (Ψ : AVal → Heap → Prop) : Ann :=
  .seq (rA 1)
  (.seq (rA 1)
  (.leaf))

theorem s74_ok {Ψ : AVal → Heap → Prop} {a0 : Int} {h : Heap} (H : s74 Ψ a0 h) : ACalls prog 74 [(.int .i64 a0)] h Ψ :=
  calls_of_evF func74 (by kernel_rfl) (by kernel_rfl) (by kernel_rfl)
    (Eq.mpr (by as_aux_lemma => kernel_rfl : oblF prog f74 (s74_A Ψ) Ψ = (True ∧ True ∧ True)) ⟨trivial, ⟨trivial, trivial⟩⟩)
    (Eq.mpr (by as_aux_lemma => kernel_rfl : evF prog f74 (s74_A Ψ) Ψ [(.int .i64 a0)] h = s74 Ψ a0 h) H)

/- 76 (dictum/heyting.lattice).down -/
def s76 (Ψ : AVal → Heap → Prop) (l_n : Int) (l_leq : AVal) (z : Int) (w : Int) (h : Heap) : Prop :=
  callV prog l_leq [(.int .i64 z), (.int .i64 w)] h fun v h_ =>
  tBool v fun v1 =>
  retG (.bool v1) h_ Ψ

def s76_A (Ψ : AVal → Heap → Prop) : Ann :=
  .seq (.reg [⟨none, [(0, true), (1, false)]⟩])
  (.seq (rA 6)
  (.leaf))

theorem s76_ok {Ψ : AVal → Heap → Prop} {l_n : Int} {l_leq : AVal} {z : Int} {w : Int} {h : Heap} (H : s76 Ψ l_n l_leq z w h) : ACalls prog 76 [(.agg [(.int .i64 l_n), l_leq]), (.int .i64 z), (.int .i64 w)] h Ψ :=
  calls_of_evF func76 (by kernel_rfl) (by kernel_rfl) (by kernel_rfl)
    (Eq.mpr (by as_aux_lemma => kernel_rfl : oblF prog f76 (s76_A Ψ) Ψ = (True ∧ True ∧ True)) ⟨trivial, ⟨trivial, trivial⟩⟩)
    (Eq.mpr (by as_aux_lemma => kernel_rfl : evF prog f76 (s76_A Ψ) Ψ [(.agg [(.int .i64 l_n), l_leq]), (.int .i64 z), (.int .i64 w)] h = s76 Ψ l_n l_leq z w h) H)

/- 78 (dictum/heyting.lattice).join$1 -/
def s78 (Ψ : AVal → Heap → Prop) (z : Int) (c0 : AVal) (c1 : AVal) (c2 : AVal) (h : Heap) : Prop :=
  addOff c0 1 fun p =>
  ld1 h p fun v =>
  ld1 h c1 fun v1 =>
  tInt .i64 v1 fun v2 =>
  callV prog v [(.int .i64 v2), (.int .i64 z)] h fun v3 h_ =>
  tBool v3 fun v4 =>
  ifT v4 (
    addOff c0 1 fun p1 =>
    ld1 h_ p1 fun v5 =>
    ld1 h_ c2 fun v6 =>
    tInt .i64 v6 fun v7 =>
    callV prog v5 [(.int .i64 v7), (.int .i64 z)] h_ fun v8 h_1 =>
    tBool v8 fun v9 =>
    retG (.bool v9) h_1 Ψ) (
    retG (.bool false) h_ Ψ)

def s78_A (Ψ : AVal → Heap → Prop) : Ann :=
  .seq (rA 1)
  (.seq (.reg [⟨none, [(0, false), (1, false), (2, false), (3, false), (4, false), (5, false)]⟩, ⟨some (11, true), [(6, false), (7, false), (8, false), (9, false), (10, false)]⟩, ⟨none, [(11, false), (12, false)]⟩])
  (.leaf))

theorem s78_ok {Ψ : AVal → Heap → Prop} {z : Int} {c0 : AVal} {c1 : AVal} {c2 : AVal} {h : Heap} (H : s78 Ψ z c0 c1 c2 h) : ACalls prog 78 [(.int .i64 z), c0, c1, c2] h Ψ :=
  calls_of_evF func78 (by kernel_rfl) (by kernel_rfl) (by kernel_rfl)
    (Eq.mpr (by as_aux_lemma => kernel_rfl : oblF prog f78 (s78_A Ψ) Ψ = (True ∧ True ∧ True)) ⟨trivial, ⟨trivial, trivial⟩⟩)
    (Eq.mpr (by as_aux_lemma => kernel_rfl : evF prog f78 (s78_A Ψ) Ψ [(.int .i64 z), c0, c1, c2] h = s78 Ψ z c0 c1 c2 h) H)

/- 80 dictum/worlds.all -/
abbrev s80l1_T := AVal → AVal → Int → Int → Heap → Prop
def s80l1_R (F : s80l1_T) (l : List AVal) (h : Heap) : Prop := J.cons l fun x0 l => J.cons l fun x1 l => J.cons l fun v l => J.int .i64 v fun x2 => J.cons l fun v l => J.int .i64 v fun x3 => J.nil l (F x0 x1 x2 x3 h)
def s80l1_G (F : s80l1_T) (x0 x1 : AVal) (x2 x3 : Int) (h : Heap) : Prop := gJ [.any, .any, .int .i64, .int .i64] [x0, x1, (.int .i64 x2), (.int .i64 x3)] h (s80l1_R F)
def s80l1_E (F : Nat → s80l1_T) (x0 x1 : AVal) (x2 x3 : Int) (h : Heap) : Prop := gJ [.any, .any, .int .i64, .int .i64] [x0, x1, (.int .i64 x2), (.int .i64 x3)] h (fun l h => ∃ n, s80l1_R (F n) l h)
theorem s80l1_go {F : s80l1_T} {x0 x1 : AVal} {x2 x3 : Int} {h : Heap} (H : F x0 x1 x2 x3 h) : s80l1_G F x0 x1 x2 x3 h := gJ_plain rfl H
theorem s80l1_in {F : Nat → s80l1_T} {x0 x1 : AVal} {x2 x3 : Int} {h : Heap} (n : Nat) (H : F n x0 x1 x2 x3 h) : s80l1_E F x0 x1 x2 x3 h := gJ_plain rfl ⟨n, H⟩

def s80c2 (Ψ : AVal → Heap → Prop) (L1 : s80l1_T) (is2 l_1 : AVal) (t9_1 t10_1 : Int) (h : Heap) : Prop :=
  rg (t10_1 + 1) (
    L1 is2 l_1 t9_1 (t10_1 + 1) h)

def s80l1 (Ψ : AVal → Heap → Prop) : Nat → s80l1_T
  | 0, _, _, _, _, _ => False
  | n1 + 1, is1, l_, t9, t10, h =>
    ifT (decide (t10 < t9)) (
      callV prog is1 [(.int .i64 t10)] h fun v h_ =>
      tBool v fun v1 =>
      ifT v1 (
        appC 1 8 h_ l_ (.lsl 1 [(.int .i64 t10)]) fun v2 h_1 =>
        s80c2 Ψ (s80l1_G (s80l1 Ψ n1)) is1 v2 t9 t10 h_1) (
        s80c2 Ψ (s80l1_G (s80l1 Ψ n1)) is1 l_ t9 t10 h_)) (
      retG l_ h Ψ)

def s80 (Ψ : AVal → Heap → Prop) (m_Up : AVal) (m_Val : AVal) (is : AVal) (h : Heap) : Prop :=
  lenN m_Up fun n =>
  s80l1_E (s80l1 Ψ) is .nilsl n 0 h

def s80_A (Ψ : AVal → Heap → Prop) : Ann :=
  .seq (.reg [⟨none, [(0, true), (1, false)]⟩])
  (.seq (rA 1)
  (.seq (.seq (rA 4)
  (.block (.loop [(1, .any), (5, .any), (9, .int .i64), (10, .int .i64)] (fun n l h => s80l1_R (s80l1 Ψ n) l h) (fun L1 =>
  .seq (rA 1)
  (.seq (.cond (.leaf)
  (.leaf))
  (.cut [(1, .any), (5, .any), (9, .int .i64), (10, .int .i64)] (fun l h => J.cons l fun x0 l => J.cons l fun x1 l => J.cons l fun v l => J.int .i64 v fun x2 => J.cons l fun v l => J.int .i64 v fun x3 => J.nil l (s80c2 Ψ (fun y0 y1 y2 y3 h => L1 [y0, y1, (.int .i64 y2), (.int .i64 y3)] h) x0 x1 x2 x3 h)) (.block (.seq (rA 2)
  (.seq (rA 3)
  (.cond (.reg [⟨none, [(0, false), (1, false), (2, true), (3, false), (4, false)]⟩])
  (.leaf)))))
  (rA 2)))))))
  (.seq (rA 2)
  (.leaf))))

theorem s80_ok {Ψ : AVal → Heap → Prop} {m_Up : AVal} {m_Val : AVal} {is : AVal} {h : Heap} (H : s80 Ψ m_Up m_Val is h) : ACalls prog 80 [(.agg [m_Up, m_Val]), is] h Ψ :=
  calls_of_evF func80 (by kernel_rfl) (by kernel_rfl) (by kernel_rfl)
    (Eq.mpr (by as_aux_lemma => kernel_rfl : oblF prog f80 (s80_A Ψ) Ψ = (True ∧ True ∧ (True ∧ (∀ (h : Heap) (x0 x1 : AVal) (x2 x3 : Int), ON (s80l1 Ψ 0 x0 x1 x2 x3 h)) ∧ ∀ n1 : Nat, (∀ (h : Heap) (x0 x1 : AVal) (x2 x3 : Int), OI (s80l1 Ψ (n1 + 1) x0 x1 x2 x3 h)) ∧ (True ∧ (True ∧ True) ∧ (True ∧ True ∧ True ∧ True) ∧ (∀ (h : Heap) (x0 x1 : AVal) (x2 x3 : Int), OI (s80c2 Ψ (s80l1_G (s80l1 Ψ n1)) x0 x1 x2 x3 h)) ∧ (True))) ∧ True ∧ True)) ⟨trivial, ⟨trivial, ⟨⟨trivial, ⟨fun _ _ _ _ _ H => H, fun _ => ⟨fun _ _ _ _ _ H => H, ⟨trivial, ⟨⟨trivial, trivial⟩, ⟨⟨trivial, ⟨trivial, ⟨trivial, trivial⟩⟩⟩, fun _ _ _ _ _ H => H, trivial⟩⟩⟩⟩⟩⟩, ⟨trivial, trivial⟩⟩⟩⟩)
    (Eq.mpr (by as_aux_lemma => kernel_rfl : evF prog f80 (s80_A Ψ) Ψ [(.agg [m_Up, m_Val]), is] h = s80 Ψ m_Up m_Val is h) H)

/- 82 dictum/worlds.Tidy$2 -/
def s82 (Ψ : AVal → Heap → Prop) (b : Int) (c0 : AVal) (c1 : AVal) (h : Heap) : Prop :=
  ld1 h c0 fun v =>
  callG prog 83 [v, (.func (.func 84) [] [(.lptr [(.int .i64 b)]), c1])] h fun v1 h_ =>
  tBool v1 fun v2 =>
  retG (.bool (!v2)) h_ Ψ

def s82_A (Ψ : AVal → Heap → Prop) : Ann :=
  .seq (.reg [⟨none, [(0, true), (1, false)]⟩])
  (.seq (rA 5)
  (.leaf))

theorem s82_ok {Ψ : AVal → Heap → Prop} {b : Int} {c0 : AVal} {c1 : AVal} {h : Heap} (H : s82 Ψ b c0 c1 h) : ACalls prog 82 [(.int .i64 b), c0, c1] h Ψ :=
  calls_of_evF func82 (by kernel_rfl) (by kernel_rfl) (by kernel_rfl)
    (Eq.mpr (by as_aux_lemma => kernel_rfl : oblF prog f82 (s82_A Ψ) Ψ = (True ∧ True ∧ True)) ⟨trivial, ⟨trivial, trivial⟩⟩)
    (Eq.mpr (by as_aux_lemma => kernel_rfl : evF prog f82 (s82_A Ψ) Ψ [(.int .i64 b), c0, c1] h = s82 Ψ b c0 c1 h) H)

/- 84 dictum/worlds.Tidy$2$1 -/
def s84 (Ψ : AVal → Heap → Prop) (c : Int) (c0 : AVal) (c1 : AVal) (h : Heap) : Prop :=
  ld1 h c0 fun v =>
  tInt .i64 v fun v1 =>
  ifT (c != v1) (
    ld1 h c1 fun v2 =>
    ld1 h c0 fun v3 =>
    tInt .i64 v3 fun v4 =>
    callV prog v2 [(.int .i64 c), (.int .i64 v4)] h fun v5 h_ =>
    tBool v5 fun v6 =>
    retG (.bool v6) h_ Ψ) (
    retG (.bool false) h Ψ)

def s84_A (Ψ : AVal → Heap → Prop) : Ann :=
  .seq (rA 1)
  (.seq (.reg [⟨none, [(0, false), (1, false), (2, false), (3, false)]⟩, ⟨some (8, true), [(4, false), (5, false), (6, false), (7, false)]⟩, ⟨none, [(8, false), (9, false)]⟩])
  (.leaf))

theorem s84_ok {Ψ : AVal → Heap → Prop} {c : Int} {c0 : AVal} {c1 : AVal} {h : Heap} (H : s84 Ψ c c0 c1 h) : ACalls prog 84 [(.int .i64 c), c0, c1] h Ψ :=
  calls_of_evF func84 (by kernel_rfl) (by kernel_rfl) (by kernel_rfl)
    (Eq.mpr (by as_aux_lemma => kernel_rfl : oblF prog f84 (s84_A Ψ) Ψ = (True ∧ True ∧ True)) ⟨trivial, ⟨trivial, trivial⟩⟩)
    (Eq.mpr (by as_aux_lemma => kernel_rfl : evF prog f84 (s84_A Ψ) Ψ [(.int .i64 c), c0, c1] h = s84 Ψ c c0 c1 h) H)

/- 86 dictum/dictumref23.order -/
abbrev s86l2_T := AVal → Int → Int → Heap → Prop
def s86l2_R (F : s86l2_T) (l : List AVal) (h : Heap) : Prop := J.cons l fun x0 l => J.cons l fun v l => J.int .i64 v fun x1 => J.cons l fun v l => J.int .i64 v fun x2 => J.nil l (F x0 x1 x2 h)
def s86l2_G (F : s86l2_T) (x0 : AVal) (x1 x2 : Int) (h : Heap) : Prop := gJ [.any, .int .i64, .int .i64] [x0, (.int .i64 x1), (.int .i64 x2)] h (s86l2_R F)
def s86l2_E (F : Nat → s86l2_T) (x0 : AVal) (x1 x2 : Int) (h : Heap) : Prop := gJ [.any, .int .i64, .int .i64] [x0, (.int .i64 x1), (.int .i64 x2)] h (fun l h => ∃ n, s86l2_R (F n) l h)
theorem s86l2_go {F : s86l2_T} {x0 : AVal} {x1 x2 : Int} {h : Heap} (H : F x0 x1 x2 h) : s86l2_G F x0 x1 x2 h := gJ_plain rfl H
theorem s86l2_in {F : Nat → s86l2_T} {x0 : AVal} {x1 x2 : Int} {h : Heap} (n : Nat) (H : F n x0 x1 x2 h) : s86l2_E F x0 x1 x2 h := gJ_plain rfl ⟨n, H⟩

abbrev s86l3_T := AVal → Int → Int → Heap → Prop
def s86l3_R (F : s86l3_T) (l : List AVal) (h : Heap) : Prop := J.cons l fun x0 l => J.cons l fun v l => J.int .i64 v fun x1 => J.cons l fun v l => J.int .i64 v fun x2 => J.nil l (F x0 x1 x2 h)
def s86l3_G (F : s86l3_T) (x0 : AVal) (x1 x2 : Int) (h : Heap) : Prop := gJ [.any, .int .i64, .int .i64] [x0, (.int .i64 x1), (.int .i64 x2)] h (s86l3_R F)
def s86l3_E (F : Nat → s86l3_T) (x0 : AVal) (x1 x2 : Int) (h : Heap) : Prop := gJ [.any, .int .i64, .int .i64] [x0, (.int .i64 x1), (.int .i64 x2)] h (fun l h => ∃ n, s86l3_R (F n) l h)
theorem s86l3_go {F : s86l3_T} {x0 : AVal} {x1 x2 : Int} {h : Heap} (H : F x0 x1 x2 h) : s86l3_G F x0 x1 x2 h := gJ_plain rfl H
theorem s86l3_in {F : Nat → s86l3_T} {x0 : AVal} {x1 x2 : Int} {h : Heap} (n : Nat) (H : F n x0 x1 x2 h) : s86l3_E F x0 x1 x2 h := gJ_plain rfl ⟨n, H⟩

abbrev s86l4_T := AVal → Int → Int → Int → Heap → Prop
def s86l4_R (F : s86l4_T) (l : List AVal) (h : Heap) : Prop := J.cons l fun x0 l => J.cons l fun v l => J.int .i64 v fun x1 => J.cons l fun v l => J.int .i64 v fun x2 => J.cons l fun v l => J.int .i64 v fun x3 => J.nil l (F x0 x1 x2 x3 h)
def s86l4_G (F : s86l4_T) (x0 : AVal) (x1 x2 x3 : Int) (h : Heap) : Prop := gJ [.any, .int .i64, .int .i64, .int .i64] [x0, (.int .i64 x1), (.int .i64 x2), (.int .i64 x3)] h (s86l4_R F)
def s86l4_E (F : Nat → s86l4_T) (x0 : AVal) (x1 x2 x3 : Int) (h : Heap) : Prop := gJ [.any, .int .i64, .int .i64, .int .i64] [x0, (.int .i64 x1), (.int .i64 x2), (.int .i64 x3)] h (fun l h => ∃ n, s86l4_R (F n) l h)
theorem s86l4_go {F : s86l4_T} {x0 : AVal} {x1 x2 x3 : Int} {h : Heap} (H : F x0 x1 x2 x3 h) : s86l4_G F x0 x1 x2 x3 h := gJ_plain rfl H
theorem s86l4_in {F : Nat → s86l4_T} {x0 : AVal} {x1 x2 x3 : Int} {h : Heap} (n : Nat) (H : F n x0 x1 x2 x3 h) : s86l4_E F x0 x1 x2 x3 h := gJ_plain rfl ⟨n, H⟩

abbrev s86l6_T := AVal → Int → Int → Int → Int → Heap → Prop
def s86l6_R (F : s86l6_T) (l : List AVal) (h : Heap) : Prop := J.cons l fun x0 l => J.cons l fun v l => J.int .i64 v fun x1 => J.cons l fun v l => J.int .i64 v fun x2 => J.cons l fun v l => J.int .i64 v fun x3 => J.cons l fun v l => J.int .i64 v fun x4 => J.nil l (F x0 x1 x2 x3 x4 h)
def s86l6_G (F : s86l6_T) (x0 : AVal) (x1 x2 x3 x4 : Int) (h : Heap) : Prop := gJ [.any, .int .i64, .int .i64, .int .i64, .int .i64] [x0, (.int .i64 x1), (.int .i64 x2), (.int .i64 x3), (.int .i64 x4)] h (s86l6_R F)
def s86l6_E (F : Nat → s86l6_T) (x0 : AVal) (x1 x2 x3 x4 : Int) (h : Heap) : Prop := gJ [.any, .int .i64, .int .i64, .int .i64, .int .i64] [x0, (.int .i64 x1), (.int .i64 x2), (.int .i64 x3), (.int .i64 x4)] h (fun l h => ∃ n, s86l6_R (F n) l h)
theorem s86l6_go {F : s86l6_T} {x0 : AVal} {x1 x2 x3 x4 : Int} {h : Heap} (H : F x0 x1 x2 x3 x4 h) : s86l6_G F x0 x1 x2 x3 x4 h := gJ_plain rfl H
theorem s86l6_in {F : Nat → s86l6_T} {x0 : AVal} {x1 x2 x3 x4 : Int} {h : Heap} (n : Nat) (H : F n x0 x1 x2 x3 x4 h) : s86l6_E F x0 x1 x2 x3 x4 h := gJ_plain rfl ⟨n, H⟩

def s86c7 (Ψ : AVal → Heap → Prop) (L3 : s86l3_T) (L4 : s86l4_T) (L6 : s86l6_T) (l_7 : AVal) (n12 x5 y3 z1 : Int) (t104 : Bool) (h : Heap) : Prop :=
  ifT t104 (
    retG (.bool false) h Ψ) (
    rg (z1 + 1) (
      L6 l_7 n12 x5 y3 (z1 + 1) h))

def s86l6 (Ψ : AVal → Heap → Prop) (L3 : s86l3_T) (L4 : s86l4_T) : Nat → s86l6_T
  | 0, _, _, _, _, _, _ => False
  | n11 + 1, l_6, n10, x4, y2, z, h =>
    ifT (decide (z < n10)) (
      ixS 1 l_6 x4 fun p1 =>
      ld1 h p1 fun v1 =>
      ixS 1 v1 y2 fun p2 =>
      ld1 h p2 fun v2 =>
      tBool v2 fun v3 =>
      ifT v3 (
        ixS 1 l_6 y2 fun p3 =>
        ld1 h p3 fun v4 =>
        ixS 1 v4 z fun p4 =>
        ld1 h p4 fun v5 =>
        tBool v5 fun v6 =>
        ifT v6 (
          ixS 1 l_6 x4 fun p5 =>
          ld1 h p5 fun v7 =>
          ixS 1 v7 z fun p6 =>
          ld1 h p6 fun v8 =>
          tBool v8 fun v9 =>
          s86c7 Ψ L3 L4 (s86l6_G (s86l6 Ψ L3 L4 n11)) l_6 n10 x4 y2 z (!v9) h) (
          s86c7 Ψ L3 L4 (s86l6_G (s86l6 Ψ L3 L4 n11)) l_6 n10 x4 y2 z false h)) (
        s86c7 Ψ L3 L4 (s86l6_G (s86l6 Ψ L3 L4 n11)) l_6 n10 x4 y2 z false h)) (
      rg (y2 + 1) (
        L4 l_6 n10 x4 (y2 + 1) h))

def s86c5 (Ψ : AVal → Heap → Prop) (L3 : s86l3_T) (L4 : s86l4_T) (l_5 : AVal) (n9 x3 y1 : Int) (t73 : Bool) (h : Heap) : Prop :=
  ifT t73 (
    retG (.bool false) h Ψ) (
    s86l6_E (s86l6 Ψ L3 L4) l_5 n9 x3 y1 0 h)

def s86l4 (Ψ : AVal → Heap → Prop) (L3 : s86l3_T) : Nat → s86l4_T
  | 0, _, _, _, _, _ => False
  | n8 + 1, l_4, n7, x2, y, h =>
    ifT (decide (y < n7)) (
      ifT (x2 == y) (
        ixS 1 l_4 x2 fun p7 =>
        ld1 h p7 fun v10 =>
        ixS 1 v10 x2 fun p8 =>
        ld1 h p8 fun v11 =>
        tBool v11 fun v12 =>
        ifT (!v12) (
          s86c5 Ψ L3 (s86l4_G (s86l4 Ψ L3 n8)) l_4 n7 x2 y true h) (
          ifT (x2 != y) (
            ixS 1 l_4 x2 fun p9 =>
            ld1 h p9 fun v13 =>
            ixS 1 v13 y fun p10 =>
            ld1 h p10 fun v14 =>
            tBool v14 fun v15 =>
            ifT v15 (
              ixS 1 l_4 y fun p11 =>
              ld1 h p11 fun v16 =>
              ixS 1 v16 x2 fun p12 =>
              ld1 h p12 fun v17 =>
              tBool v17 fun v18 =>
              s86c5 Ψ L3 (s86l4_G (s86l4 Ψ L3 n8)) l_4 n7 x2 y v18 h) (
              s86c5 Ψ L3 (s86l4_G (s86l4 Ψ L3 n8)) l_4 n7 x2 y false h)) (
            s86c5 Ψ L3 (s86l4_G (s86l4 Ψ L3 n8)) l_4 n7 x2 y false h))) (
        ifT (x2 != y) (
          ixS 1 l_4 x2 fun p13 =>
          ld1 h p13 fun v19 =>
          ixS 1 v19 y fun p14 =>
          ld1 h p14 fun v20 =>
          tBool v20 fun v21 =>
          ifT v21 (
            ixS 1 l_4 y fun p15 =>
            ld1 h p15 fun v22 =>
            ixS 1 v22 x2 fun p16 =>
            ld1 h p16 fun v23 =>
            tBool v23 fun v24 =>
            s86c5 Ψ L3 (s86l4_G (s86l4 Ψ L3 n8)) l_4 n7 x2 y v24 h) (
            s86c5 Ψ L3 (s86l4_G (s86l4 Ψ L3 n8)) l_4 n7 x2 y false h)) (
          s86c5 Ψ L3 (s86l4_G (s86l4 Ψ L3 n8)) l_4 n7 x2 y false h))) (
      rg (x2 + 1) (
        L3 l_4 n7 (x2 + 1) h))

def s86l3 (Ψ : AVal → Heap → Prop) : Nat → s86l3_T
  | 0, _, _, _, _ => False
  | n6 + 1, l_3, n5, x1, h =>
    ifT (decide (x1 < n5)) (
      s86l4_E (s86l4 Ψ (s86l3_G (s86l3 Ψ n6))) l_3 n5 x1 0 h) (
      retG (.bool true) h Ψ)

def s86l2 (Ψ : AVal → Heap → Prop) : Nat → s86l2_T
  | 0, _, _, _, _ => False
  | n3 + 1, l_2, n2, x, h =>
    ifT (decide (x < n2)) (
      ixS 1 l_2 x fun p =>
      ld1 h p fun v =>
      lenN v fun n4 =>
      ifT (n4 != n2) (
        retG (.bool false) h Ψ) (
        rg (x + 1) (
          s86l2_G (s86l2 Ψ n3) l_2 n2 (x + 1) h))) (
      s86l3_E (s86l3 Ψ) l_2 n2 0 h)

def s86c1 (Ψ : AVal → Heap → Prop) (l_1 : AVal) (n1 : Int) (t15 : Bool) (h : Heap) : Prop :=
  ifT t15 (
    retG (.bool false) h Ψ) (
    s86l2_E (s86l2 Ψ) l_1 n1 0 h)

def s86 (Ψ : AVal → Heap → Prop) (l_ : AVal) (h : Heap) : Prop :=
  lenN l_ fun n =>
  ifT (decide (n < 1)) (
    s86c1 Ψ l_ n true h) (
    s86c1 Ψ l_ n (decide (64 < n)) h)

def s86_A (Ψ : AVal → Heap → Prop) : Ann :=
  .seq (rA 1)
  (.seq (rA 3)
  (.seq (.cut [(0, .any), (3, .int .i64), (15, .bool)] (fun l h => J.cons l fun x0 l => J.cons l fun v l => J.int .i64 v fun x1 => J.cons l fun v l => J.bool v fun x2 => J.nil l (s86c1 Ψ x0 x1 x2 h)) (.reg [⟨none, [(0, false), (1, false), (2, false)]⟩, ⟨some (12, false), [(3, false), (4, false)]⟩, ⟨none, [(5, false)]⟩])
  (.cond (.seq (rA 1)
  (.leaf))
  (.leaf)))
  (.seq (.seq (rA 1)
  (.block (.loop [(0, .any), (3, .int .i64), (4, .int .i64)] (fun n l h => s86l2_R (s86l2 Ψ n) l h) (fun L2 =>
  .seq (.seq (rA 3)
  (.cond (.leaf)
  (.leaf)))
  (.seq (.block (.seq (rA 7)
  (.cond (.seq (rA 1)
  (.leaf))
  (.leaf))))
  (rA 3))))))
  (.seq (.seq (rA 1)
  (.block (.loop [(0, .any), (3, .int .i64), (5, .int .i64)] (fun n l h => s86l3_R (s86l3 Ψ n) l h) (fun L3 =>
  .seq (.seq (rA 3)
  (.cond (.leaf)
  (.leaf)))
  (.seq (.block (.seq (rA 1)
  (.block (.loop [(0, .any), (3, .int .i64), (5, .int .i64), (6, .int .i64)] (fun n l h => s86l4_R (s86l4 Ψ (fun y0 y1 y2 h => L3 [y0, (.int .i64 y1), (.int .i64 y2)] h) n) l h) (fun L4 =>
  .seq (.seq (rA 3)
  (.cond (.leaf)
  (.leaf)))
  (.seq (.block (.seq (.cut [(0, .any), (3, .int .i64), (5, .int .i64), (6, .int .i64), (73, .bool)] (fun l h => J.cons l fun x0 l => J.cons l fun v l => J.int .i64 v fun x1 => J.cons l fun v l => J.int .i64 v fun x2 => J.cons l fun v l => J.int .i64 v fun x3 => J.cons l fun v l => J.bool v fun x4 => J.nil l (s86c5 Ψ (fun y0 y1 y2 h => L3 [y0, (.int .i64 y1), (.int .i64 y2)] h) (fun y0 y1 y2 y3 h => L4 [y0, (.int .i64 y1), (.int .i64 y2), (.int .i64 y3)] h) x0 x1 x2 x3 x4 h)) (.reg [⟨none, [(0, false), (1, false), (2, false), (3, false)]⟩, ⟨some (41, true), [(4, false), (5, false), (6, false), (7, false), (8, false), (9, false), (10, false), (11, false)]⟩, ⟨none, [(12, false), (13, false)]⟩, ⟨some (51, false), [(14, false), (15, false), (16, false), (17, false)]⟩, ⟨some (55, true), [(18, false), (19, false), (20, false), (21, false), (22, false), (23, false), (24, false)]⟩, ⟨some (51, false), [(25, false), (26, false)]⟩, ⟨some (64, true), [(27, false), (28, false), (29, false), (30, false), (31, false), (32, false), (33, false)]⟩, ⟨some (51, false), [(34, false)]⟩, ⟨none, [(35, false)]⟩])
  (.cond (.seq (rA 1)
  (.leaf))
  (.leaf)))
  (.seq (rA 1)
  (.block (.loop [(0, .any), (3, .int .i64), (5, .int .i64), (6, .int .i64), (7, .int .i64)] (fun n l h => s86l6_R (s86l6 Ψ (fun y0 y1 y2 h => L3 [y0, (.int .i64 y1), (.int .i64 y2)] h) (fun y0 y1 y2 y3 h => L4 [y0, (.int .i64 y1), (.int .i64 y2), (.int .i64 y3)] h) n) l h) (fun L6 =>
  .seq (.seq (rA 3)
  (.cond (.leaf)
  (.leaf)))
  (.seq (.block (.cut [(0, .any), (3, .int .i64), (5, .int .i64), (6, .int .i64), (7, .int .i64), (104, .bool)] (fun l h => J.cons l fun x0 l => J.cons l fun v l => J.int .i64 v fun x1 => J.cons l fun v l => J.int .i64 v fun x2 => J.cons l fun v l => J.int .i64 v fun x3 => J.cons l fun v l => J.int .i64 v fun x4 => J.cons l fun v l => J.bool v fun x5 => J.nil l (s86c7 Ψ (fun y0 y1 y2 h => L3 [y0, (.int .i64 y1), (.int .i64 y2)] h) (fun y0 y1 y2 y3 h => L4 [y0, (.int .i64 y1), (.int .i64 y2), (.int .i64 y3)] h) (fun y0 y1 y2 y3 y4 h => L6 [y0, (.int .i64 y1), (.int .i64 y2), (.int .i64 y3), (.int .i64 y4)] h) x0 x1 x2 x3 x4 x5 h)) (.reg [⟨none, [(0, false), (1, false), (2, false), (3, false), (4, false), (5, false), (6, false), (7, false)]⟩, ⟨some (86, true), [(8, false), (9, false), (10, false), (11, false), (12, false), (13, false), (14, false)]⟩, ⟨none, [(15, false), (16, false)]⟩, ⟨some (95, true), [(17, false), (18, false), (19, false), (20, false), (21, false), (22, false), (23, false), (24, false)]⟩, ⟨none, [(25, false)]⟩])
  (.cond (.seq (rA 1)
  (.leaf))
  (.leaf))))
  (rA 3))))))))
  (rA 3)))))))
  (rA 3))))))
  (.seq (rA 1)
  (.leaf))))))

theorem s86_ok {Ψ : AVal → Heap → Prop} {l_ : AVal} {h : Heap} (H : s86 Ψ l_ h) : ACalls prog 86 [l_] h Ψ :=
  calls_of_evF func86 (by kernel_rfl) (by kernel_rfl) (by kernel_rfl)
    (Eq.mpr (by as_aux_lemma => kernel_rfl : oblF prog f86 (s86_A Ψ) Ψ = (True ∧ True ∧ ((True) ∧ (∀ (h : Heap) (x0 : AVal) (x1 : Int) (x2 : Bool), OI (s86c1 Ψ x0 x1 x2 h)) ∧ ((True ∧ True) ∧ True)) ∧ (True ∧ (∀ (h : Heap) (x0 : AVal) (x1 x2 : Int), ON (s86l2 Ψ 0 x0 x1 x2 h)) ∧ ∀ n2 : Nat, (∀ (h : Heap) (x0 : AVal) (x1 x2 : Int), OI (s86l2 Ψ (n2 + 1) x0 x1 x2 h)) ∧ ((True ∧ True ∧ True) ∧ (True ∧ (True ∧ True) ∧ True) ∧ True)) ∧ (True ∧ (∀ (h : Heap) (x0 : AVal) (x1 x2 : Int), ON (s86l3 Ψ 0 x0 x1 x2 h)) ∧ ∀ n3 : Nat, (∀ (h : Heap) (x0 : AVal) (x1 x2 : Int), OI (s86l3 Ψ (n3 + 1) x0 x1 x2 h)) ∧ ((True ∧ True ∧ True) ∧ (True ∧ (∀ (h : Heap) (x0 : AVal) (x1 x2 x3 : Int), ON (s86l4 Ψ (s86l3_G (s86l3 Ψ n3)) 0 x0 x1 x2 x3 h)) ∧ ∀ n4 : Nat, (∀ (h : Heap) (x0 : AVal) (x1 x2 x3 : Int), OI (s86l4 Ψ (s86l3_G (s86l3 Ψ n3)) (n4 + 1) x0 x1 x2 x3 h)) ∧ ((True ∧ True ∧ True) ∧ (((True) ∧ (∀ (h : Heap) (x0 : AVal) (x1 x2 x3 : Int) (x4 : Bool), OI (s86c5 Ψ (s86l3_G (s86l3 Ψ n3)) (s86l4_G (s86l4 Ψ (s86l3_G (s86l3 Ψ n3)) n4)) x0 x1 x2 x3 x4 h)) ∧ ((True ∧ True) ∧ True)) ∧ True ∧ (∀ (h : Heap) (x0 : AVal) (x1 x2 x3 x4 : Int), ON (s86l6 Ψ (s86l3_G (s86l3 Ψ n3)) (s86l4_G (s86l4 Ψ (s86l3_G (s86l3 Ψ n3)) n4)) 0 x0 x1 x2 x3 x4 h)) ∧ ∀ n6 : Nat, (∀ (h : Heap) (x0 : AVal) (x1 x2 x3 x4 : Int), OI (s86l6 Ψ (s86l3_G (s86l3 Ψ n3)) (s86l4_G (s86l4 Ψ (s86l3_G (s86l3 Ψ n3)) n4)) (n6 + 1) x0 x1 x2 x3 x4 h)) ∧ ((True ∧ True ∧ True) ∧ ((True) ∧ (∀ (h : Heap) (x0 : AVal) (x1 x2 x3 x4 : Int) (x5 : Bool), OI (s86c7 Ψ (s86l3_G (s86l3 Ψ n3)) (s86l4_G (s86l4 Ψ (s86l3_G (s86l3 Ψ n3)) n4)) (s86l6_G (s86l6 Ψ (s86l3_G (s86l3 Ψ n3)) (s86l4_G (s86l4 Ψ (s86l3_G (s86l3 Ψ n3)) n4)) n6)) x0 x1 x2 x3 x4 x5 h)) ∧ ((True ∧ True) ∧ True)) ∧ True)) ∧ True)) ∧ True)) ∧ True ∧ True)) ⟨trivial, ⟨trivial, ⟨⟨trivial, fun _ _ _ _ H => H, ⟨⟨trivial, trivial⟩, trivial⟩⟩, ⟨⟨trivial, ⟨fun _ _ _ _ H => H, fun _ => ⟨fun _ _ _ _ H => H, ⟨⟨trivial, ⟨trivial, trivial⟩⟩, ⟨⟨trivial, ⟨⟨trivial, trivial⟩, trivial⟩⟩, trivial⟩⟩⟩⟩⟩, ⟨⟨trivial, ⟨fun _ _ _ _ H => H, fun _ => ⟨fun _ _ _ _ H => H, ⟨⟨trivial, ⟨trivial, trivial⟩⟩, ⟨⟨trivial, ⟨fun _ _ _ _ _ H => H, fun _ => ⟨fun _ _ _ _ _ H => H, ⟨⟨trivial, ⟨trivial, trivial⟩⟩, ⟨⟨⟨trivial, fun _ _ _ _ _ _ H => H, ⟨⟨trivial, trivial⟩, trivial⟩⟩, ⟨trivial, ⟨fun _ _ _ _ _ _ H => H, fun _ => ⟨fun _ _ _ _ _ _ H => H, ⟨⟨trivial, ⟨trivial, trivial⟩⟩, ⟨⟨trivial, fun _ _ _ _ _ _ _ H => H, ⟨⟨trivial, trivial⟩, trivial⟩⟩, trivial⟩⟩⟩⟩⟩⟩, trivial⟩⟩⟩⟩⟩, trivial⟩⟩⟩⟩⟩, ⟨trivial, trivial⟩⟩⟩⟩⟩⟩)
    (Eq.mpr (by as_aux_lemma => kernel_rfl : evF prog f86 (s86_A Ψ) Ψ [l_] h = s86 Ψ l_ h) H)

/- 88 (*dictum/dictumref03.T).Put -/
def s88c1 (Ψ : AVal → Heap → Prop) (t1 n : AVal) (h : Heap) : Prop :=
  ldN 4 h n fun l_ =>
  tCons l_ fun v l_1 =>
  tInt .i64 v fun v1 =>
  tCons l_1 fun v2 l_2 =>
  tStr v2 fun v3 =>
  tCons l_2 fun v4 l_3 =>
  tInt .i64 v4 fun v5 =>
  tCons l_3 fun v6 l_4 =>
  tInt .i64 v6 fun v7 =>
  tNil l_4 (
    callG prog 119 [t1, (.agg [(.int .i64 v1), (.str v3), (.int .i64 v5), (.int .i64 v7)])] h fun v8 h_ =>
    tTup v8 fun l_5 =>
    tCons l_5 fun v9 l_6 =>
    tInt .i64 v9 fun v10 =>
    tCons l_6 fun v11 l_7 =>
    tBool v11 fun v12 =>
    tNil l_7 (
      ifT v12 (
        retG (.tuple [(.int .i64 v10), (.int .i64 0)]) h_ Ψ) (
        nilCheckA t1 fun p =>
        addOff p 0 fun p1 =>
        ld1 h_ p1 fun v13 =>
        lenN v13 fun n1 =>
        ifT (decide (1024 ≤ n1)) (
          retG (.tuple [(.int .i64 0), (.int .i64 30)]) h_ Ψ) (
          nilCheckA t1 fun p2 =>
          addOff p2 0 fun p3 =>
          ld1 h_ p3 fun v14 =>
          ldN 4 h_ n fun l_8 =>
          tCons l_8 fun v15 l_9 =>
          tInt .i64 v15 fun v16 =>
          tCons l_9 fun v17 l_10 =>
          tStr v17 fun v18 =>
          tCons l_10 fun v19 l_11 =>
          tInt .i64 v19 fun v20 =>
          tCons l_11 fun v21 l_12 =>
          tInt .i64 v21 fun v22 =>
          tNil l_12 (
            (ld1 h_ p3 fun v23 =>
            v23 = v14) ∧
            appC 4 40 h_ v14 (.lsl 4 [(.agg [(.int .i64 v16), (.str v18), (.int .i64 v20), (.int .i64 v22)])]) fun v24 h_1 =>
            nilCheckA t1 fun p4 =>
            addOff p4 0 fun p5 =>
            chk (sc v24) (
              st true h_1 p5 [v24] fun h_2 =>
              nilCheckA t1 fun p6 =>
              addOff p6 0 fun p7 =>
              ld1 h_2 p7 fun v25 =>
              lenN v25 fun n2 =>
              rg (n2 - 1) (
                retG (.tuple [(.int .i64 (n2 - 1)), (.int .i64 0)]) h_2 Ψ)))))))

def s88c2 (Ψ : AVal → Heap → Prop) (t2 n3 : AVal) (t19 : Bool) (h : Heap) : Prop :=
  ifT t19 (
    retG (.tuple [(.int .i64 0), (.int .i64 31)]) h Ψ) (
    addOff n3 1 fun p8 =>
    ld1 h p8 fun v26 =>
    tStr v26 fun v27 =>
    callG prog 103 [(.str v27)] h fun v28 h_3 =>
    tBool v28 fun v29 =>
    ifT (!v29) (
      retG (.tuple [(.int .i64 0), (.int .i64 32)]) h_3 Ψ) (
      s88c1 Ψ t2 n3 h_3))

def s88c3 (Ψ : AVal → Heap → Prop) (t3 n4 : AVal) (t38 : Bool) (h : Heap) : Prop :=
  ifT t38 (
    retG (.tuple [(.int .i64 0), (.int .i64 31)]) h Ψ) (
    s88c1 Ψ t3 n4 h)

def s88c5 (Ψ : AVal → Heap → Prop) (t5 n6 : AVal) (t59 : Bool) (h : Heap) : Prop :=
  ifT t59 (
    retG (.tuple [(.int .i64 0), (.int .i64 31)]) h Ψ) (
    s88c1 Ψ t5 n6 h)

def s88c4 (Ψ : AVal → Heap → Prop) (t4 n5 : AVal) (t39 : Bool) (h : Heap) : Prop :=
  ifT t39 (
    addOff n5 1 fun p9 =>
    ld1 h p9 fun v30 =>
    tStr v30 fun v31 =>
    ifT (!strEq v31 (ByteArray.mk #[])) (
      s88c5 Ψ t4 n5 true h) (
      addOff n5 2 fun p10 =>
      ld1 h p10 fun v32 =>
      tInt .i64 v32 fun v33 =>
      callG prog 24 [t4, (.int .i64 v33)] h fun v34 h_4 =>
      tBool v34 fun v35 =>
      ifT (!v35) (
        s88c5 Ψ t4 n5 true h_4) (
        addOff n5 3 fun p11 =>
        ld1 h_4 p11 fun v36 =>
        tInt .i64 v36 fun v37 =>
        callG prog 24 [t4, (.int .i64 v37)] h_4 fun v38 h_5 =>
        tBool v38 fun v39 =>
        s88c5 Ψ t4 n5 (!v39) h_5))) (
    retG (.tuple [(.int .i64 0), (.int .i64 31)]) h Ψ)

def s88 (Ψ : AVal → Heap → Prop) (t : AVal) (n_Kind : Int) (n_Name : ByteArray) (n_L : Int) (n_R : Int) (h : Heap) : Prop :=
  ifT (n_Kind == 1) (
    ifT (n_L != 0) (
      s88c2 Ψ t (.lptr [(.int .i64 n_Kind), (.str n_Name), (.int .i64 n_L), (.int .i64 n_R)]) true h) (
      s88c2 Ψ t (.lptr [(.int .i64 n_Kind), (.str n_Name), (.int .i64 n_L), (.int .i64 n_R)]) (n_R != 0) h)) (
    ifT (n_Kind == 2) (
      ifT (!strEq n_Name (ByteArray.mk #[])) (
        s88c3 Ψ t (.lptr [(.int .i64 n_Kind), (.str n_Name), (.int .i64 n_L), (.int .i64 n_R)]) true h) (
        ifT (n_L != 0) (
          s88c3 Ψ t (.lptr [(.int .i64 n_Kind), (.str n_Name), (.int .i64 n_L), (.int .i64 n_R)]) true h) (
          s88c3 Ψ t (.lptr [(.int .i64 n_Kind), (.str n_Name), (.int .i64 n_L), (.int .i64 n_R)]) (n_R != 0) h))) (
      ifT (n_Kind == 3) (
        s88c4 Ψ t (.lptr [(.int .i64 n_Kind), (.str n_Name), (.int .i64 n_L), (.int .i64 n_R)]) (n_Kind == 3) h) (
        ifT (n_Kind == 4) (
          s88c4 Ψ t (.lptr [(.int .i64 n_Kind), (.str n_Name), (.int .i64 n_L), (.int .i64 n_R)]) (n_Kind == 4) h) (
          s88c4 Ψ t (.lptr [(.int .i64 n_Kind), (.str n_Name), (.int .i64 n_L), (.int .i64 n_R)]) (n_Kind == 5) h))))

def s88_A (Ψ : AVal → Heap → Prop) : Ann :=
  .seq (.reg [⟨none, [(0, true), (1, false), (2, false)]⟩])
  (.cut [(0, .any), (3, .any)] (fun l h => J.cons l fun x0 l => J.cons l fun x1 l => J.nil l (s88c1 Ψ x0 x1 h)) (.seq (rA 2)
  (.block (.seq (rA 2)
  (.cond (.seq (.cut [(0, .any), (3, .any), (19, .bool)] (fun l h => J.cons l fun x0 l => J.cons l fun x1 l => J.cons l fun v l => J.bool v fun x2 => J.nil l (s88c2 Ψ x0 x1 x2 h)) (.reg [⟨none, [(0, false), (1, false), (2, false), (3, false)]⟩, ⟨some (15, false), [(4, false), (5, false), (6, false)]⟩, ⟨none, [(7, false)]⟩])
  (.cond (.seq (rA 2)
  (.leaf))
  (.leaf)))
  (.seq (rA 4)
  (.cond (.seq (rA 2)
  (.leaf))
  (.leaf))))
  (.seq (rA 2)
  (.cond (.cut [(0, .any), (3, .any), (38, .bool)] (fun l h => J.cons l fun x0 l => J.cons l fun x1 l => J.cons l fun v l => J.bool v fun x2 => J.nil l (s88c3 Ψ x0 x1 x2 h)) (.reg [⟨none, [(0, false), (1, false), (2, false), (3, false)]⟩, ⟨some (29, false), [(4, false), (5, false), (6, false)]⟩, ⟨none, [(7, false), (8, false)]⟩, ⟨some (34, false), [(9, false), (10, false), (11, false)]⟩, ⟨none, [(12, false)]⟩])
  (.cond (.seq (rA 2)
  (.leaf))
  (.leaf)))
  (.cut [(0, .any), (3, .any), (39, .bool)] (fun l h => J.cons l fun x0 l => J.cons l fun x1 l => J.cons l fun v l => J.bool v fun x2 => J.nil l (s88c4 Ψ x0 x1 x2 h)) (.seq (rA 2)
  (.cond (.leaf)
  (.seq (rA 2)
  (.cond (.leaf)
  (rA 2)))))
  (.cond (.cut [(0, .any), (3, .any), (59, .bool)] (fun l h => J.cons l fun x0 l => J.cons l fun x1 l => J.cons l fun v l => J.bool v fun x2 => J.nil l (s88c5 Ψ x0 x1 x2 h)) (.reg [⟨none, [(0, false), (1, false), (2, false), (3, false)]⟩, ⟨some (46, false), [(4, false), (5, false), (6, false), (7, false), (8, false)]⟩, ⟨none, [(9, false), (10, false)]⟩, ⟨some (53, false), [(11, false), (12, false), (13, false), (14, false), (15, false)]⟩, ⟨none, [(16, false)]⟩])
  (.cond (.seq (rA 2)
  (.leaf))
  (.leaf)))
  (.seq (rA 2)
  (.leaf))))))))))
  (.seq (rA 8)
  (.seq (.seq (rA 1)
  (.cond (.seq (rA 3)
  (.leaf))
  (.leaf)))
  (.seq (.seq (rA 6)
  (.cond (.seq (rA 2)
  (.leaf))
  (.leaf)))
  (.seq (.draw [(0, false), (1, false), (2, false), (3, false), (4, false), (5, false), (6, true), (7, false), (8, false), (9, false), (10, false)] [0, 0, 2, 6, 14, 0, 32, 126, 255, 511, 1023])
  (.seq (rA 8)
  (.leaf)))))))

theorem s88_ok {Ψ : AVal → Heap → Prop} {t : AVal} {n_Kind : Int} {n_Name : ByteArray} {n_L : Int} {n_R : Int} {h : Heap} (H : s88 Ψ t n_Kind n_Name n_L n_R h) : ACalls prog 88 [t, (.agg [(.int .i64 n_Kind), (.str n_Name), (.int .i64 n_L), (.int .i64 n_R)])] h Ψ :=
  calls_of_evF func88 (by kernel_rfl) (by kernel_rfl) (by kernel_rfl)
    (Eq.mpr (by as_aux_lemma => kernel_rfl : oblF prog f88 (s88_A Ψ) Ψ = (True ∧ (True ∧ True ∧ (((True) ∧ (∀ (h : Heap) (x0 x1 : AVal) (x2 : Bool), OI (s88c2 Ψ x0 x1 x2 h)) ∧ ((True ∧ True) ∧ True)) ∧ True ∧ (True ∧ True) ∧ True) ∧ True ∧ ((True) ∧ (∀ (h : Heap) (x0 x1 : AVal) (x2 : Bool), OI (s88c3 Ψ x0 x1 x2 h)) ∧ ((True ∧ True) ∧ True)) ∧ (True ∧ True ∧ True ∧ True ∧ True) ∧ (∀ (h : Heap) (x0 x1 : AVal) (x2 : Bool), OI (s88c4 Ψ x0 x1 x2 h)) ∧ (((True) ∧ (∀ (h : Heap) (x0 x1 : AVal) (x2 : Bool), OI (s88c5 Ψ x0 x1 x2 h)) ∧ ((True ∧ True) ∧ True)) ∧ True ∧ True)) ∧ (∀ (h : Heap) (x0 x1 : AVal), OI (s88c1 Ψ x0 x1 h)) ∧ (True ∧ (True ∧ (True ∧ True) ∧ True) ∧ (True ∧ (True ∧ True) ∧ True) ∧ True ∧ True ∧ True))) ⟨trivial, ⟨⟨trivial, ⟨trivial, ⟨⟨⟨trivial, fun _ _ _ _ H => H, ⟨⟨trivial, trivial⟩, trivial⟩⟩, ⟨trivial, ⟨⟨trivial, trivial⟩, trivial⟩⟩⟩, ⟨trivial, ⟨⟨trivial, fun _ _ _ _ H => H, ⟨⟨trivial, trivial⟩, trivial⟩⟩, ⟨⟨trivial, ⟨trivial, ⟨trivial, ⟨trivial, trivial⟩⟩⟩⟩, fun _ _ _ _ H => H, ⟨⟨trivial, fun _ _ _ _ H => H, ⟨⟨trivial, trivial⟩, trivial⟩⟩, ⟨trivial, trivial⟩⟩⟩⟩⟩⟩⟩⟩, fun _ _ _ H => H, ⟨trivial, ⟨⟨trivial, ⟨⟨trivial, trivial⟩, trivial⟩⟩, ⟨⟨trivial, ⟨⟨trivial, trivial⟩, trivial⟩⟩, ⟨trivial, ⟨trivial, trivial⟩⟩⟩⟩⟩⟩⟩)
    (Eq.mpr (by as_aux_lemma => kernel_rfl : evF prog f88 (s88_A Ψ) Ψ [t, (.agg [(.int .i64 n_Kind), (.str n_Name), (.int .i64 n_L), (.int .i64 n_R)])] h = s88 Ψ t n_Kind n_Name n_L n_R h) H)

/- 90 (*dictum/formula.Table).Put -/
def s90 (Ψ : AVal → Heap → Prop) (t : AVal) (n_Kind : Int) (n_Name : ByteArray) (n_L : Int) (n_R : Int) (h : Heap) : Prop :=
  callG prog 91 [t] h fun v h_ =>
  tBool v fun v1 =>
  ifT (!v1) (
    retG (.tuple [(.int .i64 0), (.int .i64 1)]) h_ Ψ) (
    callG prog 120 [t, (.agg [(.int .i64 n_Kind), (.str n_Name), (.int .i64 n_L), (.int .i64 n_R)])] h_ fun v2 h_1 =>
    tInt .i64 v2 fun v3 =>
    ifT (v3 != 0) (
      retG (.tuple [(.int .i64 0), (.int .i64 v3)]) h_1 Ψ) (
      nilCheckA t fun p =>
      addOff p 1 fun p1 =>
      ld1 h_1 p1 fun v4 =>
      mapGet (.int .i64 0) h_1 v4 (.agg [(.int .i64 n_Kind), (.str n_Name), (.int .i64 n_L), (.int .i64 n_R)]) fun v5 b =>
      tInt .i64 v5 fun v6 =>
      ifT b (
        retG (.tuple [(.int .i64 v6), (.int .i64 0)]) h_1 Ψ) (
        nilCheckA t fun p2 =>
        addOff p2 0 fun p3 =>
        ld1 h_1 p3 fun v7 =>
        lenN v7 fun n =>
        ifT (decide (1024 ≤ n)) (
          retG (.tuple [(.int .i64 0), (.int .i64 30)]) h_1 Ψ) (
          nilCheckA t fun p4 =>
          addOff p4 0 fun p5 =>
          ld1 h_1 p5 fun v8 =>
          (ld1 h_1 p5 fun v9 =>
          v9 = v8) ∧
          appC 4 40 h_1 v8 (.lsl 4 [(.agg [(.int .i64 n_Kind), (.str n_Name), (.int .i64 n_L), (.int .i64 n_R)])]) fun v10 h_2 =>
          nilCheckA t fun p6 =>
          addOff p6 0 fun p7 =>
          chk (sc v10) (
            st true h_2 p7 [v10] fun h_3 =>
            nilCheckA t fun p8 =>
            addOff p8 1 fun p9 =>
            ld1 h_3 p9 fun v11 =>
            mapPut h_3 v11 (.agg [(.int .i64 n_Kind), (.str n_Name), (.int .i64 n_L), (.int .i64 n_R)]) (.int .i64 n) fun h_4 =>
            retG (.tuple [(.int .i64 n), (.int .i64 0)]) h_4 Ψ)))))

def s90_A (Ψ : AVal → Heap → Prop) : Ann :=
  .seq (.reg [⟨none, [(0, true), (1, false), (2, false)]⟩])
  (.seq (.seq (rA 3)
  (.cond (.seq (rA 2)
  (.leaf))
  (.leaf)))
  (.seq (.seq (rA 4)
  (.seq (rA 2)
  (.cond (.seq (rA 3)
  (.leaf))
  (.leaf))))
  (.seq (.seq (.draw [(0, false), (1, false), (2, false), (3, false), (4, false), (5, false), (6, false), (7, false), (8, false), (9, false), (10, false)] [0, 1, 3, 7, 0, 31, 63, 127, 127, 255, 1023])
  (.seq (rA 1)
  (.cond (.seq (rA 3)
  (.leaf))
  (.leaf))))
  (.seq (rA 6)
  (.seq (.seq (rA 2)
  (.cond (.seq (rA 2)
  (.leaf))
  (.leaf)))
  (.seq (.draw [(0, false), (1, false), (2, false), (3, false), (4, false), (5, false), (6, true), (7, false), (8, false), (9, false), (10, false)] [0, 0, 2, 6, 14, 0, 32, 126, 255, 511, 1023])
  (.seq (.draw [(0, false), (1, false), (2, false), (3, false), (4, false), (5, false), (6, false)] [0, 1, 3, 7, 0, 0, 63])
  (.seq (rA 3)
  (.leaf)))))))))

theorem s90_ok {Ψ : AVal → Heap → Prop} {t : AVal} {n_Kind : Int} {n_Name : ByteArray} {n_L : Int} {n_R : Int} {h : Heap} (H : s90 Ψ t n_Kind n_Name n_L n_R h) : ACalls prog 90 [t, (.agg [(.int .i64 n_Kind), (.str n_Name), (.int .i64 n_L), (.int .i64 n_R)])] h Ψ :=
  calls_of_evF func90 (by kernel_rfl) (by kernel_rfl) (by kernel_rfl)
    (Eq.mpr (by as_aux_lemma => kernel_rfl : oblF prog f90 (s90_A Ψ) Ψ = (True ∧ (True ∧ (True ∧ True) ∧ True) ∧ (True ∧ True ∧ (True ∧ True) ∧ True) ∧ (True ∧ True ∧ (True ∧ True) ∧ True) ∧ True ∧ (True ∧ (True ∧ True) ∧ True) ∧ True ∧ True ∧ True ∧ True)) ⟨trivial, ⟨⟨trivial, ⟨⟨trivial, trivial⟩, trivial⟩⟩, ⟨⟨trivial, ⟨trivial, ⟨⟨trivial, trivial⟩, trivial⟩⟩⟩, ⟨⟨trivial, ⟨trivial, ⟨⟨trivial, trivial⟩, trivial⟩⟩⟩, ⟨trivial, ⟨⟨trivial, ⟨⟨trivial, trivial⟩, trivial⟩⟩, ⟨trivial, ⟨trivial, ⟨trivial, trivial⟩⟩⟩⟩⟩⟩⟩⟩⟩)
    (Eq.mpr (by as_aux_lemma => kernel_rfl : evF prog f90 (s90_A Ψ) Ψ [t, (.agg [(.int .i64 n_Kind), (.str n_Name), (.int .i64 n_L), (.int .i64 n_R)])] h = s90 Ψ t n_Kind n_Name n_L n_R h) H)

/- 92 (*dictum/formula.Table).has -/
def s92 (Ψ : AVal → Heap → Prop) (t : AVal) (id_ : Int) (h : Heap) : Prop :=
  ifT (decide (0 ≤ id_)) (
    nilCheckA t fun p =>
    addOff p 0 fun p1 =>
    ld1 h p1 fun v =>
    lenN v fun n =>
    retG (.bool (decide (id_ < n))) h Ψ) (
    retG (.bool false) h Ψ)

def s92_A (Ψ : AVal → Heap → Prop) : Ann :=
  .seq (rA 1)
  (.seq (.reg [⟨none, [(0, false), (1, false), (2, false)]⟩, ⟨some (7, true), [(3, false), (4, false), (5, false), (6, false), (7, false), (8, false), (9, false)]⟩, ⟨none, [(10, false), (11, false)]⟩])
  (.leaf))

theorem s92_ok {Ψ : AVal → Heap → Prop} {t : AVal} {id_ : Int} {h : Heap} (H : s92 Ψ t id_ h) : ACalls prog 92 [t, (.int .i64 id_)] h Ψ :=
  calls_of_evF func92 (by kernel_rfl) (by kernel_rfl) (by kernel_rfl)
    (Eq.mpr (by as_aux_lemma => kernel_rfl : oblF prog f92 (s92_A Ψ) Ψ = (True ∧ True ∧ True)) ⟨trivial, ⟨trivial, trivial⟩⟩)
    (Eq.mpr (by as_aux_lemma => kernel_rfl : evF prog f92 (s92_A Ψ) Ψ [t, (.int .i64 id_)] h = s92 Ψ t id_ h) H)

/- 95 (dictum/heyting.lattice).meet$1 -/
def s95 (Ψ : AVal → Heap → Prop) (z : Int) (c0 : AVal) (c1 : AVal) (c2 : AVal) (h : Heap) : Prop :=
  addOff c0 1 fun p =>
  ld1 h p fun v =>
  ld1 h c1 fun v1 =>
  tInt .i64 v1 fun v2 =>
  callV prog v [(.int .i64 z), (.int .i64 v2)] h fun v3 h_ =>
  tBool v3 fun v4 =>
  ifT v4 (
    addOff c0 1 fun p1 =>
    ld1 h_ p1 fun v5 =>
    ld1 h_ c2 fun v6 =>
    tInt .i64 v6 fun v7 =>
    callV prog v5 [(.int .i64 z), (.int .i64 v7)] h_ fun v8 h_1 =>
    tBool v8 fun v9 =>
    retG (.bool v9) h_1 Ψ) (
    retG (.bool false) h_ Ψ)

def s95_A (Ψ : AVal → Heap → Prop) : Ann :=
  .seq (rA 1)
  (.seq (.reg [⟨none, [(0, false), (1, false), (2, false), (3, false), (4, false), (5, false)]⟩, ⟨some (11, true), [(6, false), (7, false), (8, false), (9, false), (10, false)]⟩, ⟨none, [(11, false), (12, false)]⟩])
  (.leaf))

theorem s95_ok {Ψ : AVal → Heap → Prop} {z : Int} {c0 : AVal} {c1 : AVal} {c2 : AVal} {h : Heap} (H : s95 Ψ z c0 c1 c2 h) : ACalls prog 95 [(.int .i64 z), c0, c1, c2] h Ψ :=
  calls_of_evF func95 (by kernel_rfl) (by kernel_rfl) (by kernel_rfl)
    (Eq.mpr (by as_aux_lemma => kernel_rfl : oblF prog f95 (s95_A Ψ) Ψ = (True ∧ True ∧ True)) ⟨trivial, ⟨trivial, trivial⟩⟩)
    (Eq.mpr (by as_aux_lemma => kernel_rfl : evF prog f95 (s95_A Ψ) Ψ [(.int .i64 z), c0, c1, c2] h = s95 Ψ z c0 c1 c2 h) H)

/- 99 slices.Contains[[]string,string] -/
def s99 (Ψ : AVal → Heap → Prop) (s : AVal) (v : ByteArray) (h : Heap) : Prop :=
  callG prog 122 [s, (.str v)] h fun v1 h_ =>
  tInt .i64 v1 fun v2 =>
  retG (.bool (decide (0 ≤ v2))) h_ Ψ

def s99_A (Ψ : AVal → Heap → Prop) : Ann :=
  .seq (rA 1)
  (.seq (rA 5)
  (.leaf))

theorem s99_ok {Ψ : AVal → Heap → Prop} {s : AVal} {v : ByteArray} {h : Heap} (H : s99 Ψ s v h) : ACalls prog 99 [s, (.str v)] h Ψ :=
  calls_of_evF func99 (by kernel_rfl) (by kernel_rfl) (by kernel_rfl)
    (Eq.mpr (by as_aux_lemma => kernel_rfl : oblF prog f99 (s99_A Ψ) Ψ = (True ∧ True ∧ True)) ⟨trivial, ⟨trivial, trivial⟩⟩)
    (Eq.mpr (by as_aux_lemma => kernel_rfl : evF prog f99 (s99_A Ψ) Ψ [s, (.str v)] h = s99 Ψ s v h) H)

/- 103 dictum/dictumref03.Word -/
abbrev s103l2_T := ByteArray → Int → Heap → Prop
def s103l2_R (F : s103l2_T) (l : List AVal) (h : Heap) : Prop := J.cons l fun v l => J.str v fun x0 => J.cons l fun v l => J.int .i64 v fun x1 => J.nil l (F x0 x1 h)
def s103l2_G (F : s103l2_T) (x0 : ByteArray) (x1 : Int) (h : Heap) : Prop := gJ [.str, .int .i64] [(.str x0), (.int .i64 x1)] h (s103l2_R F)
def s103l2_E (F : Nat → s103l2_T) (x0 : ByteArray) (x1 : Int) (h : Heap) : Prop := gJ [.str, .int .i64] [(.str x0), (.int .i64 x1)] h (fun l h => ∃ n, s103l2_R (F n) l h)
theorem s103l2_go {F : s103l2_T} {x0 : ByteArray} {x1 : Int} {h : Heap} (H : F x0 x1 h) : s103l2_G F x0 x1 h := gJ_plain rfl H
theorem s103l2_in {F : Nat → s103l2_T} {x0 : ByteArray} {x1 : Int} {h : Heap} (n : Nat) (H : F n x0 x1 h) : s103l2_E F x0 x1 h := gJ_plain rfl ⟨n, H⟩

def s103c3 (Ψ : AVal → Heap → Prop) (L2 : s103l2_T) (s3 : ByteArray) (i1 : Int) (t55 : Bool) (h : Heap) : Prop :=
  ifT t55 (
    retG (.bool false) h Ψ) (
    rg (i1 + 1) (
      L2 s3 (i1 + 1) h))

abbrev s103l4_T := ByteArray → AVal → Int → Heap → Prop
def s103l4_R (F : s103l4_T) (l : List AVal) (h : Heap) : Prop := J.cons l fun v l => J.str v fun x0 => J.cons l fun x1 l => J.cons l fun v l => J.int .i64 v fun x2 => J.nil l (F x0 x1 x2 h)
def s103l4_G (F : s103l4_T) (x0 : ByteArray) (x1 : AVal) (x2 : Int) (h : Heap) : Prop := gJ [.str, .any, .int .i64] [(.str x0), x1, (.int .i64 x2)] h (s103l4_R F)
def s103l4_E (F : Nat → s103l4_T) (x0 : ByteArray) (x1 : AVal) (x2 : Int) (h : Heap) : Prop := gJ [.str, .any, .int .i64] [(.str x0), x1, (.int .i64 x2)] h (fun l h => ∃ n, s103l4_R (F n) l h)
theorem s103l4_go {F : s103l4_T} {x0 : ByteArray} {x1 : AVal} {x2 : Int} {h : Heap} (H : F x0 x1 x2 h) : s103l4_G F x0 x1 x2 h := gJ_plain rfl H
theorem s103l4_in {F : Nat → s103l4_T} {x0 : ByteArray} {x1 : AVal} {x2 : Int} {h : Heap} (n : Nat) (H : F n x0 x1 x2 h) : s103l4_E F x0 x1 x2 h := gJ_plain rfl ⟨n, H⟩

def s103l4 (Ψ : AVal → Heap → Prop) : Nat → s103l4_T
  | 0, _, _, _, _ => False
  | n1 + 1, s4, l_, i2, h =>
    lenN l_ fun n2 =>
    ifT (decide (i2 < n2)) (
      ixS 1 l_ i2 fun p =>
      ld1 h p fun v3 =>
      tStr v3 fun v4 =>
      ifT (strEq v4 s4) (
        retG (.bool false) h Ψ) (
        rg (i2 + 1) (
          s103l4_G (s103l4 Ψ n1) s4 l_ (i2 + 1) h))) (
      retG (.bool true) h Ψ)

def s103l2 (Ψ : AVal → Heap → Prop) : Nat → s103l2_T
  | 0, _, _, _ => False
  | n + 1, s2, i, h =>
    ifT (decide (i < (s2.size : Int))) (
      ((0 : Int) ≤ i ∧ i < (s2.size : Int)) ∧
      callG prog 131 [(.int .u8 (btA s2 i))] h fun v h_ =>
      tBool v fun v1 =>
      ifT (!v1) (
        ((0 : Int) ≤ i ∧ i < (s2.size : Int)) ∧
        ifT (decide (48 ≤ (btA s2 i))) (
          ((0 : Int) ≤ i ∧ i < (s2.size : Int)) ∧
          ifT (!(decide ((btA s2 i) ≤ 57))) (
            ((0 : Int) ≤ i ∧ i < (s2.size : Int)) ∧
            ifT ((btA s2 i) != 95) (
              ((0 : Int) ≤ i ∧ i < (s2.size : Int)) ∧
              s103c3 Ψ (s103l2_G (s103l2 Ψ n)) s2 i ((btA s2 i) != 39) h_) (
              s103c3 Ψ (s103l2_G (s103l2 Ψ n)) s2 i false h_)) (
            s103c3 Ψ (s103l2_G (s103l2 Ψ n)) s2 i false h_)) (
          ((0 : Int) ≤ i ∧ i < (s2.size : Int)) ∧
          ifT ((btA s2 i) != 95) (
            ((0 : Int) ≤ i ∧ i < (s2.size : Int)) ∧
            s103c3 Ψ (s103l2_G (s103l2 Ψ n)) s2 i ((btA s2 i) != 39) h_) (
            s103c3 Ψ (s103l2_G (s103l2 Ψ n)) s2 i false h_))) (
        s103c3 Ψ (s103l2_G (s103l2 Ψ n)) s2 i false h_)) (
      callG prog 132 [] h fun v2 h_1 =>
      s103l4_E (s103l4 Ψ) s2 v2 0 h_1)

def s103c1 (Ψ : AVal → Heap → Prop) (s1 : ByteArray) (t19 : Bool) (h : Heap) : Prop :=
  ifT t19 (
    retG (.bool false) h Ψ) (
    s103l2_E (s103l2 Ψ) s1 1 h)

def s103 (Ψ : AVal → Heap → Prop) (s : ByteArray) (h : Heap) : Prop :=
  ifT (decide ((s.size : Int) < 1)) (
    s103c1 Ψ s true h) (
    ifT (decide (31 < (s.size : Int))) (
      s103c1 Ψ s true h) (
      ((0 : Int) ≤ 0 ∧ 0 < (s.size : Int)) ∧
      callG prog 131 [(.int .u8 (btA s 0))] h fun v5 h_2 =>
      tBool v5 fun v6 =>
      s103c1 Ψ s (!v6) h_2))

def s103_A (Ψ : AVal → Heap → Prop) : Ann :=
  .seq (rA 1)
  (.seq (.cut [(0, .str), (19, .bool)] (fun l h => J.cons l fun v l => J.str v fun x0 => J.cons l fun v l => J.bool v fun x1 => J.nil l (s103c1 Ψ x0 x1 h)) (.reg [⟨none, [(0, false), (1, false), (2, false), (3, false)]⟩, ⟨some (9, false), [(4, false), (5, false), (6, false)]⟩, ⟨none, [(7, false), (8, false)]⟩, ⟨some (14, false), [(9, false), (10, false), (11, false), (12, false)]⟩, ⟨none, [(13, false)]⟩])
  (.cond (.seq (rA 1)
  (.leaf))
  (.leaf)))
  (.seq (.seq (rA 1)
  (.block (.loop [(0, .str), (3, .int .i64)] (fun n l h => s103l2_R (s103l2 Ψ n) l h) (fun L2 =>
  .seq (.seq (rA 4)
  (.cond (.leaf)
  (.leaf)))
  (.seq (.block (.cut [(0, .str), (3, .int .i64), (55, .bool)] (fun l h => J.cons l fun v l => J.str v fun x0 => J.cons l fun v l => J.int .i64 v fun x1 => J.cons l fun v l => J.bool v fun x2 => J.nil l (s103c3 Ψ (fun y0 y1 h => L2 [(.str y0), (.int .i64 y1)] h) x0 x1 x2 h)) (.reg [⟨none, [(0, false), (1, false), (2, false), (3, false), (4, false), (5, false)]⟩, ⟨some (31, true), [(6, false), (7, false), (8, false), (9, false), (10, false)]⟩, ⟨some (36, true), [(11, false), (12, false), (13, false), (14, false)]⟩, ⟨some (31, true), [(15, false), (16, false)]⟩, ⟨none, [(17, false), (18, false)]⟩, ⟨some (44, true), [(19, false), (20, false), (21, false), (22, false)]⟩, ⟨none, [(23, false), (24, false)]⟩, ⟨some (50, true), [(25, false), (26, false), (27, false), (28, false)]⟩, ⟨none, [(29, false)]⟩])
  (.cond (.seq (rA 1)
  (.leaf))
  (.leaf))))
  (rA 3))))))
  (.seq (rA 2)
  (.seq (.seq (rA 1)
  (.block (.loop [(0, .str), (4, .any), (5, .int .i64)] (fun n l h => s103l4_R (s103l4 Ψ n) l h) (fun L4 =>
  .seq (.seq (rA 4)
  (.cond (.leaf)
  (.leaf)))
  (.seq (.block (.seq (rA 6)
  (.cond (.seq (rA 1)
  (.leaf))
  (.leaf))))
  (rA 3))))))
  (.seq (rA 1)
  (.leaf))))))

theorem s103_ok {Ψ : AVal → Heap → Prop} {s : ByteArray} {h : Heap} (H : s103 Ψ s h) : ACalls prog 103 [(.str s)] h Ψ :=
  calls_of_evF func103 (by kernel_rfl) (by kernel_rfl) (by kernel_rfl)
    (Eq.mpr (by as_aux_lemma => kernel_rfl : oblF prog f103 (s103_A Ψ) Ψ = (True ∧ ((True) ∧ (∀ (h : Heap) (x0 : ByteArray) (x1 : Bool), OI (s103c1 Ψ x0 x1 h)) ∧ ((True ∧ True) ∧ True)) ∧ (True ∧ (∀ (h : Heap) (x0 : ByteArray) (x1 : Int), ON (s103l2 Ψ 0 x0 x1 h)) ∧ ∀ n2 : Nat, (∀ (h : Heap) (x0 : ByteArray) (x1 : Int), OI (s103l2 Ψ (n2 + 1) x0 x1 h)) ∧ ((True ∧ True ∧ True) ∧ ((True) ∧ (∀ (h : Heap) (x0 : ByteArray) (x1 : Int) (x2 : Bool), OI (s103c3 Ψ (s103l2_G (s103l2 Ψ n2)) x0 x1 x2 h)) ∧ ((True ∧ True) ∧ True)) ∧ True)) ∧ True ∧ (True ∧ (∀ (h : Heap) (x0 : ByteArray) (x1 : AVal) (x2 : Int), ON (s103l4 Ψ 0 x0 x1 x2 h)) ∧ ∀ n4 : Nat, (∀ (h : Heap) (x0 : ByteArray) (x1 : AVal) (x2 : Int), OI (s103l4 Ψ (n4 + 1) x0 x1 x2 h)) ∧ ((True ∧ True ∧ True) ∧ (True ∧ (True ∧ True) ∧ True) ∧ True)) ∧ True ∧ True)) ⟨trivial, ⟨⟨trivial, fun _ _ _ H => H, ⟨⟨trivial, trivial⟩, trivial⟩⟩, ⟨⟨trivial, ⟨fun _ _ _ H => H, fun _ => ⟨fun _ _ _ H => H, ⟨⟨trivial, ⟨trivial, trivial⟩⟩, ⟨⟨trivial, fun _ _ _ _ H => H, ⟨⟨trivial, trivial⟩, trivial⟩⟩, trivial⟩⟩⟩⟩⟩, ⟨trivial, ⟨⟨trivial, ⟨fun _ _ _ _ H => H, fun _ => ⟨fun _ _ _ _ H => H, ⟨⟨trivial, ⟨trivial, trivial⟩⟩, ⟨⟨trivial, ⟨⟨trivial, trivial⟩, trivial⟩⟩, trivial⟩⟩⟩⟩⟩, ⟨trivial, trivial⟩⟩⟩⟩⟩⟩)
    (Eq.mpr (by as_aux_lemma => kernel_rfl : evF prog f103 (s103_A Ψ) Ψ [(.str s)] h = s103 Ψ s h) H)

/- 116 dictum/worlds.looked -/
abbrev s116l2_T := AVal → Int → AVal → AVal → Int → Int → Heap → Prop
def s116l2_R (F : s116l2_T) (l : List AVal) (h : Heap) : Prop := J.cons l fun x0 l => J.cons l fun v l => J.int .i64 v fun x1 => J.cons l fun x2 l => J.cons l fun x3 l => J.cons l fun v l => J.int .i64 v fun x4 => J.cons l fun v l => J.int .i64 v fun x5 => J.nil l (F x0 x1 x2 x3 x4 x5 h)
def s116l2_G (F : s116l2_T) (x0 : AVal) (x1 : Int) (x2 x3 : AVal) (x4 x5 : Int) (h : Heap) : Prop := gJ [.any, .int .i64, .any, .any, .int .i64, .int .i64] [x0, (.int .i64 x1), x2, x3, (.int .i64 x4), (.int .i64 x5)] h (s116l2_R F)
def s116l2_E (F : Nat → s116l2_T) (x0 : AVal) (x1 : Int) (x2 x3 : AVal) (x4 x5 : Int) (h : Heap) : Prop := gJ [.any, .int .i64, .any, .any, .int .i64, .int .i64] [x0, (.int .i64 x1), x2, x3, (.int .i64 x4), (.int .i64 x5)] h (fun l h => ∃ n, s116l2_R (F n) l h)
theorem s116l2_go {F : s116l2_T} {x0 : AVal} {x1 : Int} {x2 x3 : AVal} {x4 x5 : Int} {h : Heap} (H : F x0 x1 x2 x3 x4 x5 h) : s116l2_G F x0 x1 x2 x3 x4 x5 h := gJ_plain rfl H
theorem s116l2_in {F : Nat → s116l2_T} {x0 : AVal} {x1 : Int} {x2 x3 : AVal} {x4 x5 : Int} {h : Heap} (n : Nat) (H : F n x0 x1 x2 x3 x4 x5 h) : s116l2_E F x0 x1 x2 x3 x4 x5 h := gJ_plain rfl ⟨n, H⟩

abbrev s116l3_T := AVal → Int → AVal → Int → AVal → AVal → Int → Int → Int → Int → Heap → Prop
def s116l3_R (F : s116l3_T) (l : List AVal) (h : Heap) : Prop := J.cons l fun x0 l => J.cons l fun v l => J.int .i64 v fun x1 => J.cons l fun x2 l => J.cons l fun v l => J.int .i64 v fun x3 => J.cons l fun x4 l => J.cons l fun x5 l => J.cons l fun v l => J.int .i64 v fun x6 => J.cons l fun v l => J.int .i64 v fun x7 => J.cons l fun v l => J.int .i64 v fun x8 => J.cons l fun v l => J.int .i64 v fun x9 => J.nil l (F x0 x1 x2 x3 x4 x5 x6 x7 x8 x9 h)
def s116l3_G (F : s116l3_T) (x0 : AVal) (x1 : Int) (x2 : AVal) (x3 : Int) (x4 x5 : AVal) (x6 x7 x8 x9 : Int) (h : Heap) : Prop := gJ [.any, .int .i64, .any, .int .i64, .any, .any, .int .i64, .int .i64, .int .i64, .int .i64] [x0, (.int .i64 x1), x2, (.int .i64 x3), x4, x5, (.int .i64 x6), (.int .i64 x7), (.int .i64 x8), (.int .i64 x9)] h (s116l3_R F)
def s116l3_E (F : Nat → s116l3_T) (x0 : AVal) (x1 : Int) (x2 : AVal) (x3 : Int) (x4 x5 : AVal) (x6 x7 x8 x9 : Int) (h : Heap) : Prop := gJ [.any, .int .i64, .any, .int .i64, .any, .any, .int .i64, .int .i64, .int .i64, .int .i64] [x0, (.int .i64 x1), x2, (.int .i64 x3), x4, x5, (.int .i64 x6), (.int .i64 x7), (.int .i64 x8), (.int .i64 x9)] h (fun l h => ∃ n, s116l3_R (F n) l h)
theorem s116l3_go {F : s116l3_T} {x0 : AVal} {x1 : Int} {x2 : AVal} {x3 : Int} {x4 x5 : AVal} {x6 x7 x8 x9 : Int} {h : Heap} (H : F x0 x1 x2 x3 x4 x5 x6 x7 x8 x9 h) : s116l3_G F x0 x1 x2 x3 x4 x5 x6 x7 x8 x9 h := gJ_plain rfl H
theorem s116l3_in {F : Nat → s116l3_T} {x0 : AVal} {x1 : Int} {x2 : AVal} {x3 : Int} {x4 x5 : AVal} {x6 x7 x8 x9 : Int} {h : Heap} (n : Nat) (H : F n x0 x1 x2 x3 x4 x5 x6 x7 x8 x9 h) : s116l3_E F x0 x1 x2 x3 x4 x5 x6 x7 x8 x9 h := gJ_plain rfl ⟨n, H⟩

def s116c4 (Ψ : AVal → Heap → Prop) (L2 : s116l2_T) (L3 : s116l3_T) (m3 : AVal) (n7 : Int) (leq2 : AVal) (a1 : Int) (l_7 t34_2 : AVal) (t35_2 t36_2 t44_1 t45_1 : Int) (h : Heap) : Prop :=
  rg (t45_1 + 1) (
    L3 m3 n7 leq2 a1 l_7 t34_2 t35_2 t36_2 t44_1 (t45_1 + 1) h)

def s116c6 (Ψ : AVal → Heap → Prop) (L2 : s116l2_T) (L3 : s116l3_T) (m5 : AVal) (n9 : Int) (leq4 : AVal) (a3 : Int) (l_9 t34_4 : AVal) (t35_4 t36_4 t44_3 t45_3 : Int) (t66 : Bool) (h : Heap) : Prop :=
  ifT t66 (
    retG (.tuple [.nilfunc, (.bool false)]) h Ψ) (
    s116c4 Ψ L2 L3 m5 n9 leq4 a3 l_9 t34_4 t35_4 t36_4 t44_3 t45_3 h)

def s116c5 (Ψ : AVal → Heap → Prop) (L2 : s116l2_T) (L3 : s116l3_T) (m4 : AVal) (n8 : Int) (leq3 : AVal) (a2 : Int) (l_8 b t34_3 : AVal) (t35_3 t36_3 t44_2 t45_2 : Int) (t57 : Bool) (h : Heap) : Prop :=
  ifT t57 (
    s116c4 Ψ L2 L3 m4 n8 leq3 a2 l_8 t34_3 t35_3 t36_3 t44_2 t45_2 h) (
    ld1 h b fun v10 =>
    tInt .i64 v10 fun v11 =>
    callV prog leq3 [(.int .i64 v11), (.int .i64 a2)] h fun v12 h_4 =>
    tBool v12 fun v13 =>
    ifT v13 (
      s116c6 Ψ L2 L3 m4 n8 leq3 a2 l_8 t34_3 t35_3 t36_3 t44_2 t45_2 true h_4) (
      callG prog 141 [l_8, (.func (.func 142) [] [m4, b])] h_4 fun v14 h_5 =>
      tBool v14 fun v15 =>
      s116c6 Ψ L2 L3 m4 n8 leq3 a2 l_8 t34_3 t35_3 t36_3 t44_2 t45_2 v15 h_5))

def s116l3 (Ψ : AVal → Heap → Prop) (L2 : s116l2_T) : Nat → s116l3_T
  | 0, _, _, _, _, _, _, _, _, _, _, _ => False
  | n6 + 1, m2, n5, leq1, a, l_6, t34_1, t35_1, t36_1, t44, t45, h =>
    ifT (decide (t45 < t44)) (
      Sym.newRow 1 [(.int .i64 0)] h fun r h_2 =>
      st true h_2 (.ptr r 0 0) [(.int .i64 t45)] fun h_3 =>
      ld1 h_3 (.ptr r 0 0) fun v16 =>
      tInt .i64 v16 fun v17 =>
      ifT (a == v17) (
        s116c5 Ψ L2 (s116l3_G (s116l3 Ψ L2 n6)) m2 n5 leq1 a l_6 (.ptr r 0 0) t34_1 t35_1 t36_1 t44 t45 true h_3) (
        ld1 h_3 (.ptr r 0 0) fun v18 =>
        tInt .i64 v18 fun v19 =>
        callV prog leq1 [(.int .i64 a), (.int .i64 v19)] h_3 fun v20 h_6 =>
        tBool v20 fun v21 =>
        s116c5 Ψ L2 (s116l3_G (s116l3 Ψ L2 n6)) m2 n5 leq1 a l_6 (.ptr r 0 0) t34_1 t35_1 t36_1 t44 t45 (!v21) h_6)) (
      rg (t36_1 + 1) (
        L2 m2 n5 leq1 t34_1 t35_1 (t36_1 + 1) h))

def s116l2 (Ψ : AVal → Heap → Prop) : Nat → s116l2_T
  | 0, _, _, _, _, _, _, _ => False
  | n4 + 1, m1, n3, leq, t34, t35, t36, h =>
    ifT (decide (t36 < t35)) (
      ixS 1 t34 t36 fun p1 =>
      ld1 h p1 fun v7 =>
      callG prog 140 [v7] h fun v8 h_1 =>
      tBool v8 fun v9 =>
      ifT (!v9) (
        retG (.tuple [.nilfunc, (.bool false)]) h_1 Ψ) (
        s116l3_E (s116l3 Ψ (s116l2_G (s116l2 Ψ n4))) m1 n3 leq t36 v7 t34 t35 t36 n3 0 h_1)) (
      retG (.tuple [leq, (.bool true)]) h Ψ)

def s116c1 (Ψ : AVal → Heap → Prop) (m : AVal) (n1 : Int) (t25 : Bool) (h : Heap) : Prop :=
  ifT t25 (
    retG (.tuple [.nilfunc, (.bool false)]) h Ψ) (
    ldN 2 h m fun l_ =>
    tCons l_ fun v l_1 =>
    tCons l_1 fun v1 l_2 =>
    tNil l_2 (
      callG prog 139 [(.agg [v, v1])] h fun v2 h_ =>
      tTup v2 fun l_3 =>
      tCons l_3 fun v3 l_4 =>
      tCons l_4 fun v4 l_5 =>
      tBool v4 fun v5 =>
      tNil l_5 (
        ifT (!v5) (
          retG (.tuple [.nilfunc, (.bool false)]) h_ Ψ) (
          addOff m 1 fun p =>
          ld1 h_ p fun v6 =>
          lenN v6 fun n2 =>
          s116l2_E (s116l2 Ψ) m n1 v3 v6 n2 0 h_))))

def s116 (Ψ : AVal → Heap → Prop) (m_Up : AVal) (m_Val : AVal) (h : Heap) : Prop :=
  lenN m_Up fun n =>
  ifT (decide (n < 1)) (
    s116c1 Ψ (.lptr [m_Up, m_Val]) n true h) (
    ifT (decide (512 < n)) (
      s116c1 Ψ (.lptr [m_Up, m_Val]) n true h) (
      lenN m_Val fun n12 =>
      s116c1 Ψ (.lptr [m_Up, m_Val]) n (n12 != n) h))

def s116_A (Ψ : AVal → Heap → Prop) : Ann :=
  .seq (.reg [⟨none, [(0, true), (1, false), (2, false)]⟩])
  (.seq (rA 4)
  (.seq (.cut [(1, .any), (4, .int .i64), (25, .bool)] (fun l h => J.cons l fun x0 l => J.cons l fun v l => J.int .i64 v fun x1 => J.cons l fun v l => J.bool v fun x2 => J.nil l (s116c1 Ψ x0 x1 x2 h)) (.reg [⟨none, [(0, false), (1, false), (2, false)]⟩, ⟨some (15, false), [(3, false), (4, false)]⟩, ⟨none, [(5, false), (6, false)]⟩, ⟨some (19, false), [(7, false), (8, false), (9, false), (10, false), (11, false)]⟩, ⟨none, [(12, false)]⟩])
  (.cond (.seq (rA 2)
  (.leaf))
  (.leaf)))
  (.seq (rA 7)
  (.seq (.seq (rA 2)
  (.cond (.seq (rA 2)
  (.leaf))
  (.leaf)))
  (.seq (.seq (rA 4)
  (.block (.loop [(1, .any), (4, .int .i64), (5, .any), (34, .any), (35, .int .i64), (36, .int .i64)] (fun n l h => s116l2_R (s116l2 Ψ n) l h) (fun L2 =>
  .seq (rA 1)
  (.seq (.cond (.leaf)
  (.leaf))
  (.seq (.block (.seq (rA 5)
  (.seq (.seq (rA 3)
  (.cond (.seq (rA 2)
  (.leaf))
  (.leaf)))
  (.seq (rA 2)
  (.block (.loop [(1, .any), (4, .int .i64), (5, .any), (7, .int .i64), (8, .any), (34, .any), (35, .int .i64), (36, .int .i64), (44, .int .i64), (45, .int .i64)] (fun n l h => s116l3_R (s116l3 Ψ (fun y0 y1 y2 y3 y4 y5 h => L2 [y0, (.int .i64 y1), y2, y3, (.int .i64 y4), (.int .i64 y5)] h) n) l h) (fun L3 =>
  .seq (rA 1)
  (.seq (.cond (.leaf)
  (.leaf))
  (.cut [(1, .any), (4, .int .i64), (5, .any), (7, .int .i64), (8, .any), (34, .any), (35, .int .i64), (36, .int .i64), (44, .int .i64), (45, .int .i64)] (fun l h => J.cons l fun x0 l => J.cons l fun v l => J.int .i64 v fun x1 => J.cons l fun x2 l => J.cons l fun v l => J.int .i64 v fun x3 => J.cons l fun x4 l => J.cons l fun x5 l => J.cons l fun v l => J.int .i64 v fun x6 => J.cons l fun v l => J.int .i64 v fun x7 => J.cons l fun v l => J.int .i64 v fun x8 => J.cons l fun v l => J.int .i64 v fun x9 => J.nil l (s116c4 Ψ (fun y0 y1 y2 y3 y4 y5 h => L2 [y0, (.int .i64 y1), y2, y3, (.int .i64 y4), (.int .i64 y5)] h) (fun y0 y1 y2 y3 y4 y5 y6 y7 y8 y9 h => L3 [y0, (.int .i64 y1), y2, (.int .i64 y3), y4, y5, (.int .i64 y6), (.int .i64 y7), (.int .i64 y8), (.int .i64 y9)] h) x0 x1 x2 x3 x4 x5 x6 x7 x8 x9 h)) (.block (.seq (rA 3)
  (.seq (.cut [(1, .any), (4, .int .i64), (5, .any), (7, .int .i64), (8, .any), (9, .any), (34, .any), (35, .int .i64), (36, .int .i64), (44, .int .i64), (45, .int .i64), (57, .bool)] (fun l h => J.cons l fun x0 l => J.cons l fun v l => J.int .i64 v fun x1 => J.cons l fun x2 l => J.cons l fun v l => J.int .i64 v fun x3 => J.cons l fun x4 l => J.cons l fun x5 l => J.cons l fun x6 l => J.cons l fun v l => J.int .i64 v fun x7 => J.cons l fun v l => J.int .i64 v fun x8 => J.cons l fun v l => J.int .i64 v fun x9 => J.cons l fun v l => J.int .i64 v fun x10 => J.cons l fun v l => J.bool v fun x11 => J.nil l (s116c5 Ψ (fun y0 y1 y2 y3 y4 y5 h => L2 [y0, (.int .i64 y1), y2, y3, (.int .i64 y4), (.int .i64 y5)] h) (fun y0 y1 y2 y3 y4 y5 y6 y7 y8 y9 h => L3 [y0, (.int .i64 y1), y2, (.int .i64 y3), y4, y5, (.int .i64 y6), (.int .i64 y7), (.int .i64 y8), (.int .i64 y9)] h) x0 x1 x2 x3 x4 x5 x6 x7 x8 x9 x10 x11 h)) (.reg [⟨none, [(0, false), (1, false), (2, false), (3, false)]⟩, ⟨some (51, false), [(4, false), (5, false), (6, false), (7, false), (8, false)]⟩, ⟨none, [(9, false)]⟩])
  (.cond (.leaf)
  (.leaf)))
  (.cut [(1, .any), (4, .int .i64), (5, .any), (7, .int .i64), (8, .any), (34, .any), (35, .int .i64), (36, .int .i64), (44, .int .i64), (45, .int .i64), (66, .bool)] (fun l h => J.cons l fun x0 l => J.cons l fun v l => J.int .i64 v fun x1 => J.cons l fun x2 l => J.cons l fun v l => J.int .i64 v fun x3 => J.cons l fun x4 l => J.cons l fun x5 l => J.cons l fun v l => J.int .i64 v fun x6 => J.cons l fun v l => J.int .i64 v fun x7 => J.cons l fun v l => J.int .i64 v fun x8 => J.cons l fun v l => J.int .i64 v fun x9 => J.cons l fun v l => J.bool v fun x10 => J.nil l (s116c6 Ψ (fun y0 y1 y2 y3 y4 y5 h => L2 [y0, (.int .i64 y1), y2, y3, (.int .i64 y4), (.int .i64 y5)] h) (fun y0 y1 y2 y3 y4 y5 y6 y7 y8 y9 h => L3 [y0, (.int .i64 y1), y2, (.int .i64 y3), y4, y5, (.int .i64 y6), (.int .i64 y7), (.int .i64 y8), (.int .i64 y9)] h) x0 x1 x2 x3 x4 x5 x6 x7 x8 x9 x10 h)) (.reg [⟨none, [(0, false), (1, false), (2, false), (3, false), (4, false)]⟩, ⟨some (62, false), [(5, false), (6, false), (7, false)]⟩, ⟨none, [(8, false)]⟩])
  (.cond (.seq (rA 2)
  (.leaf))
  (.leaf))))))
  (rA 2))))))))))
  (rA 2)))))))
  (.seq (rA 3)
  (.leaf)))))))

theorem s116_ok {Ψ : AVal → Heap → Prop} {m_Up : AVal} {m_Val : AVal} {h : Heap} (H : s116 Ψ m_Up m_Val h) : ACalls prog 116 [(.agg [m_Up, m_Val])] h Ψ :=
  calls_of_evF func116 (by kernel_rfl) (by kernel_rfl) (by kernel_rfl)
    (Eq.mpr (by as_aux_lemma => kernel_rfl : oblF prog f116 (s116_A Ψ) Ψ = (True ∧ True ∧ ((True) ∧ (∀ (h : Heap) (x0 : AVal) (x1 : Int) (x2 : Bool), OI (s116c1 Ψ x0 x1 x2 h)) ∧ ((True ∧ True) ∧ True)) ∧ True ∧ (True ∧ (True ∧ True) ∧ True) ∧ (True ∧ (∀ (h : Heap) (x0 : AVal) (x1 : Int) (x2 x3 : AVal) (x4 x5 : Int), ON (s116l2 Ψ 0 x0 x1 x2 x3 x4 x5 h)) ∧ ∀ n2 : Nat, (∀ (h : Heap) (x0 : AVal) (x1 : Int) (x2 x3 : AVal) (x4 x5 : Int), OI (s116l2 Ψ (n2 + 1) x0 x1 x2 x3 x4 x5 h)) ∧ (True ∧ (True ∧ True) ∧ (True ∧ (True ∧ (True ∧ True) ∧ True) ∧ True ∧ (∀ (h : Heap) (x0 : AVal) (x1 : Int) (x2 : AVal) (x3 : Int) (x4 x5 : AVal) (x6 x7 x8 x9 : Int), ON (s116l3 Ψ (s116l2_G (s116l2 Ψ n2)) 0 x0 x1 x2 x3 x4 x5 x6 x7 x8 x9 h)) ∧ ∀ n3 : Nat, (∀ (h : Heap) (x0 : AVal) (x1 : Int) (x2 : AVal) (x3 : Int) (x4 x5 : AVal) (x6 x7 x8 x9 : Int), OI (s116l3 Ψ (s116l2_G (s116l2 Ψ n2)) (n3 + 1) x0 x1 x2 x3 x4 x5 x6 x7 x8 x9 h)) ∧ (True ∧ (True ∧ True) ∧ (True ∧ ((True) ∧ (∀ (h : Heap) (x0 : AVal) (x1 : Int) (x2 : AVal) (x3 : Int) (x4 x5 x6 : AVal) (x7 x8 x9 x10 : Int) (x11 : Bool), OI (s116c5 Ψ (s116l2_G (s116l2 Ψ n2)) (s116l3_G (s116l3 Ψ (s116l2_G (s116l2 Ψ n2)) n3)) x0 x1 x2 x3 x4 x5 x6 x7 x8 x9 x10 x11 h)) ∧ (True ∧ True)) ∧ (True) ∧ (∀ (h : Heap) (x0 : AVal) (x1 : Int) (x2 : AVal) (x3 : Int) (x4 x5 : AVal) (x6 x7 x8 x9 : Int) (x10 : Bool), OI (s116c6 Ψ (s116l2_G (s116l2 Ψ n2)) (s116l3_G (s116l3 Ψ (s116l2_G (s116l2 Ψ n2)) n3)) x0 x1 x2 x3 x4 x5 x6 x7 x8 x9 x10 h)) ∧ ((True ∧ True) ∧ True)) ∧ (∀ (h : Heap) (x0 : AVal) (x1 : Int) (x2 : AVal) (x3 : Int) (x4 x5 : AVal) (x6 x7 x8 x9 : Int), OI (s116c4 Ψ (s116l2_G (s116l2 Ψ n2)) (s116l3_G (s116l3 Ψ (s116l2_G (s116l2 Ψ n2)) n3)) x0 x1 x2 x3 x4 x5 x6 x7 x8 x9 h)) ∧ (True))) ∧ True)) ∧ True ∧ True)) ⟨trivial, ⟨trivial, ⟨⟨trivial, fun _ _ _ _ H => H, ⟨⟨trivial, trivial⟩, trivial⟩⟩, ⟨trivial, ⟨⟨trivial, ⟨⟨trivial, trivial⟩, trivial⟩⟩, ⟨⟨trivial, ⟨fun _ _ _ _ _ _ _ H => H, fun _ => ⟨fun _ _ _ _ _ _ _ H => H, ⟨trivial, ⟨⟨trivial, trivial⟩, ⟨⟨trivial, ⟨⟨trivial, ⟨⟨trivial, trivial⟩, trivial⟩⟩, ⟨trivial, ⟨fun _ _ _ _ _ _ _ _ _ _ _ H => H, fun _ => ⟨fun _ _ _ _ _ _ _ _ _ _ _ H => H, ⟨trivial, ⟨⟨trivial, trivial⟩, ⟨⟨trivial, ⟨⟨trivial, fun _ _ _ _ _ _ _ _ _ _ _ _ _ H => H, ⟨trivial, trivial⟩⟩, ⟨trivial, fun _ _ _ _ _ _ _ _ _ _ _ _ H => H, ⟨⟨trivial, trivial⟩, trivial⟩⟩⟩⟩, fun _ _ _ _ _ _ _ _ _ _ _ H => H, trivial⟩⟩⟩⟩⟩⟩⟩⟩, trivial⟩⟩⟩⟩⟩⟩, ⟨trivial, trivial⟩⟩⟩⟩⟩⟩⟩)
    (Eq.mpr (by as_aux_lemma => kernel_rfl : evF prog f116 (s116_A Ψ) Ψ [(.agg [m_Up, m_Val])] h = s116 Ψ m_Up m_Val h) H)

/- 118 dictum/dictumref23.within -/
def s118 (Ψ : AVal → Heap → Prop) (l_ : AVal) (z : Int) (x : Int) (y : Int) (down : Bool) (h : Heap) : Prop :=
  ifT down (
    ixS 1 l_ z fun p =>
    ld1 h p fun v =>
    ixS 1 v x fun p1 =>
    ld1 h p1 fun v1 =>
    tBool v1 fun v2 =>
    ifT v2 (
      ixS 1 l_ z fun p2 =>
      ld1 h p2 fun v3 =>
      ixS 1 v3 y fun p3 =>
      ld1 h p3 fun v4 =>
      tBool v4 fun v5 =>
      retG (.bool v5) h Ψ) (
      retG (.bool false) h Ψ)) (
    ixS 1 l_ x fun p4 =>
    ld1 h p4 fun v6 =>
    ixS 1 v6 z fun p5 =>
    ld1 h p5 fun v7 =>
    tBool v7 fun v8 =>
    ifT v8 (
      ixS 1 l_ y fun p6 =>
      ld1 h p6 fun v9 =>
      ixS 1 v9 z fun p7 =>
      ld1 h p7 fun v10 =>
      tBool v10 fun v11 =>
      retG (.bool v11) h Ψ) (
      retG (.bool false) h Ψ))

def s118_A (Ψ : AVal → Heap → Prop) : Ann :=
  .seq (rA 1)
  (.seq (.seq (rA 1)
  (.cond (.seq (.reg [⟨none, [(0, false), (1, false), (2, false), (3, false), (4, false), (5, false), (6, false), (7, false)]⟩, ⟨some (19, true), [(8, false), (9, false), (10, false), (11, false), (12, false), (13, false), (14, false)]⟩, ⟨none, [(15, false), (16, false)]⟩])
  (.leaf))
  (.leaf)))
  (.seq (.reg [⟨none, [(0, false), (1, false), (2, false), (3, false), (4, false), (5, false), (6, false), (7, false)]⟩, ⟨some (35, true), [(8, false), (9, false), (10, false), (11, false), (12, false), (13, false), (14, false)]⟩, ⟨none, [(15, false), (16, false)]⟩])
  (.leaf)))

theorem s118_ok {Ψ : AVal → Heap → Prop} {l_ : AVal} {z : Int} {x : Int} {y : Int} {down : Bool} {h : Heap} (H : s118 Ψ l_ z x y down h) : ACalls prog 118 [l_, (.int .i64 z), (.int .i64 x), (.int .i64 y), (.bool down)] h Ψ :=
  calls_of_evF func118 (by kernel_rfl) (by kernel_rfl) (by kernel_rfl)
    (Eq.mpr (by as_aux_lemma => kernel_rfl : oblF prog f118 (s118_A Ψ) Ψ = (True ∧ (True ∧ (True ∧ True) ∧ True) ∧ True ∧ True)) ⟨trivial, ⟨⟨trivial, ⟨⟨trivial, trivial⟩, trivial⟩⟩, ⟨trivial, trivial⟩⟩⟩)
    (Eq.mpr (by as_aux_lemma => kernel_rfl : evF prog f118 (s118_A Ψ) Ψ [l_, (.int .i64 z), (.int .i64 x), (.int .i64 y), (.bool down)] h = s118 Ψ l_ z x y down h) H)

/- 120 (*dictum/formula.Table).fits -/
def s120c1 (Ψ : AVal → Heap → Prop) (h : Heap) : Prop :=
  retG (.int .i64 0) h Ψ

def s120c2 (Ψ : AVal → Heap → Prop) (n : AVal) (t16 : Bool) (h : Heap) : Prop :=
  ifT t16 (
    retG (.int .i64 31) h Ψ) (
    addOff n 1 fun p =>
    ld1 h p fun v =>
    tStr v fun v1 =>
    callG prog 143 [(.str v1)] h fun v2 h_ =>
    tBool v2 fun v3 =>
    ifT (!v3) (
      retG (.int .i64 32) h_ Ψ) (
      s120c1 Ψ h_))

def s120c4 (Ψ : AVal → Heap → Prop) (t46 : Bool) (h : Heap) : Prop :=
  ifT t46 (
    retG (.int .i64 31) h Ψ) (
    s120c1 Ψ h)

def s120c3 (Ψ : AVal → Heap → Prop) (t1 n1 : AVal) (t26 : Bool) (h : Heap) : Prop :=
  ifT t26 (
    addOff n1 1 fun p1 =>
    ld1 h p1 fun v4 =>
    tStr v4 fun v5 =>
    ifT (!strEq v5 (ByteArray.mk #[])) (
      s120c4 Ψ true h) (
      addOff n1 2 fun p2 =>
      ld1 h p2 fun v6 =>
      tInt .i64 v6 fun v7 =>
      callG prog 92 [t1, (.int .i64 v7)] h fun v8 h_1 =>
      tBool v8 fun v9 =>
      ifT (!v9) (
        s120c4 Ψ true h_1) (
        addOff n1 3 fun p3 =>
        ld1 h_1 p3 fun v10 =>
        tInt .i64 v10 fun v11 =>
        callG prog 92 [t1, (.int .i64 v11)] h_1 fun v12 h_2 =>
        tBool v12 fun v13 =>
        s120c4 Ψ (!v13) h_2))) (
    retG (.int .i64 31) h Ψ)

def s120 (Ψ : AVal → Heap → Prop) (t : AVal) (n_Kind : Int) (n_Name : ByteArray) (n_L : Int) (n_R : Int) (h : Heap) : Prop :=
  ifT (n_Kind == 1) (
    ifT (n_L != 0) (
      s120c2 Ψ (.lptr [(.int .i64 n_Kind), (.str n_Name), (.int .i64 n_L), (.int .i64 n_R)]) true h) (
      s120c2 Ψ (.lptr [(.int .i64 n_Kind), (.str n_Name), (.int .i64 n_L), (.int .i64 n_R)]) (n_R != 0) h)) (
    ifT (n_Kind == 2) (
      eqQ prog 71 (.agg [(.int .i64 n_Kind), (.str n_Name), (.int .i64 n_L), (.int .i64 n_R)]) (.agg [(.int .i64 2), (.str (ByteArray.mk #[])), (.int .i64 0), (.int .i64 0)]) fun b =>
      ifT (!b) (
        retG (.int .i64 31) h Ψ) (
        s120c1 Ψ h)) (
      ifT (n_Kind == 3) (
        s120c3 Ψ t (.lptr [(.int .i64 n_Kind), (.str n_Name), (.int .i64 n_L), (.int .i64 n_R)]) (n_Kind == 3) h) (
        ifT (n_Kind == 4) (
          s120c3 Ψ t (.lptr [(.int .i64 n_Kind), (.str n_Name), (.int .i64 n_L), (.int .i64 n_R)]) (n_Kind == 4) h) (
          s120c3 Ψ t (.lptr [(.int .i64 n_Kind), (.str n_Name), (.int .i64 n_L), (.int .i64 n_R)]) (n_Kind == 5) h))))

def s120_A (Ψ : AVal → Heap → Prop) : Ann :=
  .seq (.reg [⟨none, [(0, true), (1, false)]⟩])
  (.cut [] (fun l h => J.nil l (s120c1 Ψ h)) (.seq (rA 2)
  (.block (.seq (rA 2)
  (.cond (.seq (.cut [(3, .any), (16, .bool)] (fun l h => J.cons l fun x0 l => J.cons l fun v l => J.bool v fun x1 => J.nil l (s120c2 Ψ x0 x1 h)) (.reg [⟨none, [(0, false), (1, false), (2, false), (3, false)]⟩, ⟨some (12, false), [(4, false), (5, false), (6, false)]⟩, ⟨none, [(7, false)]⟩])
  (.cond (.seq (rA 1)
  (.leaf))
  (.leaf)))
  (.seq (rA 4)
  (.cond (.seq (rA 1)
  (.leaf))
  (.leaf))))
  (.seq (rA 2)
  (.cond (.seq (rA 3)
  (.cond (.seq (rA 1)
  (.leaf))
  (.leaf)))
  (.cut [(0, .any), (3, .any), (26, .bool)] (fun l h => J.cons l fun x0 l => J.cons l fun x1 l => J.cons l fun v l => J.bool v fun x2 => J.nil l (s120c3 Ψ x0 x1 x2 h)) (.seq (rA 2)
  (.cond (.leaf)
  (.seq (rA 2)
  (.cond (.leaf)
  (rA 2)))))
  (.cond (.cut [(46, .bool)] (fun l h => J.cons l fun v l => J.bool v fun x0 => J.nil l (s120c4 Ψ x0 h)) (.reg [⟨none, [(0, false), (1, false), (2, false), (3, false)]⟩, ⟨some (33, false), [(4, false), (5, false), (6, false), (7, false), (8, false)]⟩, ⟨none, [(9, false), (10, false)]⟩, ⟨some (40, false), [(11, false), (12, false), (13, false), (14, false), (15, false)]⟩, ⟨none, [(16, false)]⟩])
  (.cond (.seq (rA 1)
  (.leaf))
  (.leaf)))
  (.seq (rA 1)
  (.leaf))))))))))
  (.seq (rA 1)
  (.leaf)))

theorem s120_ok {Ψ : AVal → Heap → Prop} {t : AVal} {n_Kind : Int} {n_Name : ByteArray} {n_L : Int} {n_R : Int} {h : Heap} (H : s120 Ψ t n_Kind n_Name n_L n_R h) : ACalls prog 120 [t, (.agg [(.int .i64 n_Kind), (.str n_Name), (.int .i64 n_L), (.int .i64 n_R)])] h Ψ :=
  calls_of_evF func120 (by kernel_rfl) (by kernel_rfl) (by kernel_rfl)
    (Eq.mpr (by as_aux_lemma => kernel_rfl : oblF prog f120 (s120_A Ψ) Ψ = (True ∧ (True ∧ True ∧ (((True) ∧ (∀ (h : Heap) (x0 : AVal) (x1 : Bool), OI (s120c2 Ψ x0 x1 h)) ∧ ((True ∧ True) ∧ True)) ∧ True ∧ (True ∧ True) ∧ True) ∧ True ∧ (True ∧ (True ∧ True) ∧ True) ∧ (True ∧ True ∧ True ∧ True ∧ True) ∧ (∀ (h : Heap) (x0 x1 : AVal) (x2 : Bool), OI (s120c3 Ψ x0 x1 x2 h)) ∧ (((True) ∧ (∀ (h : Heap) (x0 : Bool), OI (s120c4 Ψ x0 h)) ∧ ((True ∧ True) ∧ True)) ∧ True ∧ True)) ∧ (∀ (h : Heap), OI (s120c1 Ψ h)) ∧ (True ∧ True))) ⟨trivial, ⟨⟨trivial, ⟨trivial, ⟨⟨⟨trivial, fun _ _ _ H => H, ⟨⟨trivial, trivial⟩, trivial⟩⟩, ⟨trivial, ⟨⟨trivial, trivial⟩, trivial⟩⟩⟩, ⟨trivial, ⟨⟨trivial, ⟨⟨trivial, trivial⟩, trivial⟩⟩, ⟨⟨trivial, ⟨trivial, ⟨trivial, ⟨trivial, trivial⟩⟩⟩⟩, fun _ _ _ _ H => H, ⟨⟨trivial, fun _ _ H => H, ⟨⟨trivial, trivial⟩, trivial⟩⟩, ⟨trivial, trivial⟩⟩⟩⟩⟩⟩⟩⟩, fun _ H => H, ⟨trivial, trivial⟩⟩⟩)
    (Eq.mpr (by as_aux_lemma => kernel_rfl : evF prog f120 (s120_A Ψ) Ψ [t, (.agg [(.int .i64 n_Kind), (.str n_Name), (.int .i64 n_L), (.int .i64 n_R)])] h = s120 Ψ t n_Kind n_Name n_L n_R h) H)

/- 131 dictum/dictumref03.letter -/
def s131 (Ψ : AVal → Heap → Prop) (c : Int) (h : Heap) : Prop :=
  ifT (decide (97 ≤ c)) (
    ifT (decide (c ≤ 122)) (
      retG (.bool true) h Ψ) (
      ifT (decide (65 ≤ c)) (
        retG (.bool (decide (c ≤ 90))) h Ψ) (
        retG (.bool false) h Ψ))) (
    ifT (decide (65 ≤ c)) (
      retG (.bool (decide (c ≤ 90))) h Ψ) (
      retG (.bool false) h Ψ))

def s131_A (Ψ : AVal → Heap → Prop) : Ann :=
  .seq (rA 1)
  (.seq (.reg [⟨none, [(0, false), (1, false), (2, false)]⟩, ⟨some (5, true), [(3, false), (4, false)]⟩, ⟨none, [(5, false), (6, false)]⟩, ⟨some (9, false), [(7, false), (8, false), (9, false)]⟩, ⟨some (12, true), [(10, false), (11, false)]⟩, ⟨some (9, false), [(12, false)]⟩, ⟨none, [(13, false), (14, false)]⟩])
  (.leaf))

theorem s131_ok {Ψ : AVal → Heap → Prop} {c : Int} {h : Heap} (H : s131 Ψ c h) : ACalls prog 131 [(.int .u8 c)] h Ψ :=
  calls_of_evF func131 (by kernel_rfl) (by kernel_rfl) (by kernel_rfl)
    (Eq.mpr (by as_aux_lemma => kernel_rfl : oblF prog f131 (s131_A Ψ) Ψ = (True ∧ True ∧ True)) ⟨trivial, ⟨trivial, trivial⟩⟩)
    (Eq.mpr (by as_aux_lemma => kernel_rfl : evF prog f131 (s131_A Ψ) Ψ [(.int .u8 c)] h = s131 Ψ c h) H)

/- 139 dictum/worlds.reckon -/
abbrev s139l1_T := AVal → Int → AVal → Int → Int → Heap → Prop
def s139l1_R (F : s139l1_T) (l : List AVal) (h : Heap) : Prop := J.cons l fun x0 l => J.cons l fun v l => J.int .i64 v fun x1 => J.cons l fun x2 l => J.cons l fun v l => J.int .i64 v fun x3 => J.cons l fun v l => J.int .i64 v fun x4 => J.nil l (F x0 x1 x2 x3 x4 h)
def s139l1_G (F : s139l1_T) (x0 : AVal) (x1 : Int) (x2 : AVal) (x3 x4 : Int) (h : Heap) : Prop := gJ [.any, .int .i64, .any, .int .i64, .int .i64] [x0, (.int .i64 x1), x2, (.int .i64 x3), (.int .i64 x4)] h (s139l1_R F)
def s139l1_E (F : Nat → s139l1_T) (x0 : AVal) (x1 : Int) (x2 : AVal) (x3 x4 : Int) (h : Heap) : Prop := gJ [.any, .int .i64, .any, .int .i64, .int .i64] [x0, (.int .i64 x1), x2, (.int .i64 x3), (.int .i64 x4)] h (fun l h => ∃ n, s139l1_R (F n) l h)
theorem s139l1_go {F : s139l1_T} {x0 : AVal} {x1 : Int} {x2 : AVal} {x3 x4 : Int} {h : Heap} (H : F x0 x1 x2 x3 x4 h) : s139l1_G F x0 x1 x2 x3 x4 h := gJ_plain rfl H
theorem s139l1_in {F : Nat → s139l1_T} {x0 : AVal} {x1 : Int} {x2 : AVal} {x3 x4 : Int} {h : Heap} (n : Nat) (H : F n x0 x1 x2 x3 x4 h) : s139l1_E F x0 x1 x2 x3 x4 h := gJ_plain rfl ⟨n, H⟩

abbrev s139l2_T := AVal → Int → AVal → AVal → AVal → Int → Int → Heap → Prop
def s139l2_R (F : s139l2_T) (l : List AVal) (h : Heap) : Prop := J.cons l fun x0 l => J.cons l fun v l => J.int .i64 v fun x1 => J.cons l fun x2 l => J.cons l fun x3 l => J.cons l fun x4 l => J.cons l fun v l => J.int .i64 v fun x5 => J.cons l fun v l => J.int .i64 v fun x6 => J.nil l (F x0 x1 x2 x3 x4 x5 x6 h)
def s139l2_G (F : s139l2_T) (x0 : AVal) (x1 : Int) (x2 x3 x4 : AVal) (x5 x6 : Int) (h : Heap) : Prop := gJ [.any, .int .i64, .any, .any, .any, .int .i64, .int .i64] [x0, (.int .i64 x1), x2, x3, x4, (.int .i64 x5), (.int .i64 x6)] h (s139l2_R F)
def s139l2_E (F : Nat → s139l2_T) (x0 : AVal) (x1 : Int) (x2 x3 x4 : AVal) (x5 x6 : Int) (h : Heap) : Prop := gJ [.any, .int .i64, .any, .any, .any, .int .i64, .int .i64] [x0, (.int .i64 x1), x2, x3, x4, (.int .i64 x5), (.int .i64 x6)] h (fun l h => ∃ n, s139l2_R (F n) l h)
theorem s139l2_go {F : s139l2_T} {x0 : AVal} {x1 : Int} {x2 x3 x4 : AVal} {x5 x6 : Int} {h : Heap} (H : F x0 x1 x2 x3 x4 x5 x6 h) : s139l2_G F x0 x1 x2 x3 x4 x5 x6 h := gJ_plain rfl H
theorem s139l2_in {F : Nat → s139l2_T} {x0 : AVal} {x1 : Int} {x2 x3 x4 : AVal} {x5 x6 : Int} {h : Heap} (n : Nat) (H : F n x0 x1 x2 x3 x4 x5 x6 h) : s139l2_E F x0 x1 x2 x3 x4 x5 x6 h := gJ_plain rfl ⟨n, H⟩

abbrev s139l3_T := AVal → Int → AVal → AVal → AVal → Int → Int → AVal → Int → Int → Heap → Prop
def s139l3_R (F : s139l3_T) (l : List AVal) (h : Heap) : Prop := J.cons l fun x0 l => J.cons l fun v l => J.int .i64 v fun x1 => J.cons l fun x2 l => J.cons l fun x3 l => J.cons l fun x4 l => J.cons l fun v l => J.int .i64 v fun x5 => J.cons l fun v l => J.int .i64 v fun x6 => J.cons l fun x7 l => J.cons l fun v l => J.int .i64 v fun x8 => J.cons l fun v l => J.int .i64 v fun x9 => J.nil l (F x0 x1 x2 x3 x4 x5 x6 x7 x8 x9 h)
def s139l3_G (F : s139l3_T) (x0 : AVal) (x1 : Int) (x2 x3 x4 : AVal) (x5 x6 : Int) (x7 : AVal) (x8 x9 : Int) (h : Heap) : Prop := gJ [.any, .int .i64, .any, .any, .any, .int .i64, .int .i64, .any, .int .i64, .int .i64] [x0, (.int .i64 x1), x2, x3, x4, (.int .i64 x5), (.int .i64 x6), x7, (.int .i64 x8), (.int .i64 x9)] h (s139l3_R F)
def s139l3_E (F : Nat → s139l3_T) (x0 : AVal) (x1 : Int) (x2 x3 x4 : AVal) (x5 x6 : Int) (x7 : AVal) (x8 x9 : Int) (h : Heap) : Prop := gJ [.any, .int .i64, .any, .any, .any, .int .i64, .int .i64, .any, .int .i64, .int .i64] [x0, (.int .i64 x1), x2, x3, x4, (.int .i64 x5), (.int .i64 x6), x7, (.int .i64 x8), (.int .i64 x9)] h (fun l h => ∃ n, s139l3_R (F n) l h)
theorem s139l3_go {F : s139l3_T} {x0 : AVal} {x1 : Int} {x2 x3 x4 : AVal} {x5 x6 : Int} {x7 : AVal} {x8 x9 : Int} {h : Heap} (H : F x0 x1 x2 x3 x4 x5 x6 x7 x8 x9 h) : s139l3_G F x0 x1 x2 x3 x4 x5 x6 x7 x8 x9 h := gJ_plain rfl H
theorem s139l3_in {F : Nat → s139l3_T} {x0 : AVal} {x1 : Int} {x2 x3 x4 : AVal} {x5 x6 : Int} {x7 : AVal} {x8 x9 : Int} {h : Heap} (n : Nat) (H : F n x0 x1 x2 x3 x4 x5 x6 x7 x8 x9 h) : s139l3_E F x0 x1 x2 x3 x4 x5 x6 x7 x8 x9 h := gJ_plain rfl ⟨n, H⟩

def s139c4 (Ψ : AVal → Heap → Prop) (L1 : s139l1_T) (L2 : s139l2_T) (L3 : s139l3_T) (m3 : AVal) (n12 : Int) (above3 row2 stack2 : AVal) (t18_3 t19_3 : Int) (t51_1 : AVal) (t52_1 t53_1 : Int) (h : Heap) : Prop :=
  rg (t53_1 + 1) (
    L3 m3 n12 above3 row2 stack2 t18_3 t19_3 t51_1 t52_1 (t53_1 + 1) h)

def s139c5 (Ψ : AVal → Heap → Prop) (L1 : s139l1_T) (L2 : s139l2_T) (L3 : s139l3_T) (m4 : AVal) (n13 : Int) (above4 row3 stack3 : AVal) (b t18_4 t19_4 : Int) (t51_2 : AVal) (t52_2 t53_2 : Int) (t63 : Bool) (h : Heap) : Prop :=
  ifT t63 (
    retG (.tuple [.nilfunc, (.bool false)]) h Ψ) (
    ixS 1 row3 b fun p6 =>
    ld1 h p6 fun v11 =>
    tBool v11 fun v12 =>
    ifT (!v12) (
      ixS 1 row3 b fun p7 =>
      st true h p7 [(.bool true)] fun h_7 =>
      appC 1 8 h_7 stack3 (.lsl 1 [(.int .i64 b)]) fun v13 h_8 =>
      s139c4 Ψ L1 L2 L3 m4 n13 above4 row3 v13 t18_4 t19_4 t51_2 t52_2 t53_2 h_8) (
      s139c4 Ψ L1 L2 L3 m4 n13 above4 row3 stack3 t18_4 t19_4 t51_2 t52_2 t53_2 h))

def s139l3 (Ψ : AVal → Heap → Prop) (L1 : s139l1_T) (L2 : s139l2_T) : Nat → s139l3_T
  | 0, _, _, _, _, _, _, _, _, _, _, _ => False
  | n11 + 1, m2, n10, above2, row1, stack1, t18_2, t19_2, t51, t52, t53, h =>
    ifT (decide (t53 < t52)) (
      ixS 1 t51 t53 fun p5 =>
      ld1 h p5 fun v9 =>
      tInt .i64 v9 fun v10 =>
      ifT (decide (v10 < 0)) (
        s139c5 Ψ L1 L2 (s139l3_G (s139l3 Ψ L1 L2 n11)) m2 n10 above2 row1 stack1 v10 t18_2 t19_2 t51 t52 t53 true h) (
        s139c5 Ψ L1 L2 (s139l3_G (s139l3 Ψ L1 L2 n11)) m2 n10 above2 row1 stack1 v10 t18_2 t19_2 t51 t52 t53 (decide (n10 ≤ v10)) h)) (
      L2 m2 n10 above2 row1 stack1 t18_2 t19_2 h)

def s139l2 (Ψ : AVal → Heap → Prop) (L1 : s139l1_T) : Nat → s139l2_T
  | 0, _, _, _, _, _, _, _, _ => False
  | n5 + 1, m1, n4, above1, row, stack, t18_1, t19_1, h =>
    lenN stack fun n6 =>
    ifT (decide (0 < n6)) (
      lenN stack fun n7 =>
      rg (n7 - 1) (
        ixS 1 stack (n7 - 1) fun p2 =>
        ld1 h p2 fun v4 =>
        tInt .i64 v4 fun v5 =>
        lenN stack fun n8 =>
        rg (n8 - 1) (
          slX 1 stack 0 (some (n8 - 1)) fun v6 =>
          addOff m1 0 fun p3 =>
          ld1 h p3 fun v7 =>
          ixS 1 v7 v5 fun p4 =>
          ld1 h p4 fun v8 =>
          lenN v8 fun n9 =>
          s139l3_E (s139l3 Ψ L1 (s139l2_G (s139l2 Ψ L1 n5))) m1 n4 above1 row v6 t18_1 t19_1 v8 n9 0 h))) (
      rg (t19_1 + 1) (
        L1 m1 n4 above1 t18_1 (t19_1 + 1) h))

def s139l1 (Ψ : AVal → Heap → Prop) : Nat → s139l1_T
  | 0, _, _, _, _, _, _ => False
  | n3 + 1, m, n2, above, t18, t19, h =>
    ifT (decide (t19 < t18)) (
      mkS false 1 1 (.bool false) h n2 n2 fun v2 h_3 =>
      ld1 h_3 above fun v3 =>
      ixS 1 v3 t19 fun p =>
      chk (sc v2) (
        st true h_3 p [v2] fun h_4 =>
        ixS 1 v2 t19 fun p1 =>
        st true h_4 p1 [(.bool true)] fun h_5 =>
        Sym.newRow 1 [(.int .i64 t19)] h_5 fun r1 h_6 =>
        s139l2_E (s139l2 Ψ (s139l1_G (s139l1 Ψ n3))) m n2 above v2 (.sl r1 1 0 1) t18 t19 h_6)) (
      retG (.tuple [(.func (.func 157) [] [above]), (.bool true)]) h Ψ)

def s139 (Ψ : AVal → Heap → Prop) (m_Up : AVal) (m_Val : AVal) (h : Heap) : Prop :=
  lenN m_Up fun n =>
  mkS false 1 24 .nilsl h n n fun v h_ =>
  Sym.newRow 1 [.nilsl] h_ fun r h_1 =>
  chk (sc v) (
    st true h_1 (.ptr r 0 0) [v] fun h_2 =>
    ld1 h_2 (.ptr r 0 0) fun v1 =>
    lenN v1 fun n1 =>
    s139l1_E (s139l1 Ψ) (.lptr [m_Up, m_Val]) n (.ptr r 0 0) n1 0 h_2)

def s139_A (Ψ : AVal → Heap → Prop) : Ann :=
  .seq (.reg [⟨none, [(0, true), (1, false), (2, false)]⟩])
  (.seq (rA 4)
  (.seq (rA 4)
  (.seq (.seq (rA 3)
  (.block (.loop [(1, .any), (4, .int .i64), (5, .any), (18, .int .i64), (19, .int .i64)] (fun n l h => s139l1_R (s139l1 Ψ n) l h) (fun L1 =>
  .seq (rA 1)
  (.seq (.cond (.leaf)
  (.leaf))
  (.seq (.block (.seq (rA 2)
  (.seq (rA 3)
  (.seq (rA 5)
  (.seq (rA 4)
  (.seq (rA 3)
  (.block (.loop [(1, .any), (4, .int .i64), (5, .any), (7, .any), (8, .any), (18, .int .i64), (19, .int .i64)] (fun n l h => s139l2_R (s139l2 Ψ (fun y0 y1 y2 y3 y4 h => L1 [y0, (.int .i64 y1), y2, (.int .i64 y3), (.int .i64 y4)] h) n) l h) (fun L2 =>
  .seq (.seq (rA 3)
  (.cond (.leaf)
  (.leaf)))
  (.block (.seq (rA 7)
  (.seq (rA 6)
  (.seq (rA 7)
  (.block (.loop [(1, .any), (4, .int .i64), (5, .any), (7, .any), (8, .any), (18, .int .i64), (19, .int .i64), (51, .any), (52, .int .i64), (53, .int .i64)] (fun n l h => s139l3_R (s139l3 Ψ (fun y0 y1 y2 y3 y4 h => L1 [y0, (.int .i64 y1), y2, (.int .i64 y3), (.int .i64 y4)] h) (fun y0 y1 y2 y3 y4 y5 y6 h => L2 [y0, (.int .i64 y1), y2, y3, y4, (.int .i64 y5), (.int .i64 y6)] h) n) l h) (fun L3 =>
  .seq (rA 1)
  (.seq (.cond (.leaf)
  (.leaf))
  (.cut [(1, .any), (4, .int .i64), (5, .any), (7, .any), (8, .any), (18, .int .i64), (19, .int .i64), (51, .any), (52, .int .i64), (53, .int .i64)] (fun l h => J.cons l fun x0 l => J.cons l fun v l => J.int .i64 v fun x1 => J.cons l fun x2 l => J.cons l fun x3 l => J.cons l fun x4 l => J.cons l fun v l => J.int .i64 v fun x5 => J.cons l fun v l => J.int .i64 v fun x6 => J.cons l fun x7 l => J.cons l fun v l => J.int .i64 v fun x8 => J.cons l fun v l => J.int .i64 v fun x9 => J.nil l (s139c4 Ψ (fun y0 y1 y2 y3 y4 h => L1 [y0, (.int .i64 y1), y2, (.int .i64 y3), (.int .i64 y4)] h) (fun y0 y1 y2 y3 y4 y5 y6 h => L2 [y0, (.int .i64 y1), y2, y3, y4, (.int .i64 y5), (.int .i64 y6)] h) (fun y0 y1 y2 y3 y4 y5 y6 y7 y8 y9 h => L3 [y0, (.int .i64 y1), y2, y3, y4, (.int .i64 y5), (.int .i64 y6), y7, (.int .i64 y8), (.int .i64 y9)] h) x0 x1 x2 x3 x4 x5 x6 x7 x8 x9 h)) (.block (.seq (rA 3)
  (.seq (.cut [(1, .any), (4, .int .i64), (5, .any), (7, .any), (8, .any), (11, .int .i64), (18, .int .i64), (19, .int .i64), (51, .any), (52, .int .i64), (53, .int .i64), (63, .bool)] (fun l h => J.cons l fun x0 l => J.cons l fun v l => J.int .i64 v fun x1 => J.cons l fun x2 l => J.cons l fun x3 l => J.cons l fun x4 l => J.cons l fun v l => J.int .i64 v fun x5 => J.cons l fun v l => J.int .i64 v fun x6 => J.cons l fun v l => J.int .i64 v fun x7 => J.cons l fun x8 l => J.cons l fun v l => J.int .i64 v fun x9 => J.cons l fun v l => J.int .i64 v fun x10 => J.cons l fun v l => J.bool v fun x11 => J.nil l (s139c5 Ψ (fun y0 y1 y2 y3 y4 h => L1 [y0, (.int .i64 y1), y2, (.int .i64 y3), (.int .i64 y4)] h) (fun y0 y1 y2 y3 y4 y5 y6 h => L2 [y0, (.int .i64 y1), y2, y3, y4, (.int .i64 y5), (.int .i64 y6)] h) (fun y0 y1 y2 y3 y4 y5 y6 y7 y8 y9 h => L3 [y0, (.int .i64 y1), y2, y3, y4, (.int .i64 y5), (.int .i64 y6), y7, (.int .i64 y8), (.int .i64 y9)] h) x0 x1 x2 x3 x4 x5 x6 x7 x8 x9 x10 x11 h)) (.reg [⟨none, [(0, false), (1, false), (2, false)]⟩, ⟨some (59, false), [(3, false), (4, false), (5, false)]⟩, ⟨none, [(6, false)]⟩])
  (.cond (.seq (rA 2)
  (.leaf))
  (.leaf)))
  (.seq (rA 5)
  (.cond (.seq (rA 4)
  (.reg [⟨none, [(0, false), (1, false), (2, true), (3, false), (4, false)]⟩]))
  (.leaf))))))
  (rA 2)))))))))))))))))))
  (rA 2)))))))
  (.seq (rA 3)
  (.leaf)))))

theorem s139_ok {Ψ : AVal → Heap → Prop} {m_Up : AVal} {m_Val : AVal} {h : Heap} (H : s139 Ψ m_Up m_Val h) : ACalls prog 139 [(.agg [m_Up, m_Val])] h Ψ :=
  calls_of_evF func139 (by kernel_rfl) (by kernel_rfl) (by kernel_rfl)
    (Eq.mpr (by as_aux_lemma => kernel_rfl : oblF prog f139 (s139_A Ψ) Ψ = (True ∧ True ∧ True ∧ (True ∧ (∀ (h : Heap) (x0 : AVal) (x1 : Int) (x2 : AVal) (x3 x4 : Int), ON (s139l1 Ψ 0 x0 x1 x2 x3 x4 h)) ∧ ∀ n1 : Nat, (∀ (h : Heap) (x0 : AVal) (x1 : Int) (x2 : AVal) (x3 x4 : Int), OI (s139l1 Ψ (n1 + 1) x0 x1 x2 x3 x4 h)) ∧ (True ∧ (True ∧ True) ∧ (True ∧ True ∧ True ∧ True ∧ True ∧ (∀ (h : Heap) (x0 : AVal) (x1 : Int) (x2 x3 x4 : AVal) (x5 x6 : Int), ON (s139l2 Ψ (s139l1_G (s139l1 Ψ n1)) 0 x0 x1 x2 x3 x4 x5 x6 h)) ∧ ∀ n2 : Nat, (∀ (h : Heap) (x0 : AVal) (x1 : Int) (x2 x3 x4 : AVal) (x5 x6 : Int), OI (s139l2 Ψ (s139l1_G (s139l1 Ψ n1)) (n2 + 1) x0 x1 x2 x3 x4 x5 x6 h)) ∧ ((True ∧ True ∧ True) ∧ True ∧ True ∧ True ∧ (∀ (h : Heap) (x0 : AVal) (x1 : Int) (x2 x3 x4 : AVal) (x5 x6 : Int) (x7 : AVal) (x8 x9 : Int), ON (s139l3 Ψ (s139l1_G (s139l1 Ψ n1)) (s139l2_G (s139l2 Ψ (s139l1_G (s139l1 Ψ n1)) n2)) 0 x0 x1 x2 x3 x4 x5 x6 x7 x8 x9 h)) ∧ ∀ n3 : Nat, (∀ (h : Heap) (x0 : AVal) (x1 : Int) (x2 x3 x4 : AVal) (x5 x6 : Int) (x7 : AVal) (x8 x9 : Int), OI (s139l3 Ψ (s139l1_G (s139l1 Ψ n1)) (s139l2_G (s139l2 Ψ (s139l1_G (s139l1 Ψ n1)) n2)) (n3 + 1) x0 x1 x2 x3 x4 x5 x6 x7 x8 x9 h)) ∧ (True ∧ (True ∧ True) ∧ (True ∧ ((True) ∧ (∀ (h : Heap) (x0 : AVal) (x1 : Int) (x2 x3 x4 : AVal) (x5 x6 x7 : Int) (x8 : AVal) (x9 x10 : Int) (x11 : Bool), OI (s139c5 Ψ (s139l1_G (s139l1 Ψ n1)) (s139l2_G (s139l2 Ψ (s139l1_G (s139l1 Ψ n1)) n2)) (s139l3_G (s139l3 Ψ (s139l1_G (s139l1 Ψ n1)) (s139l2_G (s139l2 Ψ (s139l1_G (s139l1 Ψ n1)) n2)) n3)) x0 x1 x2 x3 x4 x5 x6 x7 x8 x9 x10 x11 h)) ∧ ((True ∧ True) ∧ True)) ∧ True ∧ (True ∧ True) ∧ True) ∧ (∀ (h : Heap) (x0 : AVal) (x1 : Int) (x2 x3 x4 : AVal) (x5 x6 : Int) (x7 : AVal) (x8 x9 : Int), OI (s139c4 Ψ (s139l1_G (s139l1 Ψ n1)) (s139l2_G (s139l2 Ψ (s139l1_G (s139l1 Ψ n1)) n2)) (s139l3_G (s139l3 Ψ (s139l1_G (s139l1 Ψ n1)) (s139l2_G (s139l2 Ψ (s139l1_G (s139l1 Ψ n1)) n2)) n3)) x0 x1 x2 x3 x4 x5 x6 x7 x8 x9 h)) ∧ (True)))) ∧ True)) ∧ True ∧ True)) ⟨trivial, ⟨trivial, ⟨trivial, ⟨⟨trivial, ⟨fun _ _ _ _ _ _ H => H, fun _ => ⟨fun _ _ _ _ _ _ H => H, ⟨trivial, ⟨⟨trivial, trivial⟩, ⟨⟨trivial, ⟨trivial, ⟨trivial, ⟨trivial, ⟨trivial, ⟨fun _ _ _ _ _ _ _ _ H => H, fun _ => ⟨fun _ _ _ _ _ _ _ _ H => H, ⟨⟨trivial, ⟨trivial, trivial⟩⟩, ⟨trivial, ⟨trivial, ⟨trivial, ⟨fun _ _ _ _ _ _ _ _ _ _ _ H => H, fun _ => ⟨fun _ _ _ _ _ _ _ _ _ _ _ H => H, ⟨trivial, ⟨⟨trivial, trivial⟩, ⟨⟨trivial, ⟨⟨trivial, fun _ _ _ _ _ _ _ _ _ _ _ _ _ H => H, ⟨⟨trivial, trivial⟩, trivial⟩⟩, ⟨trivial, ⟨⟨trivial, trivial⟩, trivial⟩⟩⟩⟩, fun _ _ _ _ _ _ _ _ _ _ _ H => H, trivial⟩⟩⟩⟩⟩⟩⟩⟩⟩⟩⟩⟩⟩⟩⟩⟩, trivial⟩⟩⟩⟩⟩⟩, ⟨trivial, trivial⟩⟩⟩⟩⟩)
    (Eq.mpr (by as_aux_lemma => kernel_rfl : evF prog f139 (s139_A Ψ) Ψ [(.agg [m_Up, m_Val])] h = s139 Ψ m_Up m_Val h) H)

/- 141 slices.ContainsFunc[[]string,string] -/
def s141 (Ψ : AVal → Heap → Prop) (s : AVal) (f : AVal) (h : Heap) : Prop :=
  callG prog 158 [s, f] h fun v h_ =>
  tInt .i64 v fun v1 =>
  retG (.bool (decide (0 ≤ v1))) h_ Ψ

def s141_A (Ψ : AVal → Heap → Prop) : Ann :=
  .seq (rA 1)
  (.seq (rA 5)
  (.leaf))

theorem s141_ok {Ψ : AVal → Heap → Prop} {s : AVal} {f : AVal} {h : Heap} (H : s141 Ψ s f h) : ACalls prog 141 [s, f] h Ψ :=
  calls_of_evF func141 (by kernel_rfl) (by kernel_rfl) (by kernel_rfl)
    (Eq.mpr (by as_aux_lemma => kernel_rfl : oblF prog f141 (s141_A Ψ) Ψ = (True ∧ True ∧ True)) ⟨trivial, ⟨trivial, trivial⟩⟩)
    (Eq.mpr (by as_aux_lemma => kernel_rfl : evF prog f141 (s141_A Ψ) Ψ [s, f] h = s141 Ψ s f h) H)

/- 143 dictum/formula.Word -/
abbrev s143l1_T := ByteArray → Int → Int → Heap → Prop
def s143l1_R (F : s143l1_T) (l : List AVal) (h : Heap) : Prop := J.cons l fun v l => J.str v fun x0 => J.cons l fun v l => J.int .i64 v fun x1 => J.cons l fun v l => J.int .i64 v fun x2 => J.nil l (F x0 x1 x2 h)
def s143l1_G (F : s143l1_T) (x0 : ByteArray) (x1 x2 : Int) (h : Heap) : Prop := gJ [.str, .int .i64, .int .i64] [(.str x0), (.int .i64 x1), (.int .i64 x2)] h (s143l1_R F)
def s143l1_E (F : Nat → s143l1_T) (x0 : ByteArray) (x1 x2 : Int) (h : Heap) : Prop := gJ [.str, .int .i64, .int .i64] [(.str x0), (.int .i64 x1), (.int .i64 x2)] h (fun l h => ∃ n, s143l1_R (F n) l h)
theorem s143l1_go {F : s143l1_T} {x0 : ByteArray} {x1 x2 : Int} {h : Heap} (H : F x0 x1 x2 h) : s143l1_G F x0 x1 x2 h := gJ_plain rfl H
theorem s143l1_in {F : Nat → s143l1_T} {x0 : ByteArray} {x1 x2 : Int} {h : Heap} (n : Nat) (H : F n x0 x1 x2 h) : s143l1_E F x0 x1 x2 h := gJ_plain rfl ⟨n, H⟩

def s143c3 (Ψ : AVal → Heap → Prop) (L1 : s143l1_T) (name3 : ByteArray) (t8_2 t9_2 : Int) (t44 : Bool) (h : Heap) : Prop :=
  ifT t44 (
    retG (.bool false) h Ψ) (
    rg (t9_2 + 1) (
      L1 name3 t8_2 (t9_2 + 1) h))

def s143c2 (Ψ : AVal → Heap → Prop) (L1 : s143l1_T) (name2 : ByteArray) (i c : Int) (letter : Bool) (t8_1 t9_1 : Int) (h : Heap) : Prop :=
  ifT (!letter) (
    ifT (i == 0) (
      s143c3 Ψ L1 name2 t8_1 t9_1 true h) (
      ifT (c != 95) (
        ifT (c != 39) (
          ifT (decide (c < 48)) (
            s143c3 Ψ L1 name2 t8_1 t9_1 true h) (
            s143c3 Ψ L1 name2 t8_1 t9_1 (decide (57 < c)) h)) (
          s143c3 Ψ L1 name2 t8_1 t9_1 false h)) (
        s143c3 Ψ L1 name2 t8_1 t9_1 false h))) (
    s143c3 Ψ L1 name2 t8_1 t9_1 false h)

def s143l1 (Ψ : AVal → Heap → Prop) : Nat → s143l1_T
  | 0, _, _, _, _ => False
  | n + 1, name1, t8, t9, h =>
    ifT (decide (t9 < t8)) (
      ((0 : Int) ≤ t9 ∧ t9 < (name1.size : Int)) ∧
      ifT (decide (97 ≤ (bitsI .or .u8 (btA name1 t9) 32))) (
        s143c2 Ψ (s143l1_G (s143l1 Ψ n)) name1 t9 (btA name1 t9) (decide ((bitsI .or .u8 (btA name1 t9) 32) ≤ 122)) t8 t9 h) (
        s143c2 Ψ (s143l1_G (s143l1 Ψ n)) name1 t9 (btA name1 t9) false t8 t9 h)) (
      ifT (!strEq name1 (ByteArray.mk #[])) (
        ifT (decide ((name1.size : Int) ≤ 31)) (
          callG prog 159 [(.str name1)] h fun v h_ =>
          tBool v fun v1 =>
          retG (.bool (!v1)) h_ Ψ) (
          retG (.bool false) h Ψ)) (
        retG (.bool false) h Ψ))

def s143 (Ψ : AVal → Heap → Prop) (name : ByteArray) (h : Heap) : Prop :=
  s143l1_E (s143l1 Ψ) name (name.size : Int) 0 h

def s143_A (Ψ : AVal → Heap → Prop) : Ann :=
  .seq (rA 1)
  (.seq (.seq (rA 3)
  (.block (.loop [(0, .str), (8, .int .i64), (9, .int .i64)] (fun n l h => s143l1_R (s143l1 Ψ n) l h) (fun L1 =>
  .seq (rA 1)
  (.seq (.cond (.leaf)
  (.leaf))
  (.seq (.block (.seq (rA 2)
  (.seq (rA 4)
  (.seq (rA 3)
  (.cut [(0, .str), (3, .int .i64), (4, .int .u8), (6, .bool), (8, .int .i64), (9, .int .i64)] (fun l h => J.cons l fun v l => J.str v fun x0 => J.cons l fun v l => J.int .i64 v fun x1 => J.cons l fun v l => J.int .u8 v fun x2 => J.cons l fun v l => J.bool v fun x3 => J.cons l fun v l => J.int .i64 v fun x4 => J.cons l fun v l => J.int .i64 v fun x5 => J.nil l (s143c2 Ψ (fun y0 y1 y2 h => L1 [(.str y0), (.int .i64 y1), (.int .i64 y2)] h) x0 x1 x2 x3 x4 x5 h)) (.reg [⟨none, [(0, false), (1, false), (2, false)]⟩, ⟨some (19, true), [(3, false), (4, false)]⟩, ⟨none, [(5, false), (6, false)]⟩])
  (.cut [(0, .str), (8, .int .i64), (9, .int .i64), (44, .bool)] (fun l h => J.cons l fun v l => J.str v fun x0 => J.cons l fun v l => J.int .i64 v fun x1 => J.cons l fun v l => J.int .i64 v fun x2 => J.cons l fun v l => J.bool v fun x3 => J.nil l (s143c3 Ψ (fun y0 y1 y2 h => L1 [(.str y0), (.int .i64 y1), (.int .i64 y2)] h) x0 x1 x2 x3 h)) (.reg [⟨none, [(0, false), (1, false), (2, false)]⟩, ⟨some (25, true), [(3, false), (4, false), (5, false)]⟩, ⟨some (28, false), [(6, false), (7, false), (8, false)]⟩, ⟨some (31, true), [(9, false), (10, false)]⟩, ⟨some (28, false), [(11, false), (12, false)]⟩, ⟨some (35, true), [(13, false), (14, false), (15, false)]⟩, ⟨some (38, false), [(16, false), (17, false)]⟩, ⟨some (35, true), [(18, false)]⟩, ⟨some (28, false), [(19, false)]⟩, ⟨some (25, true), [(20, false)]⟩, ⟨none, [(21, false)]⟩])
  (.cond (.seq (rA 1)
  (.leaf))
  (.leaf))))))))
  (rA 2)))))))
  (.seq (.reg [⟨none, [(0, false), (1, false), (2, false)]⟩, ⟨some (48, true), [(3, false), (4, false), (5, false)]⟩, ⟨none, [(6, false), (7, false)]⟩, ⟨some (53, true), [(8, false), (9, false), (10, false)]⟩, ⟨none, [(11, false), (12, false)]⟩])
  (.leaf)))

theorem s143_ok {Ψ : AVal → Heap → Prop} {name : ByteArray} {h : Heap} (H : s143 Ψ name h) : ACalls prog 143 [(.str name)] h Ψ :=
  calls_of_evF func143 (by kernel_rfl) (by kernel_rfl) (by kernel_rfl)
    (Eq.mpr (by as_aux_lemma => kernel_rfl : oblF prog f143 (s143_A Ψ) Ψ = (True ∧ (True ∧ (∀ (h : Heap) (x0 : ByteArray) (x1 x2 : Int), ON (s143l1 Ψ 0 x0 x1 x2 h)) ∧ ∀ n1 : Nat, (∀ (h : Heap) (x0 : ByteArray) (x1 x2 : Int), OI (s143l1 Ψ (n1 + 1) x0 x1 x2 h)) ∧ (True ∧ (True ∧ True) ∧ (True ∧ True ∧ True ∧ (True) ∧ (∀ (h : Heap) (x0 : ByteArray) (x1 x2 : Int) (x3 : Bool) (x4 x5 : Int), OI (s143c2 Ψ (s143l1_G (s143l1 Ψ n1)) x0 x1 x2 x3 x4 x5 h)) ∧ ((True) ∧ (∀ (h : Heap) (x0 : ByteArray) (x1 x2 : Int) (x3 : Bool), OI (s143c3 Ψ (s143l1_G (s143l1 Ψ n1)) x0 x1 x2 x3 h)) ∧ ((True ∧ True) ∧ True))) ∧ True)) ∧ True ∧ True)) ⟨trivial, ⟨⟨trivial, ⟨fun _ _ _ _ H => H, fun _ => ⟨fun _ _ _ _ H => H, ⟨trivial, ⟨⟨trivial, trivial⟩, ⟨⟨trivial, ⟨trivial, ⟨trivial, ⟨trivial, fun _ _ _ _ _ _ _ H => H, ⟨trivial, fun _ _ _ _ _ H => H, ⟨⟨trivial, trivial⟩, trivial⟩⟩⟩⟩⟩⟩, trivial⟩⟩⟩⟩⟩⟩, ⟨trivial, trivial⟩⟩⟩)
    (Eq.mpr (by as_aux_lemma => kernel_rfl : evF prog f143 (s143_A Ψ) Ψ [(.str name)] h = s143 Ψ name h) H)

/- 158 slices.IndexFunc[[]string,string] -/
abbrev s158l1_T := AVal → AVal → Int → Int → Heap → Prop
def s158l1_R (F : s158l1_T) (l : List AVal) (h : Heap) : Prop := J.cons l fun x0 l => J.cons l fun x1 l => J.cons l fun v l => J.int .i64 v fun x2 => J.cons l fun v l => J.int .i64 v fun x3 => J.nil l (F x0 x1 x2 x3 h)
def s158l1_G (F : s158l1_T) (x0 x1 : AVal) (x2 x3 : Int) (h : Heap) : Prop := gJ [.any, .any, .int .i64, .int .i64] [x0, x1, (.int .i64 x2), (.int .i64 x3)] h (s158l1_R F)
def s158l1_E (F : Nat → s158l1_T) (x0 x1 : AVal) (x2 x3 : Int) (h : Heap) : Prop := gJ [.any, .any, .int .i64, .int .i64] [x0, x1, (.int .i64 x2), (.int .i64 x3)] h (fun l h => ∃ n, s158l1_R (F n) l h)
theorem s158l1_go {F : s158l1_T} {x0 x1 : AVal} {x2 x3 : Int} {h : Heap} (H : F x0 x1 x2 x3 h) : s158l1_G F x0 x1 x2 x3 h := gJ_plain rfl H
theorem s158l1_in {F : Nat → s158l1_T} {x0 x1 : AVal} {x2 x3 : Int} {h : Heap} (n : Nat) (H : F n x0 x1 x2 x3 h) : s158l1_E F x0 x1 x2 x3 h := gJ_plain rfl ⟨n, H⟩

def s158l1 (Ψ : AVal → Heap → Prop) : Nat → s158l1_T
  | 0, _, _, _, _, _ => False
  | n1 + 1, s1, f1, t7, t8, h =>
    ifT (decide (t8 < t7)) (
      ixS 1 s1 t8 fun p =>
      ld1 h p fun v =>
      tStr v fun v1 =>
      callV prog f1 [(.str v1)] h fun v2 h_ =>
      tBool v2 fun v3 =>
      ifT v3 (
        retG (.int .i64 t8) h_ Ψ) (
        rg (t8 + 1) (
          s158l1_G (s158l1 Ψ n1) s1 f1 t7 (t8 + 1) h_))) (
      retG (.int .i64 (-1)) h Ψ)

def s158 (Ψ : AVal → Heap → Prop) (s : AVal) (f : AVal) (h : Heap) : Prop :=
  lenN s fun n =>
  s158l1_E (s158l1 Ψ) s f n 0 h

def s158_A (Ψ : AVal → Heap → Prop) : Ann :=
  .seq (rA 1)
  (.seq (.seq (rA 3)
  (.block (.loop [(0, .any), (1, .any), (7, .int .i64), (8, .int .i64)] (fun n l h => s158l1_R (s158l1 Ψ n) l h) (fun L1 =>
  .seq (rA 1)
  (.seq (.cond (.leaf)
  (.leaf))
  (.seq (.block (.seq (rA 2)
  (.seq (rA 6)
  (.cond (.seq (rA 2)
  (.leaf))
  (.leaf)))))
  (rA 2)))))))
  (.seq (rA 1)
  (.leaf)))

theorem s158_ok {Ψ : AVal → Heap → Prop} {s : AVal} {f : AVal} {h : Heap} (H : s158 Ψ s f h) : ACalls prog 158 [s, f] h Ψ :=
  calls_of_evF func158 (by kernel_rfl) (by kernel_rfl) (by kernel_rfl)
    (Eq.mpr (by as_aux_lemma => kernel_rfl : oblF prog f158 (s158_A Ψ) Ψ = (True ∧ (True ∧ (∀ (h : Heap) (x0 x1 : AVal) (x2 x3 : Int), ON (s158l1 Ψ 0 x0 x1 x2 x3 h)) ∧ ∀ n1 : Nat, (∀ (h : Heap) (x0 x1 : AVal) (x2 x3 : Int), OI (s158l1 Ψ (n1 + 1) x0 x1 x2 x3 h)) ∧ (True ∧ (True ∧ True) ∧ (True ∧ True ∧ (True ∧ True) ∧ True) ∧ True)) ∧ True ∧ True)) ⟨trivial, ⟨⟨trivial, ⟨fun _ _ _ _ _ H => H, fun _ => ⟨fun _ _ _ _ _ H => H, ⟨trivial, ⟨⟨trivial, trivial⟩, ⟨⟨trivial, ⟨trivial, ⟨⟨trivial, trivial⟩, trivial⟩⟩⟩, trivial⟩⟩⟩⟩⟩⟩, ⟨trivial, trivial⟩⟩⟩)
    (Eq.mpr (by as_aux_lemma => kernel_rfl : evF prog f158 (s158_A Ψ) Ψ [s, f] h = s158 Ψ s f h) H)

end Go.Proofs.YtljglglbfcgjpaaGreat

/- The functions that the proof meets, each as a text that Lean has checked against the program. No condition. -/
import Derived.Test.YtljglglbfcgjpaaGreatM3
import Derived.Test.YtljglglbfcgjpaaGreatChecked
namespace Go.Proofs.YtljglglbfcgjpaaGreat
open Go Go.Sym Go.Proofs.Tryz
set_option maxRecDepth 100000
set_option linter.unusedVariables false

/- 6 dictum/heyting.Ups -/
abbrev s6l1_T := AVal → AVal → AVal → AVal → AVal → Int → Int → Heap → Prop
def s6l1_R (F : s6l1_T) (l : List AVal) (h : Heap) : Prop := J.cons l fun x0 l => J.cons l fun x1 l => J.cons l fun x2 l => J.cons l fun x3 l => J.cons l fun x4 l => J.ci .i64 l fun x5 l => J.ci .i64 l fun x6 l => J.nil l (F x0 x1 x2 x3 x4 x5 x6 h)
def s6l1_G (F : s6l1_T) (x0 x1 x2 x3 x4 : AVal) (x5 x6 : Int) (h : Heap) : Prop := gJ [.any, .any, .any, .any, .any, .int .i64, .int .i64] [x0, x1, x2, x3, x4, (.int .i64 x5), (.int .i64 x6)] h (s6l1_R F)
def s6l1_E (F : Nat → s6l1_T) (x0 x1 x2 x3 x4 : AVal) (x5 x6 : Int) (h : Heap) : Prop := gJ [.any, .any, .any, .any, .any, .int .i64, .int .i64] [x0, x1, x2, x3, x4, (.int .i64 x5), (.int .i64 x6)] h (fun l h => ∃ n, s6l1_R (F n) l h)
theorem s6l1_go {F : s6l1_T} {x0 x1 x2 x3 x4 : AVal} {x5 x6 : Int} {h : Heap} (H : F x0 x1 x2 x3 x4 x5 x6 h) : s6l1_G F x0 x1 x2 x3 x4 x5 x6 h := gJ_plain rfl H
theorem s6l1_in {F : Nat → s6l1_T} {x0 x1 x2 x3 x4 : AVal} {x5 x6 : Int} {h : Heap} (n : Nat) (H : F n x0 x1 x2 x3 x4 x5 x6 h) : s6l1_E F x0 x1 x2 x3 x4 x5 x6 h := gJ_plain rfl ⟨n, H⟩

abbrev s6l2_T := AVal → AVal → AVal → AVal → ByteArray → AVal → AVal → Int → Int → Int → Int → Heap → Prop
def s6l2_R (F : s6l2_T) (l : List AVal) (h : Heap) : Prop := J.cons l fun x0 l => J.cons l fun x1 l => J.cons l fun x2 l => J.cons l fun x3 l => J.cs l fun x4 l => J.cons l fun x5 l => J.cons l fun x6 l => J.ci .i64 l fun x7 l => J.ci .i64 l fun x8 l => J.ci .i64 l fun x9 l => J.ci .i64 l fun x10 l => J.nil l (F x0 x1 x2 x3 x4 x5 x6 x7 x8 x9 x10 h)
def s6l2_G (F : s6l2_T) (x0 x1 x2 x3 : AVal) (x4 : ByteArray) (x5 x6 : AVal) (x7 x8 x9 x10 : Int) (h : Heap) : Prop := gJ [.any, .any, .any, .any, .str, .any, .any, .int .i64, .int .i64, .int .i64, .int .i64] [x0, x1, x2, x3, (.str x4), x5, x6, (.int .i64 x7), (.int .i64 x8), (.int .i64 x9), (.int .i64 x10)] h (s6l2_R F)
def s6l2_E (F : Nat → s6l2_T) (x0 x1 x2 x3 : AVal) (x4 : ByteArray) (x5 x6 : AVal) (x7 x8 x9 x10 : Int) (h : Heap) : Prop := gJ [.any, .any, .any, .any, .str, .any, .any, .int .i64, .int .i64, .int .i64, .int .i64] [x0, x1, x2, x3, (.str x4), x5, x6, (.int .i64 x7), (.int .i64 x8), (.int .i64 x9), (.int .i64 x10)] h (fun l h => ∃ n, s6l2_R (F n) l h)
theorem s6l2_go {F : s6l2_T} {x0 x1 x2 x3 : AVal} {x4 : ByteArray} {x5 x6 : AVal} {x7 x8 x9 x10 : Int} {h : Heap} (H : F x0 x1 x2 x3 x4 x5 x6 x7 x8 x9 x10 h) : s6l2_G F x0 x1 x2 x3 x4 x5 x6 x7 x8 x9 x10 h := gJ_plain rfl H
theorem s6l2_in {F : Nat → s6l2_T} {x0 x1 x2 x3 : AVal} {x4 : ByteArray} {x5 x6 : AVal} {x7 x8 x9 x10 : Int} {h : Heap} (n : Nat) (H : F n x0 x1 x2 x3 x4 x5 x6 x7 x8 x9 x10 h) : s6l2_E F x0 x1 x2 x3 x4 x5 x6 x7 x8 x9 x10 h := gJ_plain rfl ⟨n, H⟩

def s6c3 (Ψ : AVal → Heap → Prop) (L1 : s6l1_T) (L2 : s6l2_T) (t2_2 l_7 a2 sets2 : AVal) (x1 : ByteArray) (in_1 t25_2 : AVal) (t26_2 t27_2 t32_1 t33_1 : Int) (h : Heap) : Prop :=
 rg (t33_1 + 1) (
 L2 t2_2 l_7 a2 sets2 x1 in_1 t25_2 t26_2 t27_2 t32_1 (t33_1 + 1) h)

abbrev s6l4_T := AVal → AVal → AVal → AVal → AVal → AVal → AVal → Int → Int → AVal → Int → Int → Heap → Prop
def s6l4_R (F : s6l4_T) (l : List AVal) (h : Heap) : Prop := J.cons l fun x0 l => J.cons l fun x1 l => J.cons l fun x2 l => J.cons l fun x3 l => J.cons l fun x4 l => J.cons l fun x5 l => J.cons l fun x6 l => J.ci .i64 l fun x7 l => J.ci .i64 l fun x8 l => J.cons l fun x9 l => J.ci .i64 l fun x10 l => J.ci .i64 l fun x11 l => J.nil l (F x0 x1 x2 x3 x4 x5 x6 x7 x8 x9 x10 x11 h)
def s6l4_G (F : s6l4_T) (x0 x1 x2 x3 x4 x5 x6 : AVal) (x7 x8 : Int) (x9 : AVal) (x10 x11 : Int) (h : Heap) : Prop := gJ [.any, .any, .any, .any, .any, .any, .any, .int .i64, .int .i64, .any, .int .i64, .int .i64] [x0, x1, x2, x3, x4, x5, x6, (.int .i64 x7), (.int .i64 x8), x9, (.int .i64 x10), (.int .i64 x11)] h (s6l4_R F)
def s6l4_E (F : Nat → s6l4_T) (x0 x1 x2 x3 x4 x5 x6 : AVal) (x7 x8 : Int) (x9 : AVal) (x10 x11 : Int) (h : Heap) : Prop := gJ [.any, .any, .any, .any, .any, .any, .any, .int .i64, .int .i64, .any, .int .i64, .int .i64] [x0, x1, x2, x3, x4, x5, x6, (.int .i64 x7), (.int .i64 x8), x9, (.int .i64 x10), (.int .i64 x11)] h (fun l h => ∃ n, s6l4_R (F n) l h)
theorem s6l4_go {F : s6l4_T} {x0 x1 x2 x3 x4 x5 x6 : AVal} {x7 x8 : Int} {x9 : AVal} {x10 x11 : Int} {h : Heap} (H : F x0 x1 x2 x3 x4 x5 x6 x7 x8 x9 x10 x11 h) : s6l4_G F x0 x1 x2 x3 x4 x5 x6 x7 x8 x9 x10 x11 h := gJ_plain rfl H
theorem s6l4_in {F : Nat → s6l4_T} {x0 x1 x2 x3 x4 x5 x6 : AVal} {x7 x8 : Int} {x9 : AVal} {x10 x11 : Int} {h : Heap} (n : Nat) (H : F n x0 x1 x2 x3 x4 x5 x6 x7 x8 x9 x10 x11 h) : s6l4_E F x0 x1 x2 x3 x4 x5 x6 x7 x8 x9 x10 x11 h := gJ_plain rfl ⟨n, H⟩

def s6l4 (Ψ : AVal → Heap → Prop) (L1 : s6l1_T) : Nat → s6l4_T
 | 0, _, _, _, _, _, _, _, _, _, _, _, _, _ => False
 | n4 + 1, t2_3, l_8, a3, sets3, in_2, row, t25_3, t26_3, t27_3, t45, t46, t47, h =>
 ifT (decide (t47 < t46)) (
 ixS 1 t45 t47 fun p1 =>
 ld1 h p1 fun v8 =>
 tStr v8 fun v9 =>
 callG prog 28 [(.str v9), in_2] h fun v10 h_5 =>
 tStr v10 fun v11 =>
 appC 1 1 h_5 row (.lsl 1 [(.bool (strEq v11 v9))]) fun v12 h_6 =>
 rg (t47 + 1) (
 s6l4_G (s6l4 Ψ L1 n4) t2_3 l_8 a3 sets3 in_2 v12 t25_3 t26_3 t27_3 t45 t46 (t47 + 1) h_6)) (
 chk (sc in_2) (
 appC 1 24 h sets3 (.lsl 1 [in_2]) fun v13 h_7 =>
 addOff a3 0 fun p2 =>
 ld1 h_7 p2 fun v14 =>
 chk (sc row) (
 appC 1 24 h_7 v14 (.lsl 1 [row]) fun v15 h_8 =>
 addOff a3 0 fun p3 =>
 chk (sc v15) (
 st true h_8 p3 [v15] fun h_9 =>
 rg (t27_3 + 1) (
 L1 t2_3 l_8 a3 v13 t25_3 t26_3 (t27_3 + 1) h_9)))))

def s6l2 (Ψ : AVal → Heap → Prop) (L1 : s6l1_T) : Nat → s6l2_T
 | 0, _, _, _, _, _, _, _, _, _, _, _, _ => False
 | n2 + 1, t2_1, l_6, a1, sets1, x, in_, t25_1, t26_1, t27_1, t32, t33, h =>
 ifT (decide (t33 < t32)) (
 ((0 : Int) ≤ t33 ∧ t33 < (x.size : Int)) ∧
 ifT ((btA x t33) == 1) (
 appC 1 8 h in_ (.lsl 1 [(.int .i64 t33)]) fun v7 h_4 =>
 s6c3 Ψ L1 (s6l2_G (s6l2 Ψ L1 n2)) t2_1 l_6 a1 sets1 x v7 t25_1 t26_1 t27_1 t32 t33 h_4) (
 s6c3 Ψ L1 (s6l2_G (s6l2 Ψ L1 n2)) t2_1 l_6 a1 sets1 x in_ t25_1 t26_1 t27_1 t32 t33 h)) (
 lenN l_6 fun n3 =>
 s6l4_E (s6l4 Ψ L1) t2_1 l_6 a1 sets1 in_ .nilsl t25_1 t26_1 t27_1 l_6 n3 0 h)

def s6l1 (Ψ : AVal → Heap → Prop) : Nat → s6l1_T
 | 0, _, _, _, _, _, _, _, _ => False
 | n1 + 1, t2, l_5, a, sets, t25, t26, t27, h =>
 ifT (decide (t27 < t26)) (
 ixS 1 t25 t27 fun p =>
 ld1 h p fun v5 =>
 tStr v5 fun v6 =>
 s6l2_E (s6l2 Ψ (s6l1_G (s6l1 Ψ n1))) t2 l_5 a sets v6 .nilsl t25 t26 t27 (v6.size : Int) 0 h) (
 ldN 1 h a fun l_9 =>
 tCons l_9 fun v16 l_10 =>
 tNil l_10 (
 st false h t2 [v16] fun h_10 =>
 ldN 1 h_10 t2 fun l_11 =>
 tCons l_11 fun v17 l_12 =>
 tNil l_12 (
 retG (.tuple [(.agg [v17]), sets, (.int .i64 0)]) h_10 Ψ)))

def s6 (Ψ : AVal → Heap → Prop) (m_Up : AVal) (m_Val : AVal) (h : Heap) : Prop :=
 Sym.newRow 1 [(.agg [.nilsl])] h fun r h_ =>
 callG prog 27 [(.agg [m_Up, m_Val])] h_ fun v h_1 =>
 tTup v fun l_ =>
 tCons l_ fun v1 l_1 =>
 tCons l_1 fun v2 l_2 =>
 tInt .i64 v2 fun v3 =>
 tNil l_2 (
 ifT (v3 != 0) (
 st false h_1 (.ptr r 0 0) [.nilsl] fun h_2 =>
 ldN 1 h_2 (.ptr r 0 0) fun l_3 =>
 tCons l_3 fun v4 l_4 =>
 tNil l_4 (
 retG (.tuple [(.agg [v4]), .nilsl, (.int .i64 v3)]) h_2 Ψ)) (
 Sym.newRow 1 [(.agg [.nilsl])] h_1 fun r1 h_3 =>
 lenN v1 fun n =>
 s6l1_E (s6l1 Ψ) (.ptr r 0 0) v1 (.ptr r1 0 0) .nilsl v1 n 0 h_3))

def s6_A (Ψ : AVal → Heap → Prop) : Ann :=
 .seq (.reg [⟨none, [(0, true), (1, false), (2, false), (3, false)]⟩])
 (.seq (rA 7)
 (.seq (.seq (rA 2)
 (.cond (.seq (rA 5)
 (.leaf))
 (.leaf)))
 (.seq (rA 1)
 (.seq (rA 1)
 (.seq (.seq (rA 3)
 (.block (.loop [(2, .any), (5, .any), (7, .any), (8, .any), (25, .any), (26, .int .i64), (27, .int .i64)] (fun n l h => s6l1_R (s6l1 Ψ n) l h) (fun L1 =>
 .seq (rA 1)
 (.seq (.cond (.leaf)
 (.leaf))
 (.seq (.block (.seq (rA 3)
 (.seq (rA 1)
 (.seq (.seq (rA 3)
 (.block (.loop [(2, .any), (5, .any), (7, .any), (8, .any), (10, .str), (11, .any), (25, .any), (26, .int .i64), (27, .int .i64), (32, .int .i64), (33, .int .i64)] (fun n l h => s6l2_R (s6l2 Ψ (fun y0 y1 y2 y3 y4 y5 y6 h => L1 [y0, y1, y2, y3, y4, (.int .i64 y5), (.int .i64 y6)] h) n) l h) (fun L2 =>
 .seq (rA 1)
 (.seq (.cond (.leaf)
 (.leaf))
 (.cut [(2, .any), (5, .any), (7, .any), (8, .any), (10, .str), (11, .any), (25, .any), (26, .int .i64), (27, .int .i64), (32, .int .i64), (33, .int .i64)] (fun l h => J.cons l fun x0 l => J.cons l fun x1 l => J.cons l fun x2 l => J.cons l fun x3 l => J.cs l fun x4 l => J.cons l fun x5 l => J.cons l fun x6 l => J.ci .i64 l fun x7 l => J.ci .i64 l fun x8 l => J.ci .i64 l fun x9 l => J.ci .i64 l fun x10 l => J.nil l (s6c3 Ψ (fun y0 y1 y2 y3 y4 y5 y6 h => L1 [y0, y1, y2, y3, y4, (.int .i64 y5), (.int .i64 y6)] h) (fun y0 y1 y2 y3 y4 y5 y6 y7 y8 y9 y10 h => L2 [y0, y1, y2, y3, (.str y4), y5, y6, (.int .i64 y7), (.int .i64 y8), (.int .i64 y9), (.int .i64 y10)] h) x0 x1 x2 x3 x4 x5 x6 x7 x8 x9 x10 h)) (.block (.seq (rA 2)
 (.seq (rA 4)
 (.cond (.reg [⟨none, [(0, false), (1, false), (2, true), (3, false), (4, false)]⟩])
 (.leaf)))))
 (rA 2)))))))
 (.seq (rA 1)
 (.seq (.seq (rA 3)
 (.block (.loop [(2, .any), (5, .any), (7, .any), (8, .any), (11, .any), (13, .any), (25, .any), (26, .int .i64), (27, .int .i64), (45, .any), (46, .int .i64), (47, .int .i64)] (fun n l h => s6l4_R (s6l4 Ψ (fun y0 y1 y2 y3 y4 y5 y6 h => L1 [y0, y1, y2, y3, y4, (.int .i64 y5), (.int .i64 y6)] h) n) l h) (fun L4 =>
 .seq (rA 1)
 (.seq (.cond (.leaf)
 (.leaf))
 (.seq (.block (.seq (rA 3)
 (.reg [⟨none, [(0, false), (1, false), (2, false), (3, false), (4, false), (5, false), (6, true), (7, false), (8, false)]⟩])))
 (rA 2)))))))
 (.seq (.reg [⟨none, [(0, false), (1, false), (2, true), (3, false), (4, false)]⟩])
 (.reg [⟨none, [(0, false), (1, false), (2, false), (3, true), (4, false), (5, false), (6, false)]⟩]))))))))
 (rA 2)))))))
 (.seq (rA 5)
 (.leaf)))))))

theorem s6_ok {Ψ : AVal → Heap → Prop} {m_Up : AVal} {m_Val : AVal} {h : Heap} (H : s6 Ψ m_Up m_Val h) : ACalls prog 6 [(.agg [m_Up, m_Val])] h Ψ :=
 calls_of_evF func6 (by kernel_rfl) (by kernel_rfl) (by kernel_rfl)
 (Eq.mpr (by as_aux_lemma => kernel_rfl : oblF prog f6 (s6_A Ψ) Ψ = ((True) ∧ ((True) ∧ ((otP 13) ∧ ((True) ∧ ((True) ∧ (((True) ∧ ((∀ (h : Heap) (x0 x1 x2 x3 x4 : AVal) (x5 x6 : Int), ON (s6l1 Ψ 0 x0 x1 x2 x3 x4 x5 x6 h)) ∧ (∀ n1 : Nat, (∀ (h : Heap) (x0 x1 x2 x3 x4 : AVal) (x5 x6 : Int), OI (s6l1 Ψ (n1 + 1) x0 x1 x2 x3 x4 x5 x6 h)) ∧ ((True) ∧ ((otP 1) ∧ (((True) ∧ ((True) ∧ (((True) ∧ ((∀ (h : Heap) (x0 x1 x2 x3 : AVal) (x4 : ByteArray) (x5 x6 : AVal) (x7 x8 x9 x10 : Int), ON (s6l2 Ψ (s6l1_G (s6l1 Ψ n1)) 0 x0 x1 x2 x3 x4 x5 x6 x7 x8 x9 x10 h)) ∧ (∀ n2 : Nat, (∀ (h : Heap) (x0 x1 x2 x3 : AVal) (x4 : ByteArray) (x5 x6 : AVal) (x7 x8 x9 x10 : Int), OI (s6l2 Ψ (s6l1_G (s6l1 Ψ n1)) (n2 + 1) x0 x1 x2 x3 x4 x5 x6 x7 x8 x9 x10 h)) ∧ ((True) ∧ ((otP 1) ∧ ((otP 21) ∧ ((∀ (h : Heap) (x0 x1 x2 x3 : AVal) (x4 : ByteArray) (x5 x6 : AVal) (x7 x8 x9 x10 : Int), OI (s6c3 Ψ (s6l1_G (s6l1 Ψ n1)) (s6l2_G (s6l2 Ψ (s6l1_G (s6l1 Ψ n1)) n2)) x0 x1 x2 x3 x4 x5 x6 x7 x8 x9 x10 h)) ∧ (True)))))))) ∧ ((True) ∧ (((True) ∧ ((∀ (h : Heap) (x0 x1 x2 x3 x4 x5 x6 : AVal) (x7 x8 : Int) (x9 : AVal) (x10 x11 : Int), ON (s6l4 Ψ (s6l1_G (s6l1 Ψ n1)) 0 x0 x1 x2 x3 x4 x5 x6 x7 x8 x9 x10 x11 h)) ∧ (∀ n4 : Nat, (∀ (h : Heap) (x0 x1 x2 x3 x4 x5 x6 : AVal) (x7 x8 : Int) (x9 : AVal) (x10 x11 : Int), OI (s6l4 Ψ (s6l1_G (s6l1 Ψ n1)) (n4 + 1) x0 x1 x2 x3 x4 x5 x6 x7 x8 x9 x10 x11 h)) ∧ (otP 205)))) ∧ (otP 1)))))) ∧ (True))))))) ∧ (otP 1)))))))) (⟨trivial, ⟨trivial, ⟨otP_ok 13, ⟨trivial, ⟨trivial, ⟨⟨trivial, ⟨fun _ _ _ _ _ _ _ _ H => H, fun _ => ⟨fun _ _ _ _ _ _ _ _ H => H, ⟨trivial, ⟨otP_ok 1, ⟨⟨trivial, ⟨trivial, ⟨⟨trivial, ⟨fun _ _ _ _ _ _ _ _ _ _ _ _ H => H, fun _ => ⟨fun _ _ _ _ _ _ _ _ _ _ _ _ H => H, ⟨trivial, ⟨otP_ok 1, ⟨otP_ok 21, ⟨fun _ _ _ _ _ _ _ _ _ _ _ _ H => H, trivial⟩⟩⟩⟩⟩⟩⟩, ⟨trivial, ⟨⟨trivial, ⟨fun _ _ _ _ _ _ _ _ _ _ _ _ _ H => H, fun _ => ⟨fun _ _ _ _ _ _ _ _ _ _ _ _ _ H => H, otP_ok 205⟩⟩⟩, otP_ok 1⟩⟩⟩⟩⟩, trivial⟩⟩⟩⟩⟩⟩, otP_ok 1⟩⟩⟩⟩⟩⟩))
 (Eq.mpr (by as_aux_lemma => kernel_rfl : evF prog f6 (s6_A Ψ) Ψ [(.agg [m_Up, m_Val])] h = s6 Ψ m_Up m_Val h) H)

/- 10 dictum/heyting.Atoms -/
abbrev s10l1_T := AVal → AVal → AVal → AVal → Int → Int → Heap → Prop
def s10l1_R (F : s10l1_T) (l : List AVal) (h : Heap) : Prop := J.cons l fun x0 l => J.cons l fun x1 l => J.cons l fun x2 l => J.cons l fun x3 l => J.ci .i64 l fun x4 l => J.ci .i64 l fun x5 l => J.nil l (F x0 x1 x2 x3 x4 x5 h)
def s10l1_G (F : s10l1_T) (x0 x1 x2 x3 : AVal) (x4 x5 : Int) (h : Heap) : Prop := gJ [.any, .any, .any, .any, .int .i64, .int .i64] [x0, x1, x2, x3, (.int .i64 x4), (.int .i64 x5)] h (s10l1_R F)
def s10l1_E (F : Nat → s10l1_T) (x0 x1 x2 x3 : AVal) (x4 x5 : Int) (h : Heap) : Prop := gJ [.any, .any, .any, .any, .int .i64, .int .i64] [x0, x1, x2, x3, (.int .i64 x4), (.int .i64 x5)] h (fun l h => ∃ n, s10l1_R (F n) l h)
theorem s10l1_go {F : s10l1_T} {x0 x1 x2 x3 : AVal} {x4 x5 : Int} {h : Heap} (H : F x0 x1 x2 x3 x4 x5 h) : s10l1_G F x0 x1 x2 x3 x4 x5 h := gJ_plain rfl H
theorem s10l1_in {F : Nat → s10l1_T} {x0 x1 x2 x3 : AVal} {x4 x5 : Int} {h : Heap} (n : Nat) (H : F n x0 x1 x2 x3 x4 x5 h) : s10l1_E F x0 x1 x2 x3 x4 x5 h := gJ_plain rfl ⟨n, H⟩

abbrev s10l2_T := AVal → AVal → AVal → Int → AVal → Int → Int → AVal → Int → Int → Heap → Prop
def s10l2_R (F : s10l2_T) (l : List AVal) (h : Heap) : Prop := J.cons l fun x0 l => J.cons l fun x1 l => J.cons l fun x2 l => J.ci .i64 l fun x3 l => J.cons l fun x4 l => J.ci .i64 l fun x5 l => J.ci .i64 l fun x6 l => J.cons l fun x7 l => J.ci .i64 l fun x8 l => J.ci .i64 l fun x9 l => J.nil l (F x0 x1 x2 x3 x4 x5 x6 x7 x8 x9 h)
def s10l2_G (F : s10l2_T) (x0 x1 x2 : AVal) (x3 : Int) (x4 : AVal) (x5 x6 : Int) (x7 : AVal) (x8 x9 : Int) (h : Heap) : Prop := gJ [.any, .any, .any, .int .i64, .any, .int .i64, .int .i64, .any, .int .i64, .int .i64] [x0, x1, x2, (.int .i64 x3), x4, (.int .i64 x5), (.int .i64 x6), x7, (.int .i64 x8), (.int .i64 x9)] h (s10l2_R F)
def s10l2_E (F : Nat → s10l2_T) (x0 x1 x2 : AVal) (x3 : Int) (x4 : AVal) (x5 x6 : Int) (x7 : AVal) (x8 x9 : Int) (h : Heap) : Prop := gJ [.any, .any, .any, .int .i64, .any, .int .i64, .int .i64, .any, .int .i64, .int .i64] [x0, x1, x2, (.int .i64 x3), x4, (.int .i64 x5), (.int .i64 x6), x7, (.int .i64 x8), (.int .i64 x9)] h (fun l h => ∃ n, s10l2_R (F n) l h)
theorem s10l2_go {F : s10l2_T} {x0 x1 x2 : AVal} {x3 : Int} {x4 : AVal} {x5 x6 : Int} {x7 : AVal} {x8 x9 : Int} {h : Heap} (H : F x0 x1 x2 x3 x4 x5 x6 x7 x8 x9 h) : s10l2_G F x0 x1 x2 x3 x4 x5 x6 x7 x8 x9 h := gJ_plain rfl H
theorem s10l2_in {F : Nat → s10l2_T} {x0 x1 x2 : AVal} {x3 : Int} {x4 : AVal} {x5 x6 : Int} {x7 : AVal} {x8 x9 : Int} {h : Heap} (n : Nat) (H : F n x0 x1 x2 x3 x4 x5 x6 x7 x8 x9 h) : s10l2_E F x0 x1 x2 x3 x4 x5 x6 x7 x8 x9 h := gJ_plain rfl ⟨n, H⟩

def s10l2 (Ψ : AVal → Heap → Prop) (L1 : s10l1_T) : Nat → s10l2_T
 | 0, _, _, _, _, _, _, _, _, _, _, _ => False
 | n3 + 1, m1, l_4, on1, w, t26_1, t27_1, t28_1, t33, t34, t35, h =>
 ifT (decide (t35 < t34)) (
 ixS 1 t33 t35 fun p1 =>
 ld1 h p1 fun v5 =>
 tStr v5 fun v6 =>
 mapGet .nilsl h on1 (.str v6) fun v7 b =>
 appC 1 8 h v7 (.lsl 1 [(.int .i64 w)]) fun v8 h_2 =>
 mapPut h_2 on1 (.str v6) v8 fun h_3 =>
 rg (t35 + 1) (
 s10l2_G (s10l2 Ψ L1 n3) m1 l_4 on1 w t26_1 t27_1 t28_1 t33 t34 (t35 + 1) h_3)) (
 rg (t28_1 + 1) (
 L1 m1 l_4 on1 t26_1 t27_1 (t28_1 + 1) h))

abbrev s10l3_T := AVal → AVal → AVal → AVal → AVal → Heap → Prop
def s10l3_R (F : s10l3_T) (l : List AVal) (h : Heap) : Prop := J.cons l fun x0 l => J.cons l fun x1 l => J.cons l fun x2 l => J.cons l fun x3 l => J.cons l fun x4 l => J.nil l (F x0 x1 x2 x3 x4 h)
def s10l3_G (F : s10l3_T) (x0 x1 x2 x3 x4 : AVal) (h : Heap) : Prop := gJ [.any, .any, .any, .any, .any] [x0, x1, x2, x3, x4] h (s10l3_R F)
def s10l3_E (F : Nat → s10l3_T) (x0 x1 x2 x3 x4 : AVal) (h : Heap) : Prop := gJ [.any, .any, .any, .any, .any] [x0, x1, x2, x3, x4] h (fun l h => ∃ n, s10l3_R (F n) l h)
theorem s10l3_go {F : s10l3_T} {x0 x1 x2 x3 x4 : AVal} {h : Heap} (H : F x0 x1 x2 x3 x4 h) : s10l3_G F x0 x1 x2 x3 x4 h := gJ_plain rfl H
theorem s10l3_in {F : Nat → s10l3_T} {x0 x1 x2 x3 x4 : AVal} {h : Heap} (n : Nat) (H : F n x0 x1 x2 x3 x4 h) : s10l3_E F x0 x1 x2 x3 x4 h := gJ_plain rfl ⟨n, H⟩

abbrev s10l4_T := AVal → AVal → AVal → AVal → AVal → Int → Int → Heap → Prop
def s10l4_R (F : s10l4_T) (l : List AVal) (h : Heap) : Prop := J.cons l fun x0 l => J.cons l fun x1 l => J.cons l fun x2 l => J.cons l fun x3 l => J.cons l fun x4 l => J.ci .i64 l fun x5 l => J.ci .i64 l fun x6 l => J.nil l (F x0 x1 x2 x3 x4 x5 x6 h)
def s10l4_G (F : s10l4_T) (x0 x1 x2 x3 x4 : AVal) (x5 x6 : Int) (h : Heap) : Prop := gJ [.any, .any, .any, .any, .any, .int .i64, .int .i64] [x0, x1, x2, x3, x4, (.int .i64 x5), (.int .i64 x6)] h (s10l4_R F)
def s10l4_E (F : Nat → s10l4_T) (x0 x1 x2 x3 x4 : AVal) (x5 x6 : Int) (h : Heap) : Prop := gJ [.any, .any, .any, .any, .any, .int .i64, .int .i64] [x0, x1, x2, x3, x4, (.int .i64 x5), (.int .i64 x6)] h (fun l h => ∃ n, s10l4_R (F n) l h)
theorem s10l4_go {F : s10l4_T} {x0 x1 x2 x3 x4 : AVal} {x5 x6 : Int} {h : Heap} (H : F x0 x1 x2 x3 x4 x5 x6 h) : s10l4_G F x0 x1 x2 x3 x4 x5 x6 h := gJ_plain rfl H
theorem s10l4_in {F : Nat → s10l4_T} {x0 x1 x2 x3 x4 : AVal} {x5 x6 : Int} {h : Heap} (n : Nat) (H : F n x0 x1 x2 x3 x4 x5 x6 h) : s10l4_E F x0 x1 x2 x3 x4 x5 x6 h := gJ_plain rfl ⟨n, H⟩

def s10l4 (Ψ : AVal → Heap → Prop) : Nat → s10l4_T
 | 0, _, _, _, _, _, _, _, _ => False
 | n7 + 1, m3, l_6, on3, out, t61, t62, t63, h =>
 ifT (decide (t63 < t62)) (
 ixS 1 t61 t63 fun p2 =>
 ld1 h p2 fun v18 =>
 tStr v18 fun v19 =>
 addOff m3 0 fun p3 =>
 ld1 h p3 fun v20 =>
 lenN v20 fun n8 =>
 mapGet .nilsl h on3 (.str v19) fun v21 b1 =>
 mkS false 1 1 (.int .u8 0) h n8 n8 fun v22 h_8 =>
 (mapGet .nilsl h_8 on3 (.str v19) fun v23 b2 =>
 v23 = v21) ∧
 bStr h_8 v22 fun s =>
 callG prog 28 [(.str s), v21] h_8 fun v24 h_9 =>
 tStr v24 fun v25 =>
 callG prog 32 [l_6, (.str v25)] h_9 fun v26 h_10 =>
 tInt .i64 v26 fun v27 =>
 appC 2 24 h_10 out (.lsl 2 [(.agg [(.str v19), (.int .i64 v27)])]) fun v28 h_11 =>
 rg (t63 + 1) (
 s10l4_G (s10l4 Ψ n7) m3 l_6 on3 v28 t61 t62 (t63 + 1) h_11)) (
 retG (.tuple [out, (.int .i64 0)]) h Ψ)

def s10l3 (Ψ : AVal → Heap → Prop) : Nat → s10l3_T
 | 0, _, _, _, _, _, _ => False
 | n5 + 1, m2, l_5, on2, names, t50, h =>
 nextM h t50 fun v10 h_5 =>
 extractA v10 0 fun v11 =>
 tBool v11 fun v12 =>
 ifT v12 (
 entryA h_5 t50 fun v13 =>
 extractA v13 0 fun v14 =>
 tStr v14 fun v15 =>
 appC 1 16 h_5 names (.lsl 1 [(.str v15)]) fun v16 h_6 =>
 s10l3_G (s10l3 Ψ n5) m2 l_5 on2 v16 t50 h_6) (
 callG prog 31 [names] h_5 fun v17 h_7 =>
 lenN names fun n6 =>
 s10l4_E (s10l4 Ψ) m2 l_5 on2 .nilsl names n6 0 h_7)

def s10l1 (Ψ : AVal → Heap → Prop) : Nat → s10l1_T
 | 0, _, _, _, _, _, _, _ => False
 | n1 + 1, m, l_3, on, t26, t27, t28, h =>
 ifT (decide (t28 < t27)) (
 ixS 1 t26 t28 fun p =>
 ld1 h p fun v4 =>
 lenN v4 fun n2 =>
 s10l2_E (s10l2 Ψ (s10l1_G (s10l1 Ψ n1))) m l_3 on t28 t26 t27 t28 v4 n2 0 h) (
 rangeM h on fun v9 h_4 =>
 s10l3_E (s10l3 Ψ) m l_3 on .nilsl v9 h_4)

def s10 (Ψ : AVal → Heap → Prop) (m_Up : AVal) (m_Val : AVal) (h : Heap) : Prop :=
 callG prog 27 [(.agg [m_Up, m_Val])] h fun v h_ =>
 tTup v fun l_ =>
 tCons l_ fun v1 l_1 =>
 tCons l_1 fun v2 l_2 =>
 tInt .i64 v2 fun v3 =>
 tNil l_2 (
 ifT (v3 != 0) (
 retG (.tuple [.nilsl, (.int .i64 v3)]) h_ Ψ) (
 newMap h_ fun r h_1 =>
 lenN m_Val fun n =>
 s10l1_E (s10l1 Ψ) (.lptr [m_Up, m_Val]) v1 (.mapr r) m_Val n 0 h_1))

def s10_A (Ψ : AVal → Heap → Prop) : Ann :=
 .seq (.reg [⟨none, [(0, true), (1, false), (2, false)]⟩])
 (.seq (rA 7)
 (.seq (.seq (rA 2)
 (.cond (.seq (rA 3)
 (.leaf))
 (.leaf)))
 (.seq (rA 2)
 (.seq (.seq (rA 4)
 (.block (.loop [(1, .any), (4, .any), (6, .any), (26, .any), (27, .int .i64), (28, .int .i64)] (fun n l h => s10l1_R (s10l1 Ψ n) l h) (fun L1 =>
 .seq (rA 1)
 (.seq (.cond (.leaf)
 (.leaf))
 (.seq (.block (.seq (rA 5)
 (.seq (rA 3)
 (.block (.loop [(1, .any), (4, .any), (6, .any), (7, .int .i64), (26, .any), (27, .int .i64), (28, .int .i64), (33, .any), (34, .int .i64), (35, .int .i64)] (fun n l h => s10l2_R (s10l2 Ψ (fun y0 y1 y2 y3 y4 y5 h => L1 [y0, y1, y2, y3, (.int .i64 y4), (.int .i64 y5)] h) n) l h) (fun L2 =>
 .seq (rA 1)
 (.seq (.cond (.leaf)
 (.leaf))
 (.seq (.block (.seq (rA 3)
 (.reg [⟨none, [(0, false), (1, false), (2, false), (3, false), (4, false), (5, false), (6, true), (7, false), (8, false)]⟩])))
 (rA 2)))))))))
 (rA 2)))))))
 (.seq (rA 1)
 (.seq (.seq (rA 2)
 (.block (.loop [(1, .any), (4, .any), (6, .any), (11, .any), (50, .any)] (fun n l h => s10l3_R (s10l3 Ψ n) l h) (fun L3 =>
 .seq (rA 2)
 (.seq (.cond (.leaf)
 (.leaf))
 (.block (.seq (rA 3)
 (.reg [⟨none, [(0, false), (1, false), (2, true), (3, false), (4, false)]⟩]))))))))
 (.seq (rA 2)
 (.seq (rA 1)
 (.seq (.seq (rA 3)
 (.block (.loop [(1, .any), (4, .any), (6, .any), (13, .any), (61, .any), (62, .int .i64), (63, .int .i64)] (fun n l h => s10l4_R (s10l4 Ψ n) l h) (fun L4 =>
 .seq (rA 1)
 (.seq (.cond (.leaf)
 (.leaf))
 (.seq (.block (.seq (rA 3)
 (.draw [(0, false), (1, false), (2, false), (3, false), (4, false), (5, false), (8, false), (9, false), (10, false), (6, false), (7, false), (11, false), (12, false), (13, false), (14, true), (15, false), (16, false)] [0, 0, 0, 0, 8, 24, 56, 120, 0, 0, 768, 2040, 4092, 8190, 16382, 32767, 65535])))
 (rA 2)))))))
 (.seq (rA 3)
 (.leaf)))))))))))

theorem s10_ok {Ψ : AVal → Heap → Prop} {m_Up : AVal} {m_Val : AVal} {h : Heap} (H : s10 Ψ m_Up m_Val h) : ACalls prog 10 [(.agg [m_Up, m_Val])] h Ψ :=
 calls_of_evF func10 (by kernel_rfl) (by kernel_rfl) (by kernel_rfl)
 (Eq.mpr (by as_aux_lemma => kernel_rfl : oblF prog f10 (s10_A Ψ) Ψ = ((True) ∧ ((True) ∧ ((otP 13) ∧ ((True) ∧ (((True) ∧ ((∀ (h : Heap) (x0 x1 x2 x3 : AVal) (x4 x5 : Int), ON (s10l1 Ψ 0 x0 x1 x2 x3 x4 x5 h)) ∧ (∀ n1 : Nat, (∀ (h : Heap) (x0 x1 x2 x3 : AVal) (x4 x5 : Int), OI (s10l1 Ψ (n1 + 1) x0 x1 x2 x3 x4 x5 h)) ∧ ((True) ∧ ((otP 1) ∧ (((True) ∧ ((True) ∧ ((∀ (h : Heap) (x0 x1 x2 : AVal) (x3 : Int) (x4 : AVal) (x5 x6 : Int) (x7 : AVal) (x8 x9 : Int), ON (s10l2 Ψ (s10l1_G (s10l1 Ψ n1)) 0 x0 x1 x2 x3 x4 x5 x6 x7 x8 x9 h)) ∧ (∀ n2 : Nat, (∀ (h : Heap) (x0 x1 x2 : AVal) (x3 : Int) (x4 : AVal) (x5 x6 : Int) (x7 : AVal) (x8 x9 : Int), OI (s10l2 Ψ (s10l1_G (s10l1 Ψ n1)) (n2 + 1) x0 x1 x2 x3 x4 x5 x6 x7 x8 x9 h)) ∧ (otP 205))))) ∧ (True))))))) ∧ ((True) ∧ (((True) ∧ ((∀ (h : Heap) (x0 x1 x2 x3 x4 : AVal), ON (s10l3 Ψ 0 x0 x1 x2 x3 x4 h)) ∧ (∀ n3 : Nat, (∀ (h : Heap) (x0 x1 x2 x3 x4 : AVal), OI (s10l3 Ψ (n3 + 1) x0 x1 x2 x3 x4 h)) ∧ (otP 77)))) ∧ ((True) ∧ ((True) ∧ (((True) ∧ ((∀ (h : Heap) (x0 x1 x2 x3 x4 : AVal) (x5 x6 : Int), ON (s10l4 Ψ 0 x0 x1 x2 x3 x4 x5 x6 h)) ∧ (∀ n4 : Nat, (∀ (h : Heap) (x0 x1 x2 x3 x4 : AVal) (x5 x6 : Int), OI (s10l4 Ψ (n4 + 1) x0 x1 x2 x3 x4 x5 x6 h)) ∧ (otP 205)))) ∧ (otP 1)))))))))))) (⟨trivial, ⟨trivial, ⟨otP_ok 13, ⟨trivial, ⟨⟨trivial, ⟨fun _ _ _ _ _ _ _ H => H, fun _ => ⟨fun _ _ _ _ _ _ _ H => H, ⟨trivial, ⟨otP_ok 1, ⟨⟨trivial, ⟨trivial, ⟨fun _ _ _ _ _ _ _ _ _ _ _ H => H, fun _ => ⟨fun _ _ _ _ _ _ _ _ _ _ _ H => H, otP_ok 205⟩⟩⟩⟩, trivial⟩⟩⟩⟩⟩⟩, ⟨trivial, ⟨⟨trivial, ⟨fun _ _ _ _ _ _ H => H, fun _ => ⟨fun _ _ _ _ _ _ H => H, otP_ok 77⟩⟩⟩, ⟨trivial, ⟨trivial, ⟨⟨trivial, ⟨fun _ _ _ _ _ _ _ _ H => H, fun _ => ⟨fun _ _ _ _ _ _ _ _ H => H, otP_ok 205⟩⟩⟩, otP_ok 1⟩⟩⟩⟩⟩⟩⟩⟩⟩⟩))
 (Eq.mpr (by as_aux_lemma => kernel_rfl : evF prog f10 (s10_A Ψ) Ψ [(.agg [m_Up, m_Val])] h = s10 Ψ m_Up m_Val h) H)

/- 15 dictum/heyting.Chain -/
abbrev s15l2_T := Int → AVal → AVal → Int → Int → Heap → Prop
def s15l2_R (F : s15l2_T) (l : List AVal) (h : Heap) : Prop := J.ci .i64 l fun x0 l => J.cons l fun x1 l => J.cons l fun x2 l => J.ci .i64 l fun x3 l => J.ci .i64 l fun x4 l => J.nil l (F x0 x1 x2 x3 x4 h)
def s15l2_G (F : s15l2_T) (x0 : Int) (x1 x2 : AVal) (x3 x4 : Int) (h : Heap) : Prop := gJ [.int .i64, .any, .any, .int .i64, .int .i64] [(.int .i64 x0), x1, x2, (.int .i64 x3), (.int .i64 x4)] h (s15l2_R F)
def s15l2_E (F : Nat → s15l2_T) (x0 : Int) (x1 x2 : AVal) (x3 x4 : Int) (h : Heap) : Prop := gJ [.int .i64, .any, .any, .int .i64, .int .i64] [(.int .i64 x0), x1, x2, (.int .i64 x3), (.int .i64 x4)] h (fun l h => ∃ n, s15l2_R (F n) l h)
theorem s15l2_go {F : s15l2_T} {x0 : Int} {x1 x2 : AVal} {x3 x4 : Int} {h : Heap} (H : F x0 x1 x2 x3 x4 h) : s15l2_G F x0 x1 x2 x3 x4 h := gJ_plain rfl H
theorem s15l2_in {F : Nat → s15l2_T} {x0 : Int} {x1 x2 : AVal} {x3 x4 : Int} {h : Heap} (n : Nat) (H : F n x0 x1 x2 x3 x4 h) : s15l2_E F x0 x1 x2 x3 x4 h := gJ_plain rfl ⟨n, H⟩

abbrev s15l3_T := Int → AVal → AVal → AVal → Int → Int → Int → Heap → Prop
def s15l3_R (F : s15l3_T) (l : List AVal) (h : Heap) : Prop := J.ci .i64 l fun x0 l => J.cons l fun x1 l => J.cons l fun x2 l => J.cons l fun x3 l => J.ci .i64 l fun x4 l => J.ci .i64 l fun x5 l => J.ci .i64 l fun x6 l => J.nil l (F x0 x1 x2 x3 x4 x5 x6 h)
def s15l3_G (F : s15l3_T) (x0 : Int) (x1 x2 x3 : AVal) (x4 x5 x6 : Int) (h : Heap) : Prop := gJ [.int .i64, .any, .any, .any, .int .i64, .int .i64, .int .i64] [(.int .i64 x0), x1, x2, x3, (.int .i64 x4), (.int .i64 x5), (.int .i64 x6)] h (s15l3_R F)
def s15l3_E (F : Nat → s15l3_T) (x0 : Int) (x1 x2 x3 : AVal) (x4 x5 x6 : Int) (h : Heap) : Prop := gJ [.int .i64, .any, .any, .any, .int .i64, .int .i64, .int .i64] [(.int .i64 x0), x1, x2, x3, (.int .i64 x4), (.int .i64 x5), (.int .i64 x6)] h (fun l h => ∃ n, s15l3_R (F n) l h)
theorem s15l3_go {F : s15l3_T} {x0 : Int} {x1 x2 x3 : AVal} {x4 x5 x6 : Int} {h : Heap} (H : F x0 x1 x2 x3 x4 x5 x6 h) : s15l3_G F x0 x1 x2 x3 x4 x5 x6 h := gJ_plain rfl H
theorem s15l3_in {F : Nat → s15l3_T} {x0 : Int} {x1 x2 x3 : AVal} {x4 x5 x6 : Int} {h : Heap} (n : Nat) (H : F n x0 x1 x2 x3 x4 x5 x6 h) : s15l3_E F x0 x1 x2 x3 x4 x5 x6 h := gJ_plain rfl ⟨n, H⟩

def s15l3 (Ψ : AVal → Heap → Prop) (L2 : s15l2_T) : Nat → s15l3_T
 | 0, _, _, _, _, _, _, _, _ => False
 | n5 + 1, n4, t2_2, a1, row, y, t15_1, t16_1, h =>
 ifT (decide (y < n4)) (
 ixS 1 row y fun p =>
 st true h p [(.bool true)] fun h_4 =>
 rg (y + 1) (
 s15l3_G (s15l3 Ψ L2 n5) n4 t2_2 a1 row (y + 1) t15_1 t16_1 h_4)) (
 addOff a1 0 fun p1 =>
 ld1 h p1 fun v2 =>
 chk (sc row) (
 appC 1 24 h v2 (.lsl 1 [row]) fun v3 h_5 =>
 addOff a1 0 fun p2 =>
 chk (sc v3) (
 st true h_5 p2 [v3] fun h_6 =>
 rg (t16_1 + 1) (
 L2 n4 t2_2 a1 t15_1 (t16_1 + 1) h_6))))

def s15l2 (Ψ : AVal → Heap → Prop) : Nat → s15l2_T
 | 0, _, _, _, _, _, _ => False
 | n3 + 1, n2, t2_1, a, t15, t16, h =>
 ifT (decide (t16 < t15)) (
 mkS false 1 1 (.bool false) h n2 n2 fun v1 h_3 =>
 s15l3_E (s15l3 Ψ (s15l2_G (s15l2 Ψ n3))) n2 t2_1 a v1 t16 t15 t16 h_3) (
 ldN 1 h a fun l_2 =>
 tCons l_2 fun v4 l_3 =>
 tNil l_3 (
 st false h t2_1 [v4] fun h_7 =>
 ldN 1 h_7 t2_1 fun l_4 =>
 tCons l_4 fun v5 l_5 =>
 tNil l_5 (
 retG (.tuple [(.agg [v5]), (.int .i64 0)]) h_7 Ψ)))

def s15c1 (Ψ : AVal → Heap → Prop) (n1 : Int) (t2 : AVal) (t13 : Bool) (h : Heap) : Prop :=
 ifT t13 (
 st false h t2 [.nilsl] fun h_1 =>
 ldN 1 h_1 t2 fun l_ =>
 tCons l_ fun v l_1 =>
 tNil l_1 (
 retG (.tuple [(.agg [v]), (.int .i64 2)]) h_1 Ψ)) (
 Sym.newRow 1 [(.agg [.nilsl])] h fun r1 h_2 =>
 s15l2_E (s15l2 Ψ) n1 t2 (.ptr r1 0 0) n1 0 h_2)

def s15 (Ψ : AVal → Heap → Prop) (n : Int) (h : Heap) : Prop :=
 Sym.newRow 1 [(.agg [.nilsl])] h fun r h_ =>
 ifT (decide (n < 1)) (
 s15c1 Ψ n (.ptr r 0 0) true h_) (
 s15c1 Ψ n (.ptr r 0 0) (decide (64 < n)) h_)

def s15_A (Ψ : AVal → Heap → Prop) : Ann :=
 .seq (rA 2)
 (.seq (.cut [(0, .int .i64), (2, .any), (13, .bool)] (fun l h => J.ci .i64 l fun x0 l => J.cons l fun x1 l => J.cb l fun x2 l => J.nil l (s15c1 Ψ x0 x1 x2 h)) (.reg [⟨none, [(0, false), (1, false), (2, false)]⟩, ⟨some (10, false), [(3, false), (4, false)]⟩, ⟨none, [(5, false)]⟩])
 (.cond (.seq (rA 3)
 (.leaf))
 (.leaf)))
 (.seq (rA 1)
 (.seq (.seq (rA 2)
 (.block (.loop [(0, .int .i64), (2, .any), (4, .any), (15, .int .i64), (16, .int .i64)] (fun n l h => s15l2_R (s15l2 Ψ n) l h) (fun L2 =>
 .seq (rA 1)
 (.seq (.cond (.leaf)
 (.leaf))
 (.seq (.block (.seq (rA 2)
 (.seq (rA 3)
 (.seq (.seq (rA 2)
 (.block (.loop [(0, .int .i64), (2, .any), (4, .any), (6, .any), (7, .int .i64), (15, .int .i64), (16, .int .i64)] (fun n l h => s15l3_R (s15l3 Ψ (fun y0 y1 y2 y3 y4 h => L2 [(.int .i64 y0), y1, y2, (.int .i64 y3), (.int .i64 y4)] h) n) l h) (fun L3 =>
 .seq (.seq (rA 3)
 (.cond (.leaf)
 (.leaf)))
 (.seq (.block (rA 4))
 (rA 3))))))
 (.reg [⟨none, [(0, false), (1, false), (2, false), (3, true), (4, false), (5, false), (6, false)]⟩])))))
 (rA 2)))))))
 (.seq (rA 3)
 (.leaf)))))

theorem s15_ok {Ψ : AVal → Heap → Prop} {n : Int} {h : Heap} (H : s15 Ψ n h) : ACalls prog 15 [(.int .i64 n)] h Ψ :=
 calls_of_evF func15 (by kernel_rfl) (by kernel_rfl) (by kernel_rfl)
 (Eq.mpr (by as_aux_lemma => kernel_rfl : oblF prog f15 (s15_A Ψ) Ψ = ((True) ∧ (((True) ∧ ((∀ (h : Heap) (x0 : Int) (x1 : AVal) (x2 : Bool), OI (s15c1 Ψ x0 x1 x2 h)) ∧ (otP 3))) ∧ ((True) ∧ (((True) ∧ ((∀ (h : Heap) (x0 : Int) (x1 x2 : AVal) (x3 x4 : Int), ON (s15l2 Ψ 0 x0 x1 x2 x3 x4 h)) ∧ (∀ n2 : Nat, (∀ (h : Heap) (x0 : Int) (x1 x2 : AVal) (x3 x4 : Int), OI (s15l2 Ψ (n2 + 1) x0 x1 x2 x3 x4 h)) ∧ ((True) ∧ ((otP 1) ∧ (((True) ∧ ((True) ∧ (((True) ∧ ((∀ (h : Heap) (x0 : Int) (x1 x2 x3 : AVal) (x4 x5 x6 : Int), ON (s15l3 Ψ (s15l2_G (s15l2 Ψ n2)) 0 x0 x1 x2 x3 x4 x5 x6 h)) ∧ (∀ n3 : Nat, (∀ (h : Heap) (x0 : Int) (x1 x2 x3 : AVal) (x4 x5 x6 : Int), OI (s15l3 Ψ (s15l2_G (s15l2 Ψ n2)) (n3 + 1) x0 x1 x2 x3 x4 x5 x6 h)) ∧ (otP 75)))) ∧ (True)))) ∧ (True))))))) ∧ (otP 1)))))) (⟨trivial, ⟨⟨trivial, ⟨fun _ _ _ _ H => H, otP_ok 3⟩⟩, ⟨trivial, ⟨⟨trivial, ⟨fun _ _ _ _ _ _ H => H, fun _ => ⟨fun _ _ _ _ _ _ H => H, ⟨trivial, ⟨otP_ok 1, ⟨⟨trivial, ⟨trivial, ⟨⟨trivial, ⟨fun _ _ _ _ _ _ _ _ H => H, fun _ => ⟨fun _ _ _ _ _ _ _ _ H => H, otP_ok 75⟩⟩⟩, trivial⟩⟩⟩, trivial⟩⟩⟩⟩⟩⟩, otP_ok 1⟩⟩⟩⟩))
 (Eq.mpr (by as_aux_lemma => kernel_rfl : evF prog f15 (s15_A Ψ) Ψ [(.int .i64 n)] h = s15 Ψ n h) H)

/- 19 dictum/dictumlaw23.heads -/
def s19 (Ψ : AVal → Heap → Prop) (h : Heap) : Prop :=
 callG prog 15 [(.int .i64 3)] h fun v h_ =>
 tTup v fun l_ =>
 tCons l_ fun v1 l_1 =>
 tCons l_1 fun v2 l_2 =>
 tInt .i64 v2 fun v3 =>
 tNil l_2 (
 tAgg v1 fun l_3 =>
 tCons l_3 fun v4 l_4 =>
 tNil l_4 (
 Sym.newRow 1 [(.agg [.nilsl])] h_ fun r h_1 =>
 st false h_1 (.ptr r 0 0) [v4] fun h_2 =>
 callG prog 15 [(.int .i64 2)] h_2 fun v5 h_3 =>
 tTup v5 fun l_5 =>
 tCons l_5 fun v6 l_6 =>
 tCons l_6 fun v7 l_7 =>
 tInt .i64 v7 fun v8 =>
 tNil l_7 (
 tAgg v6 fun l_8 =>
 tCons l_8 fun v9 l_9 =>
 tNil l_9 (
 Sym.newRow 1 [(.agg [.nilsl])] h_3 fun r1 h_4 =>
 st false h_4 (.ptr r1 0 0) [v9] fun h_5 =>
 ldN 1 h_5 (.ptr r 0 0) fun l_10 =>
 tCons l_10 fun v10 l_11 =>
 tNil l_11 (
 callG prog 43 [(.agg [v10]), (.int .i64 1), (.int .i64 0)] h_5 fun v11 h_6 =>
 tTup v11 fun l_12 =>
 tCons l_12 fun v12 l_13 =>
 tInt .i64 v12 fun v13 =>
 tCons l_13 fun v14 l_14 =>
 tInt .i64 v14 fun v15 =>
 tNil l_14 (
 ldN 1 h_6 (.ptr r 0 0) fun l_15 =>
 tCons l_15 fun v16 l_16 =>
 tNil l_16 (
 callG prog 43 [(.agg [v16]), (.int .i64 0), (.int .i64 1)] h_6 fun v17 h_7 =>
 tTup v17 fun l_17 =>
 tCons l_17 fun v18 l_18 =>
 tInt .i64 v18 fun v19 =>
 tCons l_18 fun v20 l_19 =>
 tInt .i64 v20 fun v21 =>
 tNil l_19 (
 ldN 1 h_7 (.ptr r 0 0) fun l_20 =>
 tCons l_20 fun v22 l_21 =>
 tNil l_21 (
 callG prog 44 [(.agg [v22])] h_7 fun v23 h_8 =>
 tTup v23 fun l_22 =>
 tCons l_22 fun v24 l_23 =>
 tBool v24 fun v25 =>
 tCons l_23 fun v26 l_24 =>
 tInt .i64 v26 fun v27 =>
 tNil l_24 (
 ldN 1 h_8 (.ptr r1 0 0) fun l_25 =>
 tCons l_25 fun v28 l_26 =>
 tNil l_26 (
 callG prog 44 [(.agg [v28])] h_8 fun v29 h_9 =>
 tTup v29 fun l_27 =>
 tCons l_27 fun v30 l_28 =>
 tBool v30 fun v31 =>
 tCons l_28 fun v32 l_29 =>
 tInt .i64 v32 fun v33 =>
 tNil l_29 (
 callG prog 6 [(.agg [(.lsl 1 [(.lsl 1 [(.int .i64 1)]), .nilsl]), (.lsl 1 [.nilsl, .nilsl])])] h_9 fun v34 h_10 =>
 tTup v34 fun l_30 =>
 tCons l_30 fun v35 l_31 =>
 tCons l_31 fun v36 l_32 =>
 tCons l_32 fun v37 l_33 =>
 tInt .i64 v37 fun v38 =>
 tNil l_33 (
 tAgg v35 fun l_34 =>
 tCons l_34 fun v39 l_35 =>
 tNil l_35 (
 Sym.newRow 1 [(.agg [.nilsl])] h_10 fun r2 h_11 =>
 st false h_11 (.ptr r2 0 0) [v39] fun h_12 =>
 (((mkS true 1 24 .nilsl h_12 7 7 fun v40 h_13 =>
 mkS true 1 24 .nilsl h_13 7 7 fun v41 h_14 =>
 chk (sc v40) (
 chk (sc v41) (
 ∃ v42, (callG prog 6 [(.agg [v40, v41])] h_14 fun v h2 => v = v42 ∧ h2 = h_14) ∧
 tTup v42 fun l_36 =>
 tCons l_36 fun v43 l_37 =>
 tCons l_37 fun v44 l_38 =>
 tCons l_38 fun v45 l_39 =>
 tInt .i64 v45 fun v46 =>
 tNil l_39 (
 tAgg v43 fun l_40 =>
 tCons l_40 fun v47 l_41 =>
 tNil l_41 (
 Sym.newRow 1 [(.agg [.nilsl])] h_14 fun r3 h_16 =>
 ((callG prog 6 [(.agg [v40, v41])] h_16 fun v h2 => v = (.tuple [v43, v44, (.int .i64 v46)]) ∧ h2 = h_16)) ∧
 st false h_16 (.ptr r3 0 0) [v47] fun h_18 =>
 ldN 1 h_18 (.ptr r 0 0) fun l_42 =>
 tCons l_42 fun v49 l_43 =>
 tNil l_43 (
 callG prog 13 [(.agg [v49])] h_18 fun v50 h_19 =>
 tTup v50 fun l_44 =>
 tCons l_44 fun v51 l_45 =>
 tCons l_45 fun v52 l_46 =>
 tCons l_46 fun v53 l_47 =>
 tInt .i64 v53 fun v54 =>
 tNil l_47 (
 tAgg v51 fun l_48 =>
 tCons l_48 fun v55 l_49 =>
 tCons l_49 fun v56 l_50 =>
 tNil l_50 (
 Sym.newRow 2 [(.agg [.nilsl, .nilsl])] h_19 fun r4 h_20 =>
 st false h_20 (.ptr r4 0 0) [v55, v56] fun h_21 =>
 ifT (v3 == 0) (
 ifT (v8 == 0) (
 ifT (v15 == 0) (
 ifT (v21 == 0) (
 ifT (v27 == 0) (
 ifT (v33 == 0) (
 ifT (v13 == 0) (
 ifT (v19 == 2) (
 ifT (!v25) (
 ifT v31 (
 ifT (v38 == 0) (
 lenN v36 fun n =>
 ifT (n == 3) (
 ixS 1 v36 1 fun p =>
 ld1 h_21 p fun v57 =>
 callG prog 18 [v57, (.lsl 1 [(.int .i64 1)])] h_21 fun v58 h_22 =>
 tBool v58 fun v59 =>
 ifT v59 (
 ifT (v46 == 231) (
 ifT (v54 == 0) (
 callG prog 18 [v52, (.lsl 1 [(.int .i64 1), (.int .i64 2)])] h_22 fun v60 h_23 =>
 tBool v60 fun v61 =>
 ifT v61 (
 ld1 h_23 (.ptr r4 0 0) fun v62 =>
 lenN v62 fun n1 =>
 ifT (n1 == 2) (
 ld1 h_23 (.ptr r4 0 0) fun v63 =>
 ixS 1 v63 1 fun p1 =>
 ld1 h_23 p1 fun v64 =>
 callG prog 18 [v64, (.lsl 1 [(.int .i64 0)])] h_23 fun v65 h_24 =>
 tBool v65 fun v66 =>
 ifT v66 (
 callG prog 45 [(.agg [(.lsl 1 [(.lsl 1 [(.bool true), (.bool true), (.bool true)]), (.lsl 1 [(.bool false), (.bool true), (.bool false)]), (.lsl 1 [(.bool false), (.bool false), (.bool true)])])])] h_24 fun v67 h_25 =>
 tInt .i64 v67 fun v68 =>
 retG (.bool (v68 == 230)) h_25 Ψ) (
 retG (.bool false) h_24 Ψ)) (
 retG (.bool false) h_23 Ψ)) (
 retG (.bool false) h_23 Ψ)) (
 retG (.bool false) h_22 Ψ)) (
 retG (.bool false) h_22 Ψ)) (
 retG (.bool false) h_22 Ψ)) (
 retG (.bool false) h_21 Ψ)) (
 retG (.bool false) h_21 Ψ)) (
 retG (.bool false) h_21 Ψ)) (
 retG (.bool false) h_21 Ψ)) (
 retG (.bool false) h_21 Ψ)) (
 retG (.bool false) h_21 Ψ)) (
 retG (.bool false) h_21 Ψ)) (
 retG (.bool false) h_21 Ψ)) (
 retG (.bool false) h_21 Ψ)) (
 retG (.bool false) h_21 Ψ)) (
 retG (.bool false) h_21 Ψ)) (
 retG (.bool false) h_21 Ψ))))))))) ∧
 mkS true 1 24 .nilsl h_12 7 7 fun v69 h_26 =>
 Sym.newRow 1 [(.agg [.nilsl])] h_26 fun r5 h_27 =>
 mkS true 1 24 .nilsl h_27 7 7 fun v70 h_28 =>
 chk (sc v69) (
 chk (sc v70) (
 ∃ v71, (callG prog 6 [(.agg [v69, v70])] h_28 fun v h2 => v = v71 ∧ h2 = h_28) ∧
 tTup v71 fun l_51 =>
 tCons l_51 fun v72 l_52 =>
 tCons l_52 fun v73 l_53 =>
 tCons l_53 fun v74 l_54 =>
 tInt .i64 v74 fun v75 =>
 tNil l_54 (
 tAgg v72 fun l_55 =>
 tCons l_55 fun v76 l_56 =>
 tNil l_56 (
 st false h_28 (.ptr r5 0 0) [v76] fun h_30 =>
 ldN 1 h_30 (.ptr r 0 0) fun l_57 =>
 tCons l_57 fun v77 l_58 =>
 tNil l_58 (
 callG prog 13 [(.agg [v77])] h_30 fun v78 h_31 =>
 tTup v78 fun l_59 =>
 tCons l_59 fun v79 l_60 =>
 tCons l_60 fun v80 l_61 =>
 tCons l_61 fun v81 l_62 =>
 tInt .i64 v81 fun v82 =>
 tNil l_62 (
 tAgg v79 fun l_63 =>
 tCons l_63 fun v83 l_64 =>
 tCons l_64 fun v84 l_65 =>
 tNil l_65 (
 Sym.newRow 2 [(.agg [.nilsl, .nilsl])] h_31 fun r6 h_32 =>
 st false h_32 (.ptr r6 0 0) [v83, v84] fun h_33 =>
 ifT (v3 == 0) (
 ifT (v8 == 0) (
 ifT (v15 == 0) (
 ifT (v21 == 0) (
 ifT (v27 == 0) (
 ifT (v33 == 0) (
 ifT (v13 == 0) (
 ifT (v19 == 2) (
 ifT (!v25) (
 ifT v31 (
 ifT (v38 == 0) (
 lenN v36 fun n2 =>
 ifT (n2 == 3) (
 ixS 1 v36 1 fun p2 =>
 ld1 h_33 p2 fun v85 =>
 callG prog 18 [v85, (.lsl 1 [(.int .i64 1)])] h_33 fun v86 h_34 =>
 tBool v86 fun v87 =>
 ifT v87 (
 ifT (v75 == 231) (
 ifT (v82 == 0) (
 callG prog 18 [v80, (.lsl 1 [(.int .i64 1), (.int .i64 2)])] h_34 fun v88 h_35 =>
 tBool v88 fun v89 =>
 ifT v89 (
 ld1 h_35 (.ptr r6 0 0) fun v90 =>
 lenN v90 fun n3 =>
 ifT (n3 == 2) (
 ld1 h_35 (.ptr r6 0 0) fun v91 =>
 ixS 1 v91 1 fun p3 =>
 ld1 h_35 p3 fun v92 =>
 callG prog 18 [v92, (.lsl 1 [(.int .i64 0)])] h_35 fun v93 h_36 =>
 tBool v93 fun v94 =>
 ifT v94 (
 callG prog 45 [(.agg [(.lsl 1 [(.lsl 1 [(.bool true), (.bool true), (.bool true)]), (.lsl 1 [(.bool false), (.bool true), (.bool false)]), (.lsl 1 [(.bool false), (.bool false), (.bool true)])])])] h_36 fun v95 h_37 =>
 tInt .i64 v95 fun v96 =>
 retG (.bool (v96 == 230)) h_37 Ψ) (
 retG (.bool false) h_36 Ψ)) (
 retG (.bool false) h_35 Ψ)) (
 retG (.bool false) h_35 Ψ)) (
 retG (.bool false) h_34 Ψ)) (
 retG (.bool false) h_34 Ψ)) (
 retG (.bool false) h_34 Ψ)) (
 retG (.bool false) h_33 Ψ)) (
 retG (.bool false) h_33 Ψ)) (
 retG (.bool false) h_33 Ψ)) (
 retG (.bool false) h_33 Ψ)) (
 retG (.bool false) h_33 Ψ)) (
 retG (.bool false) h_33 Ψ)) (
 retG (.bool false) h_33 Ψ)) (
 retG (.bool false) h_33 Ψ)) (
 retG (.bool false) h_33 Ψ)) (
 retG (.bool false) h_33 Ψ)) (
 retG (.bool false) h_33 Ψ)) (
 retG (.bool false) h_33 Ψ))))))))) ∧
 Sym.newRow 1 [(.agg [.nilsl])] h_12 fun r7 h_38 =>
 mkS true 1 24 .nilsl h_38 7 7 fun v97 h_39 =>
 mkS true 1 24 .nilsl h_39 7 7 fun v98 h_40 =>
 chk (sc v97) (
 chk (sc v98) (
 ∃ v99, (callG prog 6 [(.agg [v97, v98])] h_40 fun v h2 => v = v99 ∧ h2 = h_40) ∧
 tTup v99 fun l_66 =>
 tCons l_66 fun v100 l_67 =>
 tCons l_67 fun v101 l_68 =>
 tCons l_68 fun v102 l_69 =>
 tInt .i64 v102 fun v103 =>
 tNil l_69 (
 tAgg v100 fun l_70 =>
 tCons l_70 fun v104 l_71 =>
 tNil l_71 (
 st false h_40 (.ptr r7 0 0) [v104] fun h_42 =>
 ldN 1 h_42 (.ptr r 0 0) fun l_72 =>
 tCons l_72 fun v105 l_73 =>
 tNil l_73 (
 callG prog 13 [(.agg [v105])] h_42 fun v106 h_43 =>
 tTup v106 fun l_74 =>
 tCons l_74 fun v107 l_75 =>
 tCons l_75 fun v108 l_76 =>
 tCons l_76 fun v109 l_77 =>
 tInt .i64 v109 fun v110 =>
 tNil l_77 (
 tAgg v107 fun l_78 =>
 tCons l_78 fun v111 l_79 =>
 tCons l_79 fun v112 l_80 =>
 tNil l_80 (
 Sym.newRow 2 [(.agg [.nilsl, .nilsl])] h_43 fun r8 h_44 =>
 st false h_44 (.ptr r8 0 0) [v111, v112] fun h_45 =>
 ifT (v3 == 0) (
 ifT (v8 == 0) (
 ifT (v15 == 0) (
 ifT (v21 == 0) (
 ifT (v27 == 0) (
 ifT (v33 == 0) (
 ifT (v13 == 0) (
 ifT (v19 == 2) (
 ifT (!v25) (
 ifT v31 (
 ifT (v38 == 0) (
 lenN v36 fun n4 =>
 ifT (n4 == 3) (
 ixS 1 v36 1 fun p4 =>
 ld1 h_45 p4 fun v113 =>
 callG prog 18 [v113, (.lsl 1 [(.int .i64 1)])] h_45 fun v114 h_46 =>
 tBool v114 fun v115 =>
 ifT v115 (
 ifT (v103 == 231) (
 ifT (v110 == 0) (
 callG prog 18 [v108, (.lsl 1 [(.int .i64 1), (.int .i64 2)])] h_46 fun v116 h_47 =>
 tBool v116 fun v117 =>
 ifT v117 (
 ld1 h_47 (.ptr r8 0 0) fun v118 =>
 lenN v118 fun n5 =>
 ifT (n5 == 2) (
 ld1 h_47 (.ptr r8 0 0) fun v119 =>
 ixS 1 v119 1 fun p5 =>
 ld1 h_47 p5 fun v120 =>
 callG prog 18 [v120, (.lsl 1 [(.int .i64 0)])] h_47 fun v121 h_48 =>
 tBool v121 fun v122 =>
 ifT v122 (
 callG prog 45 [(.agg [(.lsl 1 [(.lsl 1 [(.bool true), (.bool true), (.bool true)]), (.lsl 1 [(.bool false), (.bool true), (.bool false)]), (.lsl 1 [(.bool false), (.bool false), (.bool true)])])])] h_48 fun v123 h_49 =>
 tInt .i64 v123 fun v124 =>
 retG (.bool (v124 == 230)) h_49 Ψ) (
 retG (.bool false) h_48 Ψ)) (
 retG (.bool false) h_47 Ψ)) (
 retG (.bool false) h_47 Ψ)) (
 retG (.bool false) h_46 Ψ)) (
 retG (.bool false) h_46 Ψ)) (
 retG (.bool false) h_46 Ψ)) (
 retG (.bool false) h_45 Ψ)) (
 retG (.bool false) h_45 Ψ)) (
 retG (.bool false) h_45 Ψ)) (
 retG (.bool false) h_45 Ψ)) (
 retG (.bool false) h_45 Ψ)) (
 retG (.bool false) h_45 Ψ)) (
 retG (.bool false) h_45 Ψ)) (
 retG (.bool false) h_45 Ψ)) (
 retG (.bool false) h_45 Ψ)) (
 retG (.bool false) h_45 Ψ)) (
 retG (.bool false) h_45 Ψ)) (
 retG (.bool false) h_45 Ψ))))))))) ∧
 (mkS true 1 24 .nilsl h_12 7 7 fun v125 h_50 =>
 mkS true 1 24 .nilsl h_50 7 7 fun v126 h_51 =>
 chk (sc v126) (
 chk (sc v125) (
 ∃ v127, (callG prog 6 [(.agg [v126, v125])] h_51 fun v h2 => v = v127 ∧ h2 = h_51) ∧
 tTup v127 fun l_81 =>
 tCons l_81 fun v128 l_82 =>
 tCons l_82 fun v129 l_83 =>
 tCons l_83 fun v130 l_84 =>
 tInt .i64 v130 fun v131 =>
 tNil l_84 (
 tAgg v128 fun l_85 =>
 tCons l_85 fun v132 l_86 =>
 tNil l_86 (
 Sym.newRow 1 [(.agg [.nilsl])] h_51 fun r9 h_53 =>
 ((callG prog 6 [(.agg [v126, v125])] h_53 fun v h2 => v = (.tuple [v128, v129, (.int .i64 v131)]) ∧ h2 = h_53)) ∧
 st false h_53 (.ptr r9 0 0) [v132] fun h_55 =>
 ldN 1 h_55 (.ptr r 0 0) fun l_87 =>
 tCons l_87 fun v134 l_88 =>
 tNil l_88 (
 callG prog 13 [(.agg [v134])] h_55 fun v135 h_56 =>
 tTup v135 fun l_89 =>
 tCons l_89 fun v136 l_90 =>
 tCons l_90 fun v137 l_91 =>
 tCons l_91 fun v138 l_92 =>
 tInt .i64 v138 fun v139 =>
 tNil l_92 (
 tAgg v136 fun l_93 =>
 tCons l_93 fun v140 l_94 =>
 tCons l_94 fun v141 l_95 =>
 tNil l_95 (
 Sym.newRow 2 [(.agg [.nilsl, .nilsl])] h_56 fun r10 h_57 =>
 st false h_57 (.ptr r10 0 0) [v140, v141] fun h_58 =>
 ifT (v3 == 0) (
 ifT (v8 == 0) (
 ifT (v15 == 0) (
 ifT (v21 == 0) (
 ifT (v27 == 0) (
 ifT (v33 == 0) (
 ifT (v13 == 0) (
 ifT (v19 == 2) (
 ifT (!v25) (
 ifT v31 (
 ifT (v38 == 0) (
 lenN v36 fun n6 =>
 ifT (n6 == 3) (
 ixS 1 v36 1 fun p6 =>
 ld1 h_58 p6 fun v142 =>
 callG prog 18 [v142, (.lsl 1 [(.int .i64 1)])] h_58 fun v143 h_59 =>
 tBool v143 fun v144 =>
 ifT v144 (
 ifT (v131 == 231) (
 ifT (v139 == 0) (
 callG prog 18 [v137, (.lsl 1 [(.int .i64 1), (.int .i64 2)])] h_59 fun v145 h_60 =>
 tBool v145 fun v146 =>
 ifT v146 (
 ld1 h_60 (.ptr r10 0 0) fun v147 =>
 lenN v147 fun n7 =>
 ifT (n7 == 2) (
 ld1 h_60 (.ptr r10 0 0) fun v148 =>
 ixS 1 v148 1 fun p7 =>
 ld1 h_60 p7 fun v149 =>
 callG prog 18 [v149, (.lsl 1 [(.int .i64 0)])] h_60 fun v150 h_61 =>
 tBool v150 fun v151 =>
 ifT v151 (
 callG prog 45 [(.agg [(.lsl 1 [(.lsl 1 [(.bool true), (.bool true), (.bool true)]), (.lsl 1 [(.bool false), (.bool true), (.bool false)]), (.lsl 1 [(.bool false), (.bool false), (.bool true)])])])] h_61 fun v152 h_62 =>
 tInt .i64 v152 fun v153 =>
 retG (.bool (v153 == 230)) h_62 Ψ) (
 retG (.bool false) h_61 Ψ)) (
 retG (.bool false) h_60 Ψ)) (
 retG (.bool false) h_60 Ψ)) (
 retG (.bool false) h_59 Ψ)) (
 retG (.bool false) h_59 Ψ)) (
 retG (.bool false) h_59 Ψ)) (
 retG (.bool false) h_58 Ψ)) (
 retG (.bool false) h_58 Ψ)) (
 retG (.bool false) h_58 Ψ)) (
 retG (.bool false) h_58 Ψ)) (
 retG (.bool false) h_58 Ψ)) (
 retG (.bool false) h_58 Ψ)) (
 retG (.bool false) h_58 Ψ)) (
 retG (.bool false) h_58 Ψ)) (
 retG (.bool false) h_58 Ψ)) (
 retG (.bool false) h_58 Ψ)) (
 retG (.bool false) h_58 Ψ)) (
 retG (.bool false) h_58 Ψ))))))))) ∧
 (mkS true 1 24 .nilsl h_12 7 7 fun v154 h_63 =>
 Sym.newRow 1 [(.agg [.nilsl])] h_63 fun r11 h_64 =>
 mkS true 1 24 .nilsl h_64 7 7 fun v155 h_65 =>
 chk (sc v155) (
 chk (sc v154) (
 ∃ v156, (callG prog 6 [(.agg [v155, v154])] h_65 fun v h2 => v = v156 ∧ h2 = h_65) ∧
 tTup v156 fun l_96 =>
 tCons l_96 fun v157 l_97 =>
 tCons l_97 fun v158 l_98 =>
 tCons l_98 fun v159 l_99 =>
 tInt .i64 v159 fun v160 =>
 tNil l_99 (
 tAgg v157 fun l_100 =>
 tCons l_100 fun v161 l_101 =>
 tNil l_101 (
 st false h_65 (.ptr r11 0 0) [v161] fun h_67 =>
 ldN 1 h_67 (.ptr r 0 0) fun l_102 =>
 tCons l_102 fun v162 l_103 =>
 tNil l_103 (
 callG prog 13 [(.agg [v162])] h_67 fun v163 h_68 =>
 tTup v163 fun l_104 =>
 tCons l_104 fun v164 l_105 =>
 tCons l_105 fun v165 l_106 =>
 tCons l_106 fun v166 l_107 =>
 tInt .i64 v166 fun v167 =>
 tNil l_107 (
 tAgg v164 fun l_108 =>
 tCons l_108 fun v168 l_109 =>
 tCons l_109 fun v169 l_110 =>
 tNil l_110 (
 Sym.newRow 2 [(.agg [.nilsl, .nilsl])] h_68 fun r12 h_69 =>
 st false h_69 (.ptr r12 0 0) [v168, v169] fun h_70 =>
 ifT (v3 == 0) (
 ifT (v8 == 0) (
 ifT (v15 == 0) (
 ifT (v21 == 0) (
 ifT (v27 == 0) (
 ifT (v33 == 0) (
 ifT (v13 == 0) (
 ifT (v19 == 2) (
 ifT (!v25) (
 ifT v31 (
 ifT (v38 == 0) (
 lenN v36 fun n8 =>
 ifT (n8 == 3) (
 ixS 1 v36 1 fun p8 =>
 ld1 h_70 p8 fun v170 =>
 callG prog 18 [v170, (.lsl 1 [(.int .i64 1)])] h_70 fun v171 h_71 =>
 tBool v171 fun v172 =>
 ifT v172 (
 ifT (v160 == 231) (
 ifT (v167 == 0) (
 callG prog 18 [v165, (.lsl 1 [(.int .i64 1), (.int .i64 2)])] h_71 fun v173 h_72 =>
 tBool v173 fun v174 =>
 ifT v174 (
 ld1 h_72 (.ptr r12 0 0) fun v175 =>
 lenN v175 fun n9 =>
 ifT (n9 == 2) (
 ld1 h_72 (.ptr r12 0 0) fun v176 =>
 ixS 1 v176 1 fun p9 =>
 ld1 h_72 p9 fun v177 =>
 callG prog 18 [v177, (.lsl 1 [(.int .i64 0)])] h_72 fun v178 h_73 =>
 tBool v178 fun v179 =>
 ifT v179 (
 callG prog 45 [(.agg [(.lsl 1 [(.lsl 1 [(.bool true), (.bool true), (.bool true)]), (.lsl 1 [(.bool false), (.bool true), (.bool false)]), (.lsl 1 [(.bool false), (.bool false), (.bool true)])])])] h_73 fun v180 h_74 =>
 tInt .i64 v180 fun v181 =>
 retG (.bool (v181 == 230)) h_74 Ψ) (
 retG (.bool false) h_73 Ψ)) (
 retG (.bool false) h_72 Ψ)) (
 retG (.bool false) h_72 Ψ)) (
 retG (.bool false) h_71 Ψ)) (
 retG (.bool false) h_71 Ψ)) (
 retG (.bool false) h_71 Ψ)) (
 retG (.bool false) h_70 Ψ)) (
 retG (.bool false) h_70 Ψ)) (
 retG (.bool false) h_70 Ψ)) (
 retG (.bool false) h_70 Ψ)) (
 retG (.bool false) h_70 Ψ)) (
 retG (.bool false) h_70 Ψ)) (
 retG (.bool false) h_70 Ψ)) (
 retG (.bool false) h_70 Ψ)) (
 retG (.bool false) h_70 Ψ)) (
 retG (.bool false) h_70 Ψ)) (
 retG (.bool false) h_70 Ψ)) (
 retG (.bool false) h_70 Ψ))))))))) ∧
 Sym.newRow 1 [(.agg [.nilsl])] h_12 fun r13 h_75 =>
 mkS true 1 24 .nilsl h_75 7 7 fun v182 h_76 =>
 mkS true 1 24 .nilsl h_76 7 7 fun v183 h_77 =>
 chk (sc v183) (
 chk (sc v182) (
 ∃ v184, (callG prog 6 [(.agg [v183, v182])] h_77 fun v h2 => v = v184 ∧ h2 = h_77) ∧
 tTup v184 fun l_111 =>
 tCons l_111 fun v185 l_112 =>
 tCons l_112 fun v186 l_113 =>
 tCons l_113 fun v187 l_114 =>
 tInt .i64 v187 fun v188 =>
 tNil l_114 (
 tAgg v185 fun l_115 =>
 tCons l_115 fun v189 l_116 =>
 tNil l_116 (
 st false h_77 (.ptr r13 0 0) [v189] fun h_79 =>
 ldN 1 h_79 (.ptr r 0 0) fun l_117 =>
 tCons l_117 fun v190 l_118 =>
 tNil l_118 (
 callG prog 13 [(.agg [v190])] h_79 fun v191 h_80 =>
 tTup v191 fun l_119 =>
 tCons l_119 fun v192 l_120 =>
 tCons l_120 fun v193 l_121 =>
 tCons l_121 fun v194 l_122 =>
 tInt .i64 v194 fun v195 =>
 tNil l_122 (
 tAgg v192 fun l_123 =>
 tCons l_123 fun v196 l_124 =>
 tCons l_124 fun v197 l_125 =>
 tNil l_125 (
 Sym.newRow 2 [(.agg [.nilsl, .nilsl])] h_80 fun r14 h_81 =>
 st false h_81 (.ptr r14 0 0) [v196, v197] fun h_82 =>
 ifT (v3 == 0) (
 ifT (v8 == 0) (
 ifT (v15 == 0) (
 ifT (v21 == 0) (
 ifT (v27 == 0) (
 ifT (v33 == 0) (
 ifT (v13 == 0) (
 ifT (v19 == 2) (
 ifT (!v25) (
 ifT v31 (
 ifT (v38 == 0) (
 lenN v36 fun n10 =>
 ifT (n10 == 3) (
 ixS 1 v36 1 fun p10 =>
 ld1 h_82 p10 fun v198 =>
 callG prog 18 [v198, (.lsl 1 [(.int .i64 1)])] h_82 fun v199 h_83 =>
 tBool v199 fun v200 =>
 ifT v200 (
 ifT (v188 == 231) (
 ifT (v195 == 0) (
 callG prog 18 [v193, (.lsl 1 [(.int .i64 1), (.int .i64 2)])] h_83 fun v201 h_84 =>
 tBool v201 fun v202 =>
 ifT v202 (
 ld1 h_84 (.ptr r14 0 0) fun v203 =>
 lenN v203 fun n11 =>
 ifT (n11 == 2) (
 ld1 h_84 (.ptr r14 0 0) fun v204 =>
 ixS 1 v204 1 fun p11 =>
 ld1 h_84 p11 fun v205 =>
 callG prog 18 [v205, (.lsl 1 [(.int .i64 0)])] h_84 fun v206 h_85 =>
 tBool v206 fun v207 =>
 ifT v207 (
 callG prog 45 [(.agg [(.lsl 1 [(.lsl 1 [(.bool true), (.bool true), (.bool true)]), (.lsl 1 [(.bool false), (.bool true), (.bool false)]), (.lsl 1 [(.bool false), (.bool false), (.bool true)])])])] h_85 fun v208 h_86 =>
 tInt .i64 v208 fun v209 =>
 retG (.bool (v209 == 230)) h_86 Ψ) (
 retG (.bool false) h_85 Ψ)) (
 retG (.bool false) h_84 Ψ)) (
 retG (.bool false) h_84 Ψ)) (
 retG (.bool false) h_83 Ψ)) (
 retG (.bool false) h_83 Ψ)) (
 retG (.bool false) h_83 Ψ)) (
 retG (.bool false) h_82 Ψ)) (
 retG (.bool false) h_82 Ψ)) (
 retG (.bool false) h_82 Ψ)) (
 retG (.bool false) h_82 Ψ)) (
 retG (.bool false) h_82 Ψ)) (
 retG (.bool false) h_82 Ψ)) (
 retG (.bool false) h_82 Ψ)) (
 retG (.bool false) h_82 Ψ)) (
 retG (.bool false) h_82 Ψ)) (
 retG (.bool false) h_82 Ψ)) (
 retG (.bool false) h_82 Ψ)) (
 retG (.bool false) h_82 Ψ))))))))))))))))))))))

def s19_A (Ψ : AVal → Heap → Prop) : Ann :=
 .seq (rA 1)
 (.seq (rA 7)
 (.seq (rA 7)
 (.seq (rA 7)
 (.seq (rA 7)
 (.seq (rA 7)
 (.seq (rA 7)
 (.seq (.reg [⟨none, [(0, true), (1, true), (2, true), (3, false), (4, false), (5, false), (6, false), (7, false), (8, false), (9, false), (10, false), (11, false), (12, false)]⟩])
 (.seq (.drawT (.split 0 1 (.split 0 8 (.split 1 8 (.leaf [(0, true), (1, true), (2, false), (3, true), (4, false), (5, false), (6, false), (7, false), (8, false), (9, false), (10, false), (11, false)]) (.leaf [(0, true), (8, false), (1, true), (2, false), (3, true), (4, false), (5, false), (6, false), (7, false), (9, false), (10, false), (11, false)])) (.leaf [(8, false), (0, true), (1, true), (2, false), (3, true), (4, false), (5, false), (6, false), (7, false), (9, false), (10, false), (11, false)])) (.split 0 8 (.leaf [(1, true), (0, true), (2, false), (3, true), (4, false), (5, false), (6, false), (7, false), (8, false), (9, false), (10, false), (11, false)]) (.split 1 8 (.leaf [(1, true), (8, false), (0, true), (2, false), (3, true), (4, false), (5, false), (6, false), (7, false), (9, false), (10, false), (11, false)]) (.leaf [(8, false), (1, true), (0, true), (2, false), (3, true), (4, false), (5, false), (6, false), (7, false), (9, false), (10, false), (11, false)])))) [0, 0, 3, 7, 15, 31, 31, 31, 0, 319, 895, 2047])
 (.seq (rA 10)
 (.seq (.reg [⟨none, [(0, false), (1, false), (2, false)]⟩, ⟨some (75, true), [(3, false), (4, false)]⟩, ⟨none, [(5, false), (6, false)]⟩, ⟨some (79, true), [(7, false), (8, false)]⟩, ⟨none, [(9, false), (10, false)]⟩, ⟨some (83, true), [(11, false), (12, false)]⟩, ⟨none, [(13, false), (14, false)]⟩, ⟨some (87, true), [(15, false), (16, false)]⟩, ⟨none, [(17, false), (18, false)]⟩, ⟨some (91, true), [(19, false), (20, false)]⟩, ⟨none, [(21, false), (22, false)]⟩, ⟨some (95, true), [(23, false), (24, false)]⟩, ⟨none, [(25, false), (26, false)]⟩, ⟨some (99, true), [(27, false), (28, false)]⟩, ⟨none, [(29, false), (30, false)]⟩, ⟨some (103, true), [(31, false), (32, false)]⟩, ⟨none, [(33, false), (34, false)]⟩, ⟨some (107, true), [(35, false)]⟩, ⟨none, [(36, false), (37, false)]⟩, ⟨some (110, true), [(38, false), (39, false)]⟩, ⟨none, [(40, false), (41, false)]⟩, ⟨some (114, true), [(42, false), (43, false), (44, false)]⟩, ⟨none, [(45, false), (46, false)]⟩, ⟨some (119, true), [(47, false), (48, false), (49, false), (50, true), (51, false)]⟩, ⟨none, [(52, false), (53, false)]⟩, ⟨some (126, true), [(54, false), (55, false)]⟩, ⟨none, [(56, false), (57, false)]⟩, ⟨some (130, true), [(58, false), (59, false)]⟩, ⟨none, [(60, false), (61, false)]⟩, ⟨some (134, true), [(62, false), (63, true), (64, false)]⟩, ⟨none, [(65, false), (66, false)]⟩, ⟨some (139, true), [(67, false), (68, false), (69, false), (70, false)]⟩, ⟨none, [(71, false), (72, false)]⟩, ⟨some (145, true), [(73, false), (74, false), (75, false), (76, false), (77, true), (78, false)]⟩, ⟨none, [(79, false), (80, false)]⟩, ⟨some (153, true), [(81, true), (82, true), (83, true), (84, true), (85, false), (86, false), (87, false)]⟩, ⟨none, [(88, false), (89, false)]⟩])
 (.leaf)))))))))))

theorem s19_ok {Ψ : AVal → Heap → Prop} {h : Heap} (H : s19 Ψ  h) : ACalls prog 19 [] h Ψ :=
 calls_of_evF func19 (by kernel_rfl) (by kernel_rfl) (by kernel_rfl)
 (Eq.mpr (by as_aux_lemma => kernel_rfl : oblF prog f19 (s19_A Ψ) Ψ = (otP 1398101)) (otP_ok 1398101))
 (Eq.mpr (by as_aux_lemma => kernel_rfl : evF prog f19 (s19_A Ψ) Ψ [] h = s19 Ψ  h) H)

/- 21 dictum/heyting.Value -/
abbrev s21l1_T := AVal → Int → AVal → AVal → AVal → AVal → Int → Int → Heap → Prop
def s21l1_R (F : s21l1_T) (l : List AVal) (h : Heap) : Prop := J.cons l fun x0 l => J.ci .i64 l fun x1 l => J.cons l fun x2 l => J.cons l fun x3 l => J.cons l fun x4 l => J.cons l fun x5 l => J.ci .i64 l fun x6 l => J.ci .i64 l fun x7 l => J.nil l (F x0 x1 x2 x3 x4 x5 x6 x7 h)
def s21l1_G (F : s21l1_T) (x0 : AVal) (x1 : Int) (x2 x3 x4 x5 : AVal) (x6 x7 : Int) (h : Heap) : Prop := gJ [.any, .int .i64, .any, .any, .any, .any, .int .i64, .int .i64] [x0, (.int .i64 x1), x2, x3, x4, x5, (.int .i64 x6), (.int .i64 x7)] h (s21l1_R F)
def s21l1_E (F : Nat → s21l1_T) (x0 : AVal) (x1 : Int) (x2 x3 x4 x5 : AVal) (x6 x7 : Int) (h : Heap) : Prop := gJ [.any, .int .i64, .any, .any, .any, .any, .int .i64, .int .i64] [x0, (.int .i64 x1), x2, x3, x4, x5, (.int .i64 x6), (.int .i64 x7)] h (fun l h => ∃ n, s21l1_R (F n) l h)
theorem s21l1_go {F : s21l1_T} {x0 : AVal} {x1 : Int} {x2 x3 x4 x5 : AVal} {x6 x7 : Int} {h : Heap} (H : F x0 x1 x2 x3 x4 x5 x6 x7 h) : s21l1_G F x0 x1 x2 x3 x4 x5 x6 x7 h := gJ_plain rfl H
theorem s21l1_in {F : Nat → s21l1_T} {x0 : AVal} {x1 : Int} {x2 x3 x4 x5 : AVal} {x6 x7 : Int} {h : Heap} (n : Nat) (H : F n x0 x1 x2 x3 x4 x5 x6 x7 h) : s21l1_E F x0 x1 x2 x3 x4 x5 x6 x7 h := gJ_plain rfl ⟨n, H⟩

def s21c2 (Ψ : AVal → Heap → Prop) (L1 : s21l1_T) (t2 : AVal) (id_2 : Int) (l_13 below1 named1 h_7 t45_1 : AVal) (t46_1 t47_1 : Int) (t70 : Bool) (h : Heap) : Prop :=
 ifT t70 (
 retG (.tuple [(.int .i64 0), (.int .i64 2)]) h Ψ) (
 addOff h_7 0 fun p1 =>
 ld1 h p1 fun v19 =>
 tStr v19 fun v20 =>
 addOff h_7 1 fun p2 =>
 ld1 h p2 fun v21 =>
 tInt .i64 v21 fun v22 =>
 mapPut h named1 (.str v20) (.int .i64 v22) fun h_8 =>
 rg (t47_1 + 1) (
 L1 t2 id_2 l_13 below1 named1 t45_1 t46_1 (t47_1 + 1) h_8))

abbrev s21l3_T := AVal → Int → AVal → AVal → Int → AVal → AVal → Int → Int → Heap → Prop
def s21l3_R (F : s21l3_T) (l : List AVal) (h : Heap) : Prop := J.cons l fun x0 l => J.ci .i64 l fun x1 l => J.cons l fun x2 l => J.cons l fun x3 l => J.ci .i64 l fun x4 l => J.cons l fun x5 l => J.cons l fun x6 l => J.ci .i64 l fun x7 l => J.ci .i64 l fun x8 l => J.nil l (F x0 x1 x2 x3 x4 x5 x6 x7 x8 h)
def s21l3_G (F : s21l3_T) (x0 : AVal) (x1 : Int) (x2 x3 : AVal) (x4 : Int) (x5 x6 : AVal) (x7 x8 : Int) (h : Heap) : Prop := gJ [.any, .int .i64, .any, .any, .int .i64, .any, .any, .int .i64, .int .i64] [x0, (.int .i64 x1), x2, x3, (.int .i64 x4), x5, x6, (.int .i64 x7), (.int .i64 x8)] h (s21l3_R F)
def s21l3_E (F : Nat → s21l3_T) (x0 : AVal) (x1 : Int) (x2 x3 : AVal) (x4 : Int) (x5 x6 : AVal) (x7 x8 : Int) (h : Heap) : Prop := gJ [.any, .int .i64, .any, .any, .int .i64, .any, .any, .int .i64, .int .i64] [x0, (.int .i64 x1), x2, x3, (.int .i64 x4), x5, x6, (.int .i64 x7), (.int .i64 x8)] h (fun l h => ∃ n, s21l3_R (F n) l h)
theorem s21l3_go {F : s21l3_T} {x0 : AVal} {x1 : Int} {x2 x3 : AVal} {x4 : Int} {x5 x6 : AVal} {x7 x8 : Int} {h : Heap} (H : F x0 x1 x2 x3 x4 x5 x6 x7 x8 h) : s21l3_G F x0 x1 x2 x3 x4 x5 x6 x7 x8 h := gJ_plain rfl H
theorem s21l3_in {F : Nat → s21l3_T} {x0 : AVal} {x1 : Int} {x2 x3 : AVal} {x4 : Int} {x5 x6 : AVal} {x7 x8 : Int} {h : Heap} (n : Nat) (H : F n x0 x1 x2 x3 x4 x5 x6 x7 x8 h) : s21l3_E F x0 x1 x2 x3 x4 x5 x6 x7 x8 h := gJ_plain rfl ⟨n, H⟩

def s21c4 (Ψ : AVal → Heap → Prop) (L3 : s21l3_T) (t4 : AVal) (id_4 : Int) (l_21 named3 : AVal) (low1 : Int) (v38 t83_1 : AVal) (t84_1 t85_1 : Int) (h : Heap) : Prop :=
 rg (t85_1 + 1) (
 L3 t4 id_4 l_21 named3 low1 v38 t83_1 t84_1 (t85_1 + 1) h)

def s21l3 (Ψ : AVal → Heap → Prop) : Nat → s21l3_T
 | 0, _, _, _, _, _, _, _, _, _, _ => False
 | n3 + 1, t3, id_3, l_20, named2, low, v37, t83, t84, t85, h =>
 ifT (decide (t85 < t84)) (
 ixS 1 t83 t85 fun p4 =>
 ld1 h p4 fun v39 =>
 tInt .i64 v39 fun v40 =>
 callG prog 49 [t3, (.int .i64 v40)] h fun v41 h_11 =>
 tTup v41 fun l_22 =>
 tCons l_22 fun v42 l_23 =>
 tCons l_23 fun v43 l_24 =>
 tBool v43 fun v44 =>
 tNil l_24 (
 tAgg v42 fun l_25 =>
 tCons l_25 fun v45 l_26 =>
 tInt .i64 v45 fun v46 =>
 tCons l_26 fun v47 l_27 =>
 tStr v47 fun v48 =>
 tCons l_27 fun v49 l_28 =>
 tInt .i64 v49 fun v50 =>
 tCons l_28 fun v51 l_29 =>
 tInt .i64 v51 fun v52 =>
 tNil l_29 (
 Sym.newRow 4 [(.agg [(.int .i64 0), (.str (ByteArray.mk #[])), (.int .i64 0), (.int .i64 0)])] h_11 fun r4 h_12 =>
 st false h_12 (.ptr r4 0 0) [(.int .i64 v46), (.str v48), (.int .i64 v50), (.int .i64 v52)] fun h_13 =>
 ld1 h_13 (.ptr r4 0 0) fun v53 =>
 tInt .i64 v53 fun v54 =>
 ifT (v54 == 1) (
 ld1 h_13 (.ptr r4 0 1) fun v55 =>
 tStr v55 fun v56 =>
 mapGet (.int .i64 0) h_13 named2 (.str v56) fun v57 b1 =>
 tInt .i64 v57 fun v58 =>
 ifT (!b1) (
 retG (.tuple [(.int .i64 0), (.int .i64 2)]) h_13 Ψ) (
 mapPut h_13 v37 (.int .i64 v40) (.int .i64 v58) fun h_14 =>
 s21c4 Ψ (s21l3_G (s21l3 Ψ n3)) t3 id_3 l_20 named2 low v37 t83 t84 t85 h_14)) (
 ifT (v54 == 2) (
 mapPut h_13 v37 (.int .i64 v40) (.int .i64 low) fun h_15 =>
 s21c4 Ψ (s21l3_G (s21l3 Ψ n3)) t3 id_3 l_20 named2 low v37 t83 t84 t85 h_15) (
 ifT (v54 == 3) (
 ldN 2 h_13 l_20 fun l_30 =>
 tCons l_30 fun v59 l_31 =>
 tInt .i64 v59 fun v60 =>
 tCons l_31 fun v61 l_32 =>
 tNil l_32 (
 ld1 h_13 (.ptr r4 0 2) fun v62 =>
 tInt .i64 v62 fun v63 =>
 mapGet (.int .i64 0) h_13 v37 (.int .i64 v63) fun v64 b2 =>
 tInt .i64 v64 fun v65 =>
 ld1 h_13 (.ptr r4 0 3) fun v66 =>
 tInt .i64 v66 fun v67 =>
 mapGet (.int .i64 0) h_13 v37 (.int .i64 v67) fun v68 b3 =>
 tInt .i64 v68 fun v69 =>
 callG prog 50 [(.agg [(.int .i64 v60), v61]), (.int .i64 v65), (.int .i64 v69)] h_13 fun v70 h_16 =>
 tTup v70 fun l_33 =>
 tCons l_33 fun v71 l_34 =>
 tInt .i64 v71 fun v72 =>
 tCons l_34 fun v73 l_35 =>
 tBool v73 fun v74 =>
 tNil l_35 (
 mapPut h_16 v37 (.int .i64 v40) (.int .i64 v72) fun h_17 =>
 s21c4 Ψ (s21l3_G (s21l3 Ψ n3)) t3 id_3 l_20 named2 low v37 t83 t84 t85 h_17))) (
 ifT (v54 == 4) (
 ldN 2 h_13 l_20 fun l_36 =>
 tCons l_36 fun v75 l_37 =>
 tInt .i64 v75 fun v76 =>
 tCons l_37 fun v77 l_38 =>
 tNil l_38 (
 ld1 h_13 (.ptr r4 0 2) fun v78 =>
 tInt .i64 v78 fun v79 =>
 mapGet (.int .i64 0) h_13 v37 (.int .i64 v79) fun v80 b4 =>
 tInt .i64 v80 fun v81 =>
 ld1 h_13 (.ptr r4 0 3) fun v82 =>
 tInt .i64 v82 fun v83 =>
 mapGet (.int .i64 0) h_13 v37 (.int .i64 v83) fun v84 b5 =>
 tInt .i64 v84 fun v85 =>
 callG prog 37 [(.agg [(.int .i64 v76), v77]), (.int .i64 v81), (.int .i64 v85)] h_13 fun v86 h_18 =>
 tTup v86 fun l_39 =>
 tCons l_39 fun v87 l_40 =>
 tInt .i64 v87 fun v88 =>
 tCons l_40 fun v89 l_41 =>
 tBool v89 fun v90 =>
 tNil l_41 (
 mapPut h_18 v37 (.int .i64 v40) (.int .i64 v88) fun h_19 =>
 s21c4 Ψ (s21l3_G (s21l3 Ψ n3)) t3 id_3 l_20 named2 low v37 t83 t84 t85 h_19))) (
 ifT (v54 == 5) (
 ldN 2 h_13 l_20 fun l_42 =>
 tCons l_42 fun v91 l_43 =>
 tInt .i64 v91 fun v92 =>
 tCons l_43 fun v93 l_44 =>
 tNil l_44 (
 ld1 h_13 (.ptr r4 0 2) fun v94 =>
 tInt .i64 v94 fun v95 =>
 mapGet (.int .i64 0) h_13 v37 (.int .i64 v95) fun v96 b6 =>
 tInt .i64 v96 fun v97 =>
 ld1 h_13 (.ptr r4 0 3) fun v98 =>
 tInt .i64 v98 fun v99 =>
 mapGet (.int .i64 0) h_13 v37 (.int .i64 v99) fun v100 b7 =>
 tInt .i64 v100 fun v101 =>
 callG prog 51 [(.agg [(.int .i64 v92), v93]), (.int .i64 v97), (.int .i64 v101)] h_13 fun v102 h_20 =>
 tInt .i64 v102 fun v103 =>
 mapPut h_20 v37 (.int .i64 v40) (.int .i64 v103) fun h_21 =>
 s21c4 Ψ (s21l3_G (s21l3 Ψ n3)) t3 id_3 l_20 named2 low v37 t83 t84 t85 h_21)) (
 s21c4 Ψ (s21l3_G (s21l3 Ψ n3)) t3 id_3 l_20 named2 low v37 t83 t84 t85 h_13)))))))) (
 mapGet (.int .i64 0) h v37 (.int .i64 id_3) fun v104 b8 =>
 tInt .i64 v104 fun v105 =>
 retG (.tuple [(.int .i64 v105), (.int .i64 0)]) h Ψ)

def s21l1 (Ψ : AVal → Heap → Prop) : Nat → s21l1_T
 | 0, _, _, _, _, _, _, _, _, _ => False
 | n1 + 1, t1, id_1, l_9, below, named, t45, t46, t47, h =>
 ifT (decide (t47 < t46)) (
 ixS 2 t45 t47 fun p =>
 ldN 2 h p fun l_10 =>
 tCons l_10 fun v11 l_11 =>
 tStr v11 fun v12 =>
 tCons l_11 fun v13 l_12 =>
 tInt .i64 v13 fun v14 =>
 tNil l_12 (
 Sym.newRow 2 [(.agg [(.str (ByteArray.mk #[])), (.int .i64 0)])] h fun r2 h_5 =>
 st false h_5 (.ptr r2 0 0) [(.str v12), (.int .i64 v14)] fun h_6 =>
 ld1 h_6 (.ptr r2 0 0) fun v15 =>
 tStr v15 fun v16 =>
 mapGet (.int .i64 0) h_6 named (.str v16) fun v17 b =>
 tInt .i64 v17 fun v18 =>
 ifT b (
 s21c2 Ψ (s21l1_G (s21l1 Ψ n1)) t1 id_1 l_9 below named (.ptr r2 0 0) t45 t46 t47 true h_6) (
 ld1 h_6 (.ptr r2 0 1) fun v23 =>
 tInt .i64 v23 fun v24 =>
 ifT (decide (v24 < 0)) (
 s21c2 Ψ (s21l1_G (s21l1 Ψ n1)) t1 id_1 l_9 below named (.ptr r2 0 0) t45 t46 t47 true h_6) (
 ld1 h_6 (.ptr r2 0 1) fun v25 =>
 tInt .i64 v25 fun v26 =>
 addOff l_9 0 fun p3 =>
 ld1 h_6 p3 fun v27 =>
 tInt .i64 v27 fun v28 =>
 s21c2 Ψ (s21l1_G (s21l1 Ψ n1)) t1 id_1 l_9 below named (.ptr r2 0 0) t45 t46 t47 (decide (v28 ≤ v26)) h_6)))) (
 ldN 2 h l_9 fun l_14 =>
 tCons l_14 fun v29 l_15 =>
 tInt .i64 v29 fun v30 =>
 tCons l_15 fun v31 l_16 =>
 tNil l_16 (
 callG prog 36 [(.agg [(.int .i64 v30), v31])] h fun v32 h_9 =>
 tTup v32 fun l_17 =>
 tCons l_17 fun v33 l_18 =>
 tInt .i64 v33 fun v34 =>
 tCons l_18 fun v35 l_19 =>
 tInt .i64 v35 fun v36 =>
 tNil l_19 (
 newMap h_9 fun r3 h_10 =>
 lenN below fun n2 =>
 s21l3_E (s21l3 Ψ) t1 id_1 l_9 named v34 (.mapr r3) below n2 0 h_10)))

def s21 (Ψ : AVal → Heap → Prop) (a_Leq : AVal) (t : AVal) (id_ : Int) (by_ : AVal) (h : Heap) : Prop :=
 callG prog 35 [(.agg [a_Leq]), .nilsl] h fun v h_ =>
 tTup v fun l_ =>
 tCons l_ fun v1 l_1 =>
 tCons l_1 fun v2 l_2 =>
 tInt .i64 v2 fun v3 =>
 tNil l_2 (
 tAgg v1 fun l_3 =>
 tCons l_3 fun v4 l_4 =>
 tInt .i64 v4 fun v5 =>
 tCons l_4 fun v6 l_5 =>
 tNil l_5 (
 Sym.newRow 2 [(.agg [(.int .i64 0), .nilfunc])] h_ fun r h_1 =>
 st false h_1 (.ptr r 0 0) [(.int .i64 v5), v6] fun h_2 =>
 ifT (v3 != 0) (
 retG (.tuple [(.int .i64 0), (.int .i64 v3)]) h_2 Ψ) (
 callG prog 48 [t, (.int .i64 id_)] h_2 fun v7 h_3 =>
 tTup v7 fun l_6 =>
 tCons l_6 fun v8 l_7 =>
 tCons l_7 fun v9 l_8 =>
 tInt .i64 v9 fun v10 =>
 tNil l_8 (
 ifT (v10 != 0) (
 retG (.tuple [(.int .i64 0), (.int .i64 v10)]) h_3 Ψ) (
 newMap h_3 fun r1 h_4 =>
 lenN by_ fun n =>
 s21l1_E (s21l1 Ψ) t id_ (.ptr r 0 0) v8 (.mapr r1) by_ n 0 h_4)))))

def s21_A (Ψ : AVal → Heap → Prop) : Ann :=
 .seq (.reg [⟨none, [(0, true), (1, false), (2, false)]⟩])
 (.seq (rA 8)
 (.seq (.seq (rA 2)
 (.cond (.seq (rA 3)
 (.leaf))
 (.leaf)))
 (.seq (rA 8)
 (.seq (.seq (rA 2)
 (.cond (.seq (rA 3)
 (.leaf))
 (.leaf)))
 (.seq (rA 2)
 (.seq (.seq (rA 3)
 (.block (.loop [(1, .any), (2, .int .i64), (10, .any), (12, .any), (13, .any), (45, .any), (46, .int .i64), (47, .int .i64)] (fun n l h => s21l1_R (s21l1 Ψ n) l h) (fun L1 =>
 .seq (rA 1)
 (.seq (.cond (.leaf)
 (.leaf))
 (.seq (.block (.seq (rA 4)
 (.seq (.seq (rA 9)
 (.cut [(1, .any), (2, .int .i64), (10, .any), (12, .any), (13, .any), (15, .any), (45, .any), (46, .int .i64), (47, .int .i64), (70, .bool)] (fun l h => J.cons l fun x0 l => J.ci .i64 l fun x1 l => J.cons l fun x2 l => J.cons l fun x3 l => J.cons l fun x4 l => J.cons l fun x5 l => J.cons l fun x6 l => J.ci .i64 l fun x7 l => J.ci .i64 l fun x8 l => J.cb l fun x9 l => J.nil l (s21c2 Ψ (fun y0 y1 y2 y3 y4 y5 y6 y7 h => L1 [y0, (.int .i64 y1), y2, y3, y4, y5, (.int .i64 y6), (.int .i64 y7)] h) x0 x1 x2 x3 x4 x5 x6 x7 x8 x9 h)) (.reg [⟨none, [(0, false), (1, false)]⟩, ⟨some (59, false), [(2, false), (3, false), (4, false)]⟩, ⟨none, [(5, false), (6, false)]⟩, ⟨some (64, false), [(7, false), (8, false), (9, false), (10, false), (11, false)]⟩, ⟨none, [(12, false)]⟩])
 (.cond (.seq (rA 2)
 (.leaf))
 (.leaf))))
 (rA 6))))
 (rA 2)))))))
 (.seq (rA 7)
 (.seq (rA 2)
 (.seq (.seq (rA 3)
 (.block (.loop [(1, .any), (2, .int .i64), (10, .any), (13, .any), (18, .int .i64), (20, .any), (83, .any), (84, .int .i64), (85, .int .i64)] (fun n l h => s21l3_R (s21l3 Ψ n) l h) (fun L3 =>
 .seq (rA 1)
 (.seq (.cond (.leaf)
 (.leaf))
 (.cut [(1, .any), (2, .int .i64), (10, .any), (13, .any), (18, .int .i64), (20, .any), (83, .any), (84, .int .i64), (85, .int .i64)] (fun l h => J.cons l fun x0 l => J.ci .i64 l fun x1 l => J.cons l fun x2 l => J.cons l fun x3 l => J.ci .i64 l fun x4 l => J.cons l fun x5 l => J.cons l fun x6 l => J.ci .i64 l fun x7 l => J.ci .i64 l fun x8 l => J.nil l (s21c4 Ψ (fun y0 y1 y2 y3 y4 y5 y6 y7 y8 h => L3 [y0, (.int .i64 y1), y2, y3, (.int .i64 y4), y5, y6, (.int .i64 y7), (.int .i64 y8)] h) x0 x1 x2 x3 x4 x5 x6 x7 x8 h)) (.block (.seq (rA 3)
 (.seq (rA 9)
 (.seq (rA 2)
 (.block (.seq (rA 2)
 (.cond (.seq (rA 9)
 (.seq (.seq (rA 2)
 (.cond (.seq (rA 2)
 (.leaf))
 (.leaf)))
 (rA 4)))
 (.seq (rA 2)
 (.cond (rA 4)
 (.seq (rA 2)
 (.cond (rA 16)
 (.seq (rA 2)
 (.cond (rA 16)
 (.seq (rA 2)
 (.cond (rA 13)
 (.leaf))))))))))))))))
 (rA 2)))))))
 (.seq (rA 5)
 (.leaf)))))))))))

theorem s21_ok {Ψ : AVal → Heap → Prop} {a_Leq : AVal} {t : AVal} {id_ : Int} {by_ : AVal} {h : Heap} (H : s21 Ψ a_Leq t id_ by_ h) : ACalls prog 21 [(.agg [a_Leq]), t, (.int .i64 id_), by_] h Ψ :=
 calls_of_evF func21 (by kernel_rfl) (by kernel_rfl) (by kernel_rfl)
 (Eq.mpr (by as_aux_lemma => kernel_rfl : oblF prog f21 (s21_A Ψ) Ψ = ((True) ∧ ((True) ∧ ((otP 13) ∧ ((True) ∧ ((otP 13) ∧ ((True) ∧ (((True) ∧ ((∀ (h : Heap) (x0 : AVal) (x1 : Int) (x2 x3 x4 x5 : AVal) (x6 x7 : Int), ON (s21l1 Ψ 0 x0 x1 x2 x3 x4 x5 x6 x7 h)) ∧ (∀ n1 : Nat, (∀ (h : Heap) (x0 : AVal) (x1 : Int) (x2 x3 x4 x5 : AVal) (x6 x7 : Int), OI (s21l1 Ψ (n1 + 1) x0 x1 x2 x3 x4 x5 x6 x7 h)) ∧ ((True) ∧ ((otP 1) ∧ (((True) ∧ (((True) ∧ ((True) ∧ ((∀ (h : Heap) (x0 : AVal) (x1 : Int) (x2 x3 x4 x5 x6 : AVal) (x7 x8 : Int) (x9 : Bool), OI (s21c2 Ψ (s21l1_G (s21l1 Ψ n1)) x0 x1 x2 x3 x4 x5 x6 x7 x8 x9 h)) ∧ (otP 3)))) ∧ (True))) ∧ (True))))))) ∧ ((True) ∧ ((True) ∧ (((True) ∧ ((∀ (h : Heap) (x0 : AVal) (x1 : Int) (x2 x3 : AVal) (x4 : Int) (x5 x6 : AVal) (x7 x8 : Int), ON (s21l3 Ψ 0 x0 x1 x2 x3 x4 x5 x6 x7 x8 h)) ∧ (∀ n3 : Nat, (∀ (h : Heap) (x0 : AVal) (x1 : Int) (x2 x3 : AVal) (x4 : Int) (x5 x6 : AVal) (x7 x8 : Int), OI (s21l3 Ψ (n3 + 1) x0 x1 x2 x3 x4 x5 x6 x7 x8 h)) ∧ ((True) ∧ ((otP 1) ∧ ((otP 22906198869) ∧ ((∀ (h : Heap) (x0 : AVal) (x1 : Int) (x2 x3 : AVal) (x4 : Int) (x5 x6 : AVal) (x7 x8 : Int), OI (s21c4 Ψ (s21l3_G (s21l3 Ψ n3)) x0 x1 x2 x3 x4 x5 x6 x7 x8 h)) ∧ (True)))))))) ∧ (otP 1)))))))))))) (⟨trivial, ⟨trivial, ⟨otP_ok 13, ⟨trivial, ⟨otP_ok 13, ⟨trivial, ⟨⟨trivial, ⟨fun _ _ _ _ _ _ _ _ _ H => H, fun _ => ⟨fun _ _ _ _ _ _ _ _ _ H => H, ⟨trivial, ⟨otP_ok 1, ⟨⟨trivial, ⟨⟨trivial, ⟨trivial, ⟨fun _ _ _ _ _ _ _ _ _ _ _ H => H, otP_ok 3⟩⟩⟩, trivial⟩⟩, trivial⟩⟩⟩⟩⟩⟩, ⟨trivial, ⟨trivial, ⟨⟨trivial, ⟨fun _ _ _ _ _ _ _ _ _ _ H => H, fun _ => ⟨fun _ _ _ _ _ _ _ _ _ _ H => H, ⟨trivial, ⟨otP_ok 1, ⟨otP_ok 22906198869, ⟨fun _ _ _ _ _ _ _ _ _ _ H => H, trivial⟩⟩⟩⟩⟩⟩⟩, otP_ok 1⟩⟩⟩⟩⟩⟩⟩⟩⟩⟩))
 (Eq.mpr (by as_aux_lemma => kernel_rfl : evF prog f21 (s21_A Ψ) Ψ [(.agg [a_Leq]), t, (.int .i64 id_), by_] h = s21 Ψ a_Leq t id_ by_ h) H)

/- 25 dictum/heyting.Bounds -/
def s25 (Ψ : AVal → Heap → Prop) (a_Leq : AVal) (h : Heap) : Prop :=
 callG prog 35 [(.agg [a_Leq]), .nilsl] h fun v h_ =>
 tTup v fun l_ =>
 tCons l_ fun v1 l_1 =>
 tCons l_1 fun v2 l_2 =>
 tInt .i64 v2 fun v3 =>
 tNil l_2 (
 tAgg v1 fun l_3 =>
 tCons l_3 fun v4 l_4 =>
 tInt .i64 v4 fun v5 =>
 tCons l_4 fun v6 l_5 =>
 tNil l_5 (
 Sym.newRow 2 [(.agg [(.int .i64 0), .nilfunc])] h_ fun r h_1 =>
 st false h_1 (.ptr r 0 0) [(.int .i64 v5), v6] fun h_2 =>
 ifT (v3 != 0) (
 retG (.tuple [(.int .i64 0), (.int .i64 0), (.int .i64 v3)]) h_2 Ψ) (
 ldN 2 h_2 (.ptr r 0 0) fun l_6 =>
 tCons l_6 fun v7 l_7 =>
 tInt .i64 v7 fun v8 =>
 tCons l_7 fun v9 l_8 =>
 tNil l_8 (
 callG prog 36 [(.agg [(.int .i64 v8), v9])] h_2 fun v10 h_3 =>
 tTup v10 fun l_9 =>
 tCons l_9 fun v11 l_10 =>
 tInt .i64 v11 fun v12 =>
 tCons l_10 fun v13 l_11 =>
 tInt .i64 v13 fun v14 =>
 tNil l_11 (
 retG (.tuple [(.int .i64 v12), (.int .i64 v14), (.int .i64 0)]) h_3 Ψ)))))

def s25_A (Ψ : AVal → Heap → Prop) : Ann :=
 .seq (.reg [⟨none, [(0, true), (1, false), (2, false), (3, false)]⟩])
 (.seq (rA 8)
 (.seq (.seq (rA 2)
 (.cond (.seq (rA 4)
 (.leaf))
 (.leaf)))
 (.seq (rA 7)
 (.seq (rA 5)
 (.leaf)))))

theorem s25_ok {Ψ : AVal → Heap → Prop} {a_Leq : AVal} {h : Heap} (H : s25 Ψ a_Leq h) : ACalls prog 25 [(.agg [a_Leq])] h Ψ :=
 calls_of_evF func25 (by kernel_rfl) (by kernel_rfl) (by kernel_rfl)
 (Eq.mpr (by as_aux_lemma => kernel_rfl : oblF prog f25 (s25_A Ψ) Ψ = (otP 20917)) (otP_ok 20917))
 (Eq.mpr (by as_aux_lemma => kernel_rfl : evF prog f25 (s25_A Ψ) Ψ [(.agg [a_Leq])] h = s25 Ψ a_Leq h) H)

/- 27 dictum/heyting.upsets -/
abbrev s27l1_T := AVal → AVal → Int → Int → Heap → Prop
def s27l1_R (F : s27l1_T) (l : List AVal) (h : Heap) : Prop := J.cons l fun x0 l => J.cons l fun x1 l => J.ci .i64 l fun x2 l => J.ci .i64 l fun x3 l => J.nil l (F x0 x1 x2 x3 h)
def s27l1_G (F : s27l1_T) (x0 x1 : AVal) (x2 x3 : Int) (h : Heap) : Prop := gJ [.any, .any, .int .i64, .int .i64] [x0, x1, (.int .i64 x2), (.int .i64 x3)] h (s27l1_R F)
def s27l1_E (F : Nat → s27l1_T) (x0 x1 : AVal) (x2 x3 : Int) (h : Heap) : Prop := gJ [.any, .any, .int .i64, .int .i64] [x0, x1, (.int .i64 x2), (.int .i64 x3)] h (fun l h => ∃ n, s27l1_R (F n) l h)
theorem s27l1_go {F : s27l1_T} {x0 x1 : AVal} {x2 x3 : Int} {h : Heap} (H : F x0 x1 x2 x3 h) : s27l1_G F x0 x1 x2 x3 h := gJ_plain rfl H
theorem s27l1_in {F : Nat → s27l1_T} {x0 x1 : AVal} {x2 x3 : Int} {h : Heap} (n : Nat) (H : F n x0 x1 x2 x3 h) : s27l1_E F x0 x1 x2 x3 h := gJ_plain rfl ⟨n, H⟩

abbrev s27l2_T := AVal → AVal → AVal → Int → Heap → Prop
def s27l2_R (F : s27l2_T) (l : List AVal) (h : Heap) : Prop := J.cons l fun x0 l => J.cons l fun x1 l => J.cons l fun x2 l => J.ci .i64 l fun x3 l => J.nil l (F x0 x1 x2 x3 h)
def s27l2_G (F : s27l2_T) (x0 x1 x2 : AVal) (x3 : Int) (h : Heap) : Prop := gJ [.any, .any, .any, .int .i64] [x0, x1, x2, (.int .i64 x3)] h (s27l2_R F)
def s27l2_E (F : Nat → s27l2_T) (x0 x1 x2 : AVal) (x3 : Int) (h : Heap) : Prop := gJ [.any, .any, .any, .int .i64] [x0, x1, x2, (.int .i64 x3)] h (fun l h => ∃ n, s27l2_R (F n) l h)
theorem s27l2_go {F : s27l2_T} {x0 x1 x2 : AVal} {x3 : Int} {h : Heap} (H : F x0 x1 x2 x3 h) : s27l2_G F x0 x1 x2 x3 h := gJ_plain rfl H
theorem s27l2_in {F : Nat → s27l2_T} {x0 x1 x2 : AVal} {x3 : Int} {h : Heap} (n : Nat) (H : F n x0 x1 x2 x3 h) : s27l2_E F x0 x1 x2 x3 h := gJ_plain rfl ⟨n, H⟩

abbrev s27l3_T := AVal → AVal → AVal → Int → AVal → Int → Int → Heap → Prop
def s27l3_R (F : s27l3_T) (l : List AVal) (h : Heap) : Prop := J.cons l fun x0 l => J.cons l fun x1 l => J.cons l fun x2 l => J.ci .i64 l fun x3 l => J.cons l fun x4 l => J.ci .i64 l fun x5 l => J.ci .i64 l fun x6 l => J.nil l (F x0 x1 x2 x3 x4 x5 x6 h)
def s27l3_G (F : s27l3_T) (x0 x1 x2 : AVal) (x3 : Int) (x4 : AVal) (x5 x6 : Int) (h : Heap) : Prop := gJ [.any, .any, .any, .int .i64, .any, .int .i64, .int .i64] [x0, x1, x2, (.int .i64 x3), x4, (.int .i64 x5), (.int .i64 x6)] h (s27l3_R F)
def s27l3_E (F : Nat → s27l3_T) (x0 x1 x2 : AVal) (x3 : Int) (x4 : AVal) (x5 x6 : Int) (h : Heap) : Prop := gJ [.any, .any, .any, .int .i64, .any, .int .i64, .int .i64] [x0, x1, x2, (.int .i64 x3), x4, (.int .i64 x5), (.int .i64 x6)] h (fun l h => ∃ n, s27l3_R (F n) l h)
theorem s27l3_go {F : s27l3_T} {x0 x1 x2 : AVal} {x3 : Int} {x4 : AVal} {x5 x6 : Int} {h : Heap} (H : F x0 x1 x2 x3 x4 x5 x6 h) : s27l3_G F x0 x1 x2 x3 x4 x5 x6 h := gJ_plain rfl H
theorem s27l3_in {F : Nat → s27l3_T} {x0 x1 x2 : AVal} {x3 : Int} {x4 : AVal} {x5 x6 : Int} {h : Heap} (n : Nat) (H : F n x0 x1 x2 x3 x4 x5 x6 h) : s27l3_E F x0 x1 x2 x3 x4 x5 x6 h := gJ_plain rfl ⟨n, H⟩

def s27c4 (Ψ : AVal → Heap → Prop) (L2 : s27l2_T) (L3 : s27l3_T) (cones3 l_8 seen2 : AVal) (i2 : Int) (t54_1 : AVal) (t55_1 t56_1 : Int) (h : Heap) : Prop :=
 rg (t56_1 + 1) (
 L3 cones3 l_8 seen2 i2 t54_1 t55_1 (t56_1 + 1) h)

def s27l3 (Ψ : AVal → Heap → Prop) (L2 : s27l2_T) : Nat → s27l3_T
 | 0, _, _, _, _, _, _, _, _ => False
 | n6 + 1, cones2, l_7, seen1, i1, t54, t55, t56, h =>
 ifT (decide (t56 < t55)) (
 ixS 1 t54 t56 fun p2 =>
 ld1 h p2 fun v13 =>
 ixS 1 l_7 i1 fun p3 =>
 ld1 h p3 fun v14 =>
 tStr v14 fun v15 =>
 callG prog 28 [(.str v15), v13] h fun v16 h_7 =>
 tStr v16 fun v17 =>
 mapGet (.int .i64 0) h_7 seen1 (.str v17) fun v18 b =>
 tInt .i64 v18 fun v19 =>
 ifT (decide (0 < v19)) (
 s27c4 Ψ L2 (s27l3_G (s27l3 Ψ L2 n6)) cones2 l_7 seen1 i1 t54 t55 t56 h_7) (
 lenN l_7 fun n7 =>
 ifT (n7 == 64) (
 retG (.tuple [.nilsl, (.int .i64 231)]) h_7 Ψ) (
 mapPut h_7 seen1 (.str v17) (.int .i64 1) fun h_8 =>
 appC 1 16 h_8 l_7 (.lsl 1 [(.str v17)]) fun v20 h_9 =>
 s27c4 Ψ L2 (s27l3_G (s27l3 Ψ L2 n6)) cones2 v20 seen1 i1 t54 t55 t56 h_9))) (
 rg (i1 + 1) (
 L2 cones2 l_7 seen1 (i1 + 1) h))

def s27l2 (Ψ : AVal → Heap → Prop) : Nat → s27l2_T
 | 0, _, _, _, _, _ => False
 | n3 + 1, cones1, l_6, seen, i, h =>
 lenN l_6 fun n4 =>
 ifT (decide (i < n4)) (
 lenN cones1 fun n5 =>
 s27l3_E (s27l3 Ψ (s27l2_G (s27l2 Ψ n3))) cones1 l_6 seen i cones1 n5 0 h) (
 callG prog 61 [l_6, (.func (.func 62) [] [])] h fun v21 h_10 =>
 retG (.tuple [l_6, (.int .i64 0)]) h_10 Ψ)

def s27l1 (Ψ : AVal → Heap → Prop) : Nat → s27l1_T
 | 0, _, _, _, _, _ => False
 | n1 + 1, m, cones, t22, t23, h =>
 ifT (decide (t23 < t22)) (
 ldN 2 h m fun l_ =>
 tCons l_ fun v2 l_1 =>
 tCons l_1 fun v3 l_2 =>
 tNil l_2 (
 callG prog 60 [(.agg [v2, v3]), (.int .i64 t23)] h fun v4 h_1 =>
 tTup v4 fun l_3 =>
 tCons l_3 fun v5 l_4 =>
 tCons l_4 fun v6 l_5 =>
 tInt .i64 v6 fun v7 =>
 tNil l_5 (
 chk (sc v5) (
 appC 1 24 h_1 cones (.lsl 1 [v5]) fun v8 h_2 =>
 rg (t23 + 1) (
 s27l1_G (s27l1 Ψ n1) m v8 t22 (t23 + 1) h_2))))) (
 addOff m 0 fun p =>
 ld1 h p fun v9 =>
 lenN v9 fun n2 =>
 mkS false 1 1 (.int .u8 0) h n2 n2 fun v10 h_3 =>
 bStr h_3 v10 fun s =>
 Sym.newRow 1 [(.str s)] h_3 fun r h_4 =>
 newMap h_4 fun r1 h_5 =>
 ixS 1 (.sl r 1 0 1) 0 fun p1 =>
 ld1 h_5 p1 fun v11 =>
 tStr v11 fun v12 =>
 mapPut h_5 (.mapr r1) (.str v12) (.int .i64 1) fun h_6 =>
 s27l2_E (s27l2 Ψ) cones (.sl r 1 0 1) (.mapr r1) 0 h_6)

def s27 (Ψ : AVal → Heap → Prop) (m_Up : AVal) (m_Val : AVal) (h : Heap) : Prop :=
 callG prog 59 [(.agg [m_Up, m_Val])] h fun v h_ =>
 tInt .i64 v fun v1 =>
 ifT (v1 != 0) (
 retG (.tuple [.nilsl, (.int .i64 v1)]) h_ Ψ) (
 lenN m_Up fun n =>
 s27l1_E (s27l1 Ψ) (.lptr [m_Up, m_Val]) .nilsl n 0 h_)

def s27_A (Ψ : AVal → Heap → Prop) : Ann :=
 .seq (.reg [⟨none, [(0, true), (1, false), (2, false)]⟩])
 (.seq (.seq (rA 3)
 (.seq (rA 2)
 (.cond (.seq (rA 3)
 (.leaf))
 (.leaf))))
 (.seq (rA 1)
 (.seq (.seq (rA 4)
 (.block (.loop [(1, .any), (5, .any), (22, .int .i64), (23, .int .i64)] (fun n l h => s27l1_R (s27l1 Ψ n) l h) (fun L1 =>
 .seq (rA 1)
 (.seq (.cond (.leaf)
 (.leaf))
 (.seq (.block (.seq (rA 2)
 (.seq (rA 8)
 (.reg [⟨none, [(0, false), (1, false), (2, true), (3, false), (4, false)]⟩]))))
 (rA 2)))))))
 (.seq (rA 7)
 (.seq (rA 7)
 (.seq (.seq (rA 1)
 (.block (.loop [(5, .any), (9, .any), (10, .any), (11, .int .i64)] (fun n l h => s27l2_R (s27l2 Ψ n) l h) (fun L2 =>
 .seq (.seq (rA 4)
 (.cond (.leaf)
 (.leaf)))
 (.seq (.block (.seq (rA 3)
 (.block (.loop [(5, .any), (9, .any), (10, .any), (11, .int .i64), (54, .any), (55, .int .i64), (56, .int .i64)] (fun n l h => s27l3_R (s27l3 Ψ (fun y0 y1 y2 y3 h => L2 [y0, y1, y2, (.int .i64 y3)] h) n) l h) (fun L3 =>
 .seq (rA 1)
 (.seq (.cond (.leaf)
 (.leaf))
 (.cut [(5, .any), (9, .any), (10, .any), (11, .int .i64), (54, .any), (55, .int .i64), (56, .int .i64)] (fun l h => J.cons l fun x0 l => J.cons l fun x1 l => J.cons l fun x2 l => J.ci .i64 l fun x3 l => J.cons l fun x4 l => J.ci .i64 l fun x5 l => J.ci .i64 l fun x6 l => J.nil l (s27c4 Ψ (fun y0 y1 y2 y3 h => L2 [y0, y1, y2, (.int .i64 y3)] h) (fun y0 y1 y2 y3 y4 y5 y6 h => L3 [y0, y1, y2, (.int .i64 y3), y4, (.int .i64 y5), (.int .i64 y6)] h) x0 x1 x2 x3 x4 x5 x6 h)) (.block (.seq (rA 3)
 (.seq (rA 7)
 (.seq (.seq (rA 4)
 (.cond (.leaf)
 (.leaf)))
 (.seq (.seq (rA 3)
 (.cond (.seq (rA 2)
 (.leaf))
 (.leaf)))
 (.seq (rA 3)
 (.reg [⟨none, [(0, false), (1, false), (2, true), (3, false), (4, false)]⟩])))))))
 (rA 2))))))))
 (rA 3))))))
 (.seq (rA 2)
 (.seq (rA 3)
 (.leaf)))))))))

theorem s27_ok {Ψ : AVal → Heap → Prop} {m_Up : AVal} {m_Val : AVal} {h : Heap} (H : s27 Ψ m_Up m_Val h) : ACalls prog 27 [(.agg [m_Up, m_Val])] h Ψ :=
 calls_of_evF func27 (by kernel_rfl) (by kernel_rfl) (by kernel_rfl)
 (Eq.mpr (by as_aux_lemma => kernel_rfl : oblF prog f27 (s27_A Ψ) Ψ = ((True) ∧ ((otP 53) ∧ ((True) ∧ (((True) ∧ ((∀ (h : Heap) (x0 x1 : AVal) (x2 x3 : Int), ON (s27l1 Ψ 0 x0 x1 x2 x3 h)) ∧ (∀ n1 : Nat, (∀ (h : Heap) (x0 x1 : AVal) (x2 x3 : Int), OI (s27l1 Ψ (n1 + 1) x0 x1 x2 x3 h)) ∧ (otP 717)))) ∧ ((True) ∧ ((True) ∧ (((True) ∧ ((∀ (h : Heap) (x0 x1 x2 : AVal) (x3 : Int), ON (s27l2 Ψ 0 x0 x1 x2 x3 h)) ∧ (∀ n2 : Nat, (∀ (h : Heap) (x0 x1 x2 : AVal) (x3 : Int), OI (s27l2 Ψ (n2 + 1) x0 x1 x2 x3 h)) ∧ ((otP 5) ∧ (((True) ∧ ((∀ (h : Heap) (x0 x1 x2 : AVal) (x3 : Int) (x4 : AVal) (x5 x6 : Int), ON (s27l3 Ψ (s27l2_G (s27l2 Ψ n2)) 0 x0 x1 x2 x3 x4 x5 x6 h)) ∧ (∀ n3 : Nat, (∀ (h : Heap) (x0 x1 x2 : AVal) (x3 : Int) (x4 : AVal) (x5 x6 : Int), OI (s27l3 Ψ (s27l2_G (s27l2 Ψ n2)) (n3 + 1) x0 x1 x2 x3 x4 x5 x6 h)) ∧ ((True) ∧ ((otP 1) ∧ ((otP 289973) ∧ ((∀ (h : Heap) (x0 x1 x2 : AVal) (x3 : Int) (x4 : AVal) (x5 x6 : Int), OI (s27c4 Ψ (s27l2_G (s27l2 Ψ n2)) (s27l3_G (s27l3 Ψ (s27l2_G (s27l2 Ψ n2)) n3)) x0 x1 x2 x3 x4 x5 x6 h)) ∧ (True)))))))) ∧ (True)))))) ∧ (otP 5))))))))) (⟨trivial, ⟨otP_ok 53, ⟨trivial, ⟨⟨trivial, ⟨fun _ _ _ _ _ H => H, fun _ => ⟨fun _ _ _ _ _ H => H, otP_ok 717⟩⟩⟩, ⟨trivial, ⟨trivial, ⟨⟨trivial, ⟨fun _ _ _ _ _ H => H, fun _ => ⟨fun _ _ _ _ _ H => H, ⟨otP_ok 5, ⟨⟨trivial, ⟨fun _ _ _ _ _ _ _ _ H => H, fun _ => ⟨fun _ _ _ _ _ _ _ _ H => H, ⟨trivial, ⟨otP_ok 1, ⟨otP_ok 289973, ⟨fun _ _ _ _ _ _ _ _ H => H, trivial⟩⟩⟩⟩⟩⟩⟩, trivial⟩⟩⟩⟩⟩, otP_ok 5⟩⟩⟩⟩⟩⟩⟩))
 (Eq.mpr (by as_aux_lemma => kernel_rfl : evF prog f27 (s27_A Ψ) Ψ [(.agg [m_Up, m_Val])] h = s27 Ψ m_Up m_Val h) H)

/- 31 slices.Sort[[]string,string] -/
def s31 (Ψ : AVal → Heap → Prop) (x : AVal) (h : Heap) : Prop :=
 lenN x fun n =>
 callG prog 67 [(.int .u64 (IntKind.u64.wrap n))] h fun v h_ =>
 tInt .i64 v fun v1 =>
 callG prog 66 [x, (.int .i64 0), (.int .i64 n), (.int .i64 v1)] h_ fun v2 h_1 =>
 retG (.tuple []) h_1 Ψ

def s31_A (Ψ : AVal → Heap → Prop) : Ann :=
 .seq (rA 3)
 (rA 6)

theorem s31_ok {Ψ : AVal → Heap → Prop} {x : AVal} {h : Heap} (H : s31 Ψ x h) : ACalls prog 31 [x] h Ψ :=
 calls_of_evF func31 (by kernel_rfl) (by kernel_rfl) (by kernel_rfl)
 (Eq.mpr (by as_aux_lemma => kernel_rfl : oblF prog f31 (s31_A Ψ) Ψ = (otP 1)) (otP_ok 1))
 (Eq.mpr (by as_aux_lemma => kernel_rfl : evF prog f31 (s31_A Ψ) Ψ [x] h = s31 Ψ x h) H)

/- 35 dictum/heyting.look -/
abbrev s35l2_T := AVal → AVal → AVal → AVal → AVal → AVal → Int → Int → Heap → Prop
def s35l2_R (F : s35l2_T) (l : List AVal) (h : Heap) : Prop := J.cons l fun x0 l => J.cons l fun x1 l => J.cons l fun x2 l => J.cons l fun x3 l => J.cons l fun x4 l => J.cons l fun x5 l => J.ci .i64 l fun x6 l => J.ci .i64 l fun x7 l => J.nil l (F x0 x1 x2 x3 x4 x5 x6 x7 h)
def s35l2_G (F : s35l2_T) (x0 x1 x2 x3 x4 x5 : AVal) (x6 x7 : Int) (h : Heap) : Prop := gJ [.any, .any, .any, .any, .any, .any, .int .i64, .int .i64] [x0, x1, x2, x3, x4, x5, (.int .i64 x6), (.int .i64 x7)] h (s35l2_R F)
def s35l2_E (F : Nat → s35l2_T) (x0 x1 x2 x3 x4 x5 : AVal) (x6 x7 : Int) (h : Heap) : Prop := gJ [.any, .any, .any, .any, .any, .any, .int .i64, .int .i64] [x0, x1, x2, x3, x4, x5, (.int .i64 x6), (.int .i64 x7)] h (fun l h => ∃ n, s35l2_R (F n) l h)
theorem s35l2_go {F : s35l2_T} {x0 x1 x2 x3 x4 x5 : AVal} {x6 x7 : Int} {h : Heap} (H : F x0 x1 x2 x3 x4 x5 x6 x7 h) : s35l2_G F x0 x1 x2 x3 x4 x5 x6 x7 h := gJ_plain rfl H
theorem s35l2_in {F : Nat → s35l2_T} {x0 x1 x2 x3 x4 x5 : AVal} {x6 x7 : Int} {h : Heap} (n : Nat) (H : F n x0 x1 x2 x3 x4 x5 x6 x7 h) : s35l2_E F x0 x1 x2 x3 x4 x5 x6 x7 h := gJ_plain rfl ⟨n, H⟩

abbrev s35l3_T := AVal → AVal → AVal → AVal → AVal → AVal → Int → Int → Int → Int → Int → Heap → Prop
def s35l3_R (F : s35l3_T) (l : List AVal) (h : Heap) : Prop := J.cons l fun x0 l => J.cons l fun x1 l => J.cons l fun x2 l => J.cons l fun x3 l => J.cons l fun x4 l => J.cons l fun x5 l => J.ci .i64 l fun x6 l => J.ci .i64 l fun x7 l => J.ci .i64 l fun x8 l => J.ci .i64 l fun x9 l => J.ci .i64 l fun x10 l => J.nil l (F x0 x1 x2 x3 x4 x5 x6 x7 x8 x9 x10 h)
def s35l3_G (F : s35l3_T) (x0 x1 x2 x3 x4 x5 : AVal) (x6 x7 x8 x9 x10 : Int) (h : Heap) : Prop := gJ [.any, .any, .any, .any, .any, .any, .int .i64, .int .i64, .int .i64, .int .i64, .int .i64] [x0, x1, x2, x3, x4, x5, (.int .i64 x6), (.int .i64 x7), (.int .i64 x8), (.int .i64 x9), (.int .i64 x10)] h (s35l3_R F)
def s35l3_E (F : Nat → s35l3_T) (x0 x1 x2 x3 x4 x5 : AVal) (x6 x7 x8 x9 x10 : Int) (h : Heap) : Prop := gJ [.any, .any, .any, .any, .any, .any, .int .i64, .int .i64, .int .i64, .int .i64, .int .i64] [x0, x1, x2, x3, x4, x5, (.int .i64 x6), (.int .i64 x7), (.int .i64 x8), (.int .i64 x9), (.int .i64 x10)] h (fun l h => ∃ n, s35l3_R (F n) l h)
theorem s35l3_go {F : s35l3_T} {x0 x1 x2 x3 x4 x5 : AVal} {x6 x7 x8 x9 x10 : Int} {h : Heap} (H : F x0 x1 x2 x3 x4 x5 x6 x7 x8 x9 x10 h) : s35l3_G F x0 x1 x2 x3 x4 x5 x6 x7 x8 x9 x10 h := gJ_plain rfl H
theorem s35l3_in {F : Nat → s35l3_T} {x0 x1 x2 x3 x4 x5 : AVal} {x6 x7 x8 x9 x10 : Int} {h : Heap} (n : Nat) (H : F n x0 x1 x2 x3 x4 x5 x6 x7 x8 x9 x10 h) : s35l3_E F x0 x1 x2 x3 x4 x5 x6 x7 x8 x9 x10 h := gJ_plain rfl ⟨n, H⟩

abbrev s35l4_T := AVal → AVal → AVal → AVal → AVal → AVal → Int → Int → Int → Int → Int → Int → Int → Int → Heap → Prop
def s35l4_R (F : s35l4_T) (l : List AVal) (h : Heap) : Prop := J.cons l fun x0 l => J.cons l fun x1 l => J.cons l fun x2 l => J.cons l fun x3 l => J.cons l fun x4 l => J.cons l fun x5 l => J.ci .i64 l fun x6 l => J.ci .i64 l fun x7 l => J.ci .i64 l fun x8 l => J.ci .i64 l fun x9 l => J.ci .i64 l fun x10 l => J.ci .i64 l fun x11 l => J.ci .i64 l fun x12 l => J.ci .i64 l fun x13 l => J.nil l (F x0 x1 x2 x3 x4 x5 x6 x7 x8 x9 x10 x11 x12 x13 h)
def s35l4_G (F : s35l4_T) (x0 x1 x2 x3 x4 x5 : AVal) (x6 x7 x8 x9 x10 x11 x12 x13 : Int) (h : Heap) : Prop := gJ [.any, .any, .any, .any, .any, .any, .int .i64, .int .i64, .int .i64, .int .i64, .int .i64, .int .i64, .int .i64, .int .i64] [x0, x1, x2, x3, x4, x5, (.int .i64 x6), (.int .i64 x7), (.int .i64 x8), (.int .i64 x9), (.int .i64 x10), (.int .i64 x11), (.int .i64 x12), (.int .i64 x13)] h (s35l4_R F)
def s35l4_E (F : Nat → s35l4_T) (x0 x1 x2 x3 x4 x5 : AVal) (x6 x7 x8 x9 x10 x11 x12 x13 : Int) (h : Heap) : Prop := gJ [.any, .any, .any, .any, .any, .any, .int .i64, .int .i64, .int .i64, .int .i64, .int .i64, .int .i64, .int .i64, .int .i64] [x0, x1, x2, x3, x4, x5, (.int .i64 x6), (.int .i64 x7), (.int .i64 x8), (.int .i64 x9), (.int .i64 x10), (.int .i64 x11), (.int .i64 x12), (.int .i64 x13)] h (fun l h => ∃ n, s35l4_R (F n) l h)
theorem s35l4_go {F : s35l4_T} {x0 x1 x2 x3 x4 x5 : AVal} {x6 x7 x8 x9 x10 x11 x12 x13 : Int} {h : Heap} (H : F x0 x1 x2 x3 x4 x5 x6 x7 x8 x9 x10 x11 x12 x13 h) : s35l4_G F x0 x1 x2 x3 x4 x5 x6 x7 x8 x9 x10 x11 x12 x13 h := gJ_plain rfl H
theorem s35l4_in {F : Nat → s35l4_T} {x0 x1 x2 x3 x4 x5 : AVal} {x6 x7 x8 x9 x10 x11 x12 x13 : Int} {h : Heap} (n : Nat) (H : F n x0 x1 x2 x3 x4 x5 x6 x7 x8 x9 x10 x11 x12 x13 h) : s35l4_E F x0 x1 x2 x3 x4 x5 x6 x7 x8 x9 x10 x11 x12 x13 h := gJ_plain rfl ⟨n, H⟩

def s35l4 (Ψ : AVal → Heap → Prop) (L2 : s35l2_T) (L3 : s35l3_T) : Nat → s35l4_T
 | 0, _, _, _, _, _, _, _, _, _, _, _, _, _, _, _ => False
 | n7 + 1, elems4, t4_3, n6, l_22, meets2, joins2, x1, y, t49_2, t50_2, t53_1, t54_1, t57, t58, h =>
 ifT (decide (t58 < t57)) (
 ixS 1 meets2 x1 fun p =>
 ld1 h p fun v28 =>
 ixS 1 joins2 y fun p1 =>
 ld1 h p1 fun v29 =>
 ixS 1 v29 t58 fun p2 =>
 ld1 h p2 fun v30 =>
 tInt .i64 v30 fun v31 =>
 ixS 1 v28 v31 fun p3 =>
 ld1 h p3 fun v32 =>
 tInt .i64 v32 fun v33 =>
 ixS 1 meets2 x1 fun p4 =>
 ld1 h p4 fun v34 =>
 ixS 1 v34 y fun p5 =>
 ld1 h p5 fun v35 =>
 tInt .i64 v35 fun v36 =>
 ixS 1 joins2 v36 fun p6 =>
 ld1 h p6 fun v37 =>
 ixS 1 meets2 x1 fun p7 =>
 ld1 h p7 fun v38 =>
 ixS 1 v38 t58 fun p8 =>
 ld1 h p8 fun v39 =>
 tInt .i64 v39 fun v40 =>
 ixS 1 v37 v40 fun p9 =>
 ld1 h p9 fun v41 =>
 tInt .i64 v41 fun v42 =>
 ifT (v33 != v42) (
 ldN 2 h l_22 fun l_23 =>
 tCons l_23 fun v43 l_24 =>
 tInt .i64 v43 fun v44 =>
 tCons l_24 fun v45 l_25 =>
 tNil l_25 (
 st false h t4_3 [(.int .i64 v44), v45] fun h_8 =>
 ldN 2 h_8 t4_3 fun l_26 =>
 tCons l_26 fun v46 l_27 =>
 tInt .i64 v46 fun v47 =>
 tCons l_27 fun v48 l_28 =>
 tNil l_28 (
 retG (.tuple [(.agg [(.int .i64 v47), v48]), (.int .i64 230)]) h_8 Ψ))) (
 rg (t58 + 1) (
 s35l4_G (s35l4 Ψ L2 L3 n7) elems4 t4_3 n6 l_22 meets2 joins2 x1 y t49_2 t50_2 t53_1 t54_1 t57 (t58 + 1) h))) (
 rg (t54_1 + 1) (
 L3 elems4 t4_3 n6 l_22 meets2 joins2 x1 t49_2 t50_2 t53_1 (t54_1 + 1) h))

def s35l3 (Ψ : AVal → Heap → Prop) (L2 : s35l2_T) : Nat → s35l3_T
 | 0, _, _, _, _, _, _, _, _, _, _, _, _ => False
 | n5 + 1, elems3, t4_2, n4, l_21, meets1, joins1, x, t49_1, t50_1, t53, t54, h =>
 ifT (decide (t54 < t53)) (
 ld1 h n4 fun v26 =>
 tInt .i64 v26 fun v27 =>
 s35l4_E (s35l4 Ψ L2 (s35l3_G (s35l3 Ψ L2 n5))) elems3 t4_2 n4 l_21 meets1 joins1 x t54 t49_1 t50_1 t53 t54 v27 0 h) (
 rg (t50_1 + 1) (
 L2 elems3 t4_2 n4 l_21 meets1 joins1 t49_1 (t50_1 + 1) h))

abbrev s35l5_T := AVal → AVal → AVal → AVal → Int → Int → Heap → Prop
def s35l5_R (F : s35l5_T) (l : List AVal) (h : Heap) : Prop := J.cons l fun x0 l => J.cons l fun x1 l => J.cons l fun x2 l => J.cons l fun x3 l => J.ci .i64 l fun x4 l => J.ci .i64 l fun x5 l => J.nil l (F x0 x1 x2 x3 x4 x5 h)
def s35l5_G (F : s35l5_T) (x0 x1 x2 x3 : AVal) (x4 x5 : Int) (h : Heap) : Prop := gJ [.any, .any, .any, .any, .int .i64, .int .i64] [x0, x1, x2, x3, (.int .i64 x4), (.int .i64 x5)] h (s35l5_R F)
def s35l5_E (F : Nat → s35l5_T) (x0 x1 x2 x3 : AVal) (x4 x5 : Int) (h : Heap) : Prop := gJ [.any, .any, .any, .any, .int .i64, .int .i64] [x0, x1, x2, x3, (.int .i64 x4), (.int .i64 x5)] h (fun l h => ∃ n, s35l5_R (F n) l h)
theorem s35l5_go {F : s35l5_T} {x0 x1 x2 x3 : AVal} {x4 x5 : Int} {h : Heap} (H : F x0 x1 x2 x3 x4 x5 h) : s35l5_G F x0 x1 x2 x3 x4 x5 h := gJ_plain rfl H
theorem s35l5_in {F : Nat → s35l5_T} {x0 x1 x2 x3 : AVal} {x4 x5 : Int} {h : Heap} (n : Nat) (H : F n x0 x1 x2 x3 x4 x5 h) : s35l5_E F x0 x1 x2 x3 x4 x5 h := gJ_plain rfl ⟨n, H⟩

def s35c6 (Ψ : AVal → Heap → Prop) (L5 : s35l5_T) (t4_5 n13 l_30 t98_1 : AVal) (t99_1 t100_1 : Int) (t110 : Bool) (h : Heap) : Prop :=
 ifT t110 (
 ldN 2 h l_30 fun l_31 =>
 tCons l_31 fun v51 l_32 =>
 tInt .i64 v51 fun v52 =>
 tCons l_32 fun v53 l_33 =>
 tNil l_33 (
 st false h t4_5 [(.int .i64 v52), v53] fun h_9 =>
 ldN 2 h_9 t4_5 fun l_34 =>
 tCons l_34 fun v54 l_35 =>
 tInt .i64 v54 fun v55 =>
 tCons l_35 fun v56 l_36 =>
 tNil l_36 (
 retG (.tuple [(.agg [(.int .i64 v55), v56]), (.int .i64 2)]) h_9 Ψ))) (
 rg (t100_1 + 1) (
 L5 t4_5 n13 l_30 t98_1 t99_1 (t100_1 + 1) h))

def s35l5 (Ψ : AVal → Heap → Prop) : Nat → s35l5_T
 | 0, _, _, _, _, _, _, _ => False
 | n12 + 1, t4_4, n11, l_29, t98, t99, t100, h =>
 ifT (decide (t100 < t99)) (
 ixS 1 t98 t100 fun p10 =>
 ld1 h p10 fun v49 =>
 tInt .i64 v49 fun v50 =>
 ifT (decide (v50 < 0)) (
 s35c6 Ψ (s35l5_G (s35l5 Ψ n12)) t4_4 n11 l_29 t98 t99 t100 true h) (
 ld1 h n11 fun v57 =>
 tInt .i64 v57 fun v58 =>
 s35c6 Ψ (s35l5_G (s35l5 Ψ n12)) t4_4 n11 l_29 t98 t99 t100 (decide (v58 ≤ v50)) h)) (
 ldN 2 h l_29 fun l_37 =>
 tCons l_37 fun v59 l_38 =>
 tInt .i64 v59 fun v60 =>
 tCons l_38 fun v61 l_39 =>
 tNil l_39 (
 st false h t4_4 [(.int .i64 v60), v61] fun h_10 =>
 ldN 2 h_10 t4_4 fun l_40 =>
 tCons l_40 fun v62 l_41 =>
 tInt .i64 v62 fun v63 =>
 tCons l_41 fun v64 l_42 =>
 tNil l_42 (
 retG (.tuple [(.agg [(.int .i64 v63), v64]), (.int .i64 0)]) h_10 Ψ)))

def s35l2 (Ψ : AVal → Heap → Prop) : Nat → s35l2_T
 | 0, _, _, _, _, _, _, _, _, _ => False
 | n3 + 1, elems2, t4_1, n2, l_20, meets, joins, t49, t50, h =>
 ifT (decide (t50 < t49)) (
 ld1 h n2 fun v24 =>
 tInt .i64 v24 fun v25 =>
 s35l3_E (s35l3 Ψ (s35l2_G (s35l2 Ψ n3))) elems2 t4_1 n2 l_20 meets joins t50 t49 t50 v25 0 h) (
 lenN elems2 fun n10 =>
 s35l5_E (s35l5 Ψ) t4_1 n2 l_20 elems2 n10 0 h)

def s35c1 (Ψ : AVal → Heap → Prop) (elems1 t4 n1 l_ : AVal) (t38 : Bool) (h : Heap) : Prop :=
 ifT t38 (
 ldN 2 h l_ fun l_1 =>
 tCons l_1 fun v2 l_2 =>
 tInt .i64 v2 fun v3 =>
 tCons l_2 fun v4 l_3 =>
 tNil l_3 (
 st false h t4 [(.int .i64 v3), v4] fun h_5 =>
 ldN 2 h_5 t4 fun l_4 =>
 tCons l_4 fun v5 l_5 =>
 tInt .i64 v5 fun v6 =>
 tCons l_5 fun v7 l_6 =>
 tNil l_6 (
 retG (.tuple [(.agg [(.int .i64 v6), v7]), (.int .i64 230)]) h_5 Ψ))) (
 ldN 2 h l_ fun l_7 =>
 tCons l_7 fun v8 l_8 =>
 tInt .i64 v8 fun v9 =>
 tCons l_8 fun v10 l_9 =>
 tNil l_9 (
 callG prog 73 [(.agg [(.int .i64 v9), v10])] h fun v11 h_6 =>
 tTup v11 fun l_10 =>
 tCons l_10 fun v12 l_11 =>
 tCons l_11 fun v13 l_12 =>
 tCons l_12 fun v14 l_13 =>
 tBool v14 fun v15 =>
 tNil l_13 (
 ifT (!v15) (
 ldN 2 h_6 l_ fun l_14 =>
 tCons l_14 fun v16 l_15 =>
 tInt .i64 v16 fun v17 =>
 tCons l_15 fun v18 l_16 =>
 tNil l_16 (
 st false h_6 t4 [(.int .i64 v17), v18] fun h_7 =>
 ldN 2 h_7 t4 fun l_17 =>
 tCons l_17 fun v19 l_18 =>
 tInt .i64 v19 fun v20 =>
 tCons l_18 fun v21 l_19 =>
 tNil l_19 (
 retG (.tuple [(.agg [(.int .i64 v20), v21]), (.int .i64 230)]) h_7 Ψ))) (
 ld1 h_6 n1 fun v22 =>
 tInt .i64 v22 fun v23 =>
 s35l2_E (s35l2 Ψ) elems1 t4 n1 l_ v12 v13 v23 0 h_6))))

def s35 (Ψ : AVal → Heap → Prop) (a_Leq : AVal) (elems : AVal) (h : Heap) : Prop :=
 Sym.newRow 2 [(.agg [(.int .i64 0), .nilfunc])] h fun r h_ =>
 lenN a_Leq fun n =>
 Sym.newRow 1 [(.int .i64 0)] h_ fun r1 h_1 =>
 st true h_1 (.ptr r1 0 0) [(.int .i64 n)] fun h_2 =>
 ld1 h_2 (.ptr r1 0 0) fun v =>
 tInt .i64 v fun v1 =>
 Sym.newRow 2 [(.agg [(.int .i64 0), .nilfunc])] h_2 fun r2 h_3 =>
 st false h_3 (.ptr r2 0 0) [(.int .i64 v1), (.func (.func 69) [] [(.lptr [a_Leq])])] fun h_4 =>
 ld1 h_4 (.ptr r1 0 0) fun v65 =>
 tInt .i64 v65 fun v66 =>
 ifT (decide (v66 < 1)) (
 s35c1 Ψ elems (.ptr r 0 0) (.ptr r1 0 0) (.ptr r2 0 0) true h_4) (
 ld1 h_4 (.ptr r1 0 0) fun v67 =>
 tInt .i64 v67 fun v68 =>
 ifT (decide (64 < v68)) (
 s35c1 Ψ elems (.ptr r 0 0) (.ptr r1 0 0) (.ptr r2 0 0) true h_4) (
 callG prog 70 [a_Leq, (.func (.func 71) [] [(.ptr r1 0 0)])] h_4 fun v69 h_11 =>
 tBool v69 fun v70 =>
 ifT v70 (
 s35c1 Ψ elems (.ptr r 0 0) (.ptr r1 0 0) (.ptr r2 0 0) true h_11) (
 ldN 2 h_11 (.ptr r2 0 0) fun l_43 =>
 tCons l_43 fun v71 l_44 =>
 tInt .i64 v71 fun v72 =>
 tCons l_44 fun v73 l_45 =>
 tNil l_45 (
 callG prog 72 [(.agg [(.int .i64 v72), v73])] h_11 fun v74 h_12 =>
 tBool v74 fun v75 =>
 s35c1 Ψ elems (.ptr r 0 0) (.ptr r1 0 0) (.ptr r2 0 0) (!v75) h_12))))

def s35_A (Ψ : AVal → Heap → Prop) : Ann :=
 .seq (.reg [⟨none, [(0, true), (1, false), (2, false)]⟩])
 (.seq (rA 5)
 (.seq (rA 5)
 (.seq (.cut [(1, .any), (4, .any), (6, .any), (7, .any), (38, .bool)] (fun l h => J.cons l fun x0 l => J.cons l fun x1 l => J.cons l fun x2 l => J.cons l fun x3 l => J.cb l fun x4 l => J.nil l (s35c1 Ψ x0 x1 x2 x3 x4 h)) (.reg [⟨none, [(0, false), (1, false), (2, false)]⟩, ⟨some (24, false), [(3, false), (4, false)]⟩, ⟨none, [(5, false), (6, false)]⟩, ⟨some (28, false), [(7, false), (8, false), (9, false), (10, false)]⟩, ⟨none, [(11, false), (12, false)]⟩, ⟨some (34, false), [(13, false), (14, false), (15, false)]⟩, ⟨none, [(16, false)]⟩])
 (.cond (.seq (rA 3)
 (.leaf))
 (.leaf)))
 (.seq (rA 9)
 (.seq (.seq (rA 2)
 (.cond (.seq (rA 3)
 (.leaf))
 (.leaf)))
 (.seq (.seq (rA 2)
 (.block (.loop [(1, .any), (4, .any), (6, .any), (7, .any), (8, .any), (9, .any), (49, .int .i64), (50, .int .i64)] (fun n l h => s35l2_R (s35l2 Ψ n) l h) (fun L2 =>
 .seq (rA 1)
 (.seq (.cond (.leaf)
 (.leaf))
 (.seq (.block (.seq (rA 2)
 (.seq (rA 2)
 (.block (.loop [(1, .any), (4, .any), (6, .any), (7, .any), (8, .any), (9, .any), (11, .int .i64), (49, .int .i64), (50, .int .i64), (53, .int .i64), (54, .int .i64)] (fun n l h => s35l3_R (s35l3 Ψ (fun y0 y1 y2 y3 y4 y5 y6 y7 h => L2 [y0, y1, y2, y3, y4, y5, (.int .i64 y6), (.int .i64 y7)] h) n) l h) (fun L3 =>
 .seq (rA 1)
 (.seq (.cond (.leaf)
 (.leaf))
 (.seq (.block (.seq (rA 2)
 (.seq (rA 2)
 (.block (.loop [(1, .any), (4, .any), (6, .any), (7, .any), (8, .any), (9, .any), (11, .int .i64), (12, .int .i64), (49, .int .i64), (50, .int .i64), (53, .int .i64), (54, .int .i64), (57, .int .i64), (58, .int .i64)] (fun n l h => s35l4_R (s35l4 Ψ (fun y0 y1 y2 y3 y4 y5 y6 y7 h => L2 [y0, y1, y2, y3, y4, y5, (.int .i64 y6), (.int .i64 y7)] h) (fun y0 y1 y2 y3 y4 y5 y6 y7 y8 y9 y10 h => L3 [y0, y1, y2, y3, y4, y5, (.int .i64 y6), (.int .i64 y7), (.int .i64 y8), (.int .i64 y9), (.int .i64 y10)] h) n) l h) (fun L4 =>
 .seq (rA 1)
 (.seq (.cond (.leaf)
 (.leaf))
 (.seq (.block (.seq (rA 2)
 (.seq (.draw [(0, false), (1, false), (2, false), (3, false), (4, false), (5, false), (6, false), (7, false), (8, false), (9, false), (10, false), (11, false), (12, false), (13, false), (14, false), (15, false), (16, false), (17, false), (18, false), (19, false), (20, false), (21, false), (22, false), (23, false), (24, false), (25, false), (26, false), (27, false), (28, false), (29, false), (30, false), (31, false), (32, false)] [0, 0, 3, 7, 0, 0, 48, 112, 0, 496, 1008, 2047, 4095, 0, 0, 0, 49152, 114688, 0, 507904, 1032192, 2088960, 4186112, 0, 0, 25165824, 58720256, 0, 260046848, 528482304, 1073733632, 2147475456, 4294967295])
 (.cond (.seq (rA 3)
 (.leaf))
 (.leaf)))))
 (rA 2)))))))))
 (rA 2)))))))))
 (rA 2)))))))
 (.seq (.seq (rA 3)
 (.block (.loop [(4, .any), (6, .any), (7, .any), (98, .any), (99, .int .i64), (100, .int .i64)] (fun n l h => s35l5_R (s35l5 Ψ n) l h) (fun L5 =>
 .seq (rA 1)
 (.seq (.cond (.leaf)
 (.leaf))
 (.seq (.block (.seq (rA 3)
 (.cut [(4, .any), (6, .any), (7, .any), (98, .any), (99, .int .i64), (100, .int .i64), (110, .bool)] (fun l h => J.cons l fun x0 l => J.cons l fun x1 l => J.cons l fun x2 l => J.cons l fun x3 l => J.ci .i64 l fun x4 l => J.ci .i64 l fun x5 l => J.cb l fun x6 l => J.nil l (s35c6 Ψ (fun y0 y1 y2 y3 y4 y5 h => L5 [y0, y1, y2, y3, (.int .i64 y4), (.int .i64 y5)] h) x0 x1 x2 x3 x4 x5 x6 h)) (.reg [⟨none, [(0, false), (1, false), (2, false)]⟩, ⟨some (106, false), [(3, false), (4, false), (5, false)]⟩, ⟨none, [(6, false)]⟩])
 (.cond (.seq (rA 3)
 (.leaf))
 (.leaf)))))
 (rA 2)))))))
 (.seq (rA 3)
 (.leaf)))))))))

theorem s35_ok {Ψ : AVal → Heap → Prop} {a_Leq : AVal} {elems : AVal} {h : Heap} (H : s35 Ψ a_Leq elems h) : ACalls prog 35 [(.agg [a_Leq]), elems] h Ψ :=
 calls_of_evF func35 (by kernel_rfl) (by kernel_rfl) (by kernel_rfl)
 (Eq.mpr (by as_aux_lemma => kernel_rfl : oblF prog f35 (s35_A Ψ) Ψ = ((True) ∧ ((True) ∧ ((True) ∧ (((True) ∧ ((∀ (h : Heap) (x0 x1 x2 x3 : AVal) (x4 : Bool), OI (s35c1 Ψ x0 x1 x2 x3 x4 h)) ∧ (otP 3))) ∧ ((True) ∧ ((otP 13) ∧ (((True) ∧ ((∀ (h : Heap) (x0 x1 x2 x3 x4 x5 : AVal) (x6 x7 : Int), ON (s35l2 Ψ 0 x0 x1 x2 x3 x4 x5 x6 x7 h)) ∧ (∀ n2 : Nat, (∀ (h : Heap) (x0 x1 x2 x3 x4 x5 : AVal) (x6 x7 : Int), OI (s35l2 Ψ (n2 + 1) x0 x1 x2 x3 x4 x5 x6 x7 h)) ∧ ((True) ∧ ((otP 1) ∧ (((True) ∧ ((True) ∧ ((∀ (h : Heap) (x0 x1 x2 x3 x4 x5 : AVal) (x6 x7 x8 x9 x10 : Int), ON (s35l3 Ψ (s35l2_G (s35l2 Ψ n2)) 0 x0 x1 x2 x3 x4 x5 x6 x7 x8 x9 x10 h)) ∧ (∀ n3 : Nat, (∀ (h : Heap) (x0 x1 x2 x3 x4 x5 : AVal) (x6 x7 x8 x9 x10 : Int), OI (s35l3 Ψ (s35l2_G (s35l2 Ψ n2)) (n3 + 1) x0 x1 x2 x3 x4 x5 x6 x7 x8 x9 x10 h)) ∧ ((True) ∧ ((otP 1) ∧ (((True) ∧ ((True) ∧ ((∀ (h : Heap) (x0 x1 x2 x3 x4 x5 : AVal) (x6 x7 x8 x9 x10 x11 x12 x13 : Int), ON (s35l4 Ψ (s35l2_G (s35l2 Ψ n2)) (s35l3_G (s35l3 Ψ (s35l2_G (s35l2 Ψ n2)) n3)) 0 x0 x1 x2 x3 x4 x5 x6 x7 x8 x9 x10 x11 x12 x13 h)) ∧ (∀ n4 : Nat, (∀ (h : Heap) (x0 x1 x2 x3 x4 x5 : AVal) (x6 x7 x8 x9 x10 x11 x12 x13 : Int), OI (s35l4 Ψ (s35l2_G (s35l2 Ψ n2)) (s35l3_G (s35l3 Ψ (s35l2_G (s35l2 Ψ n2)) n3)) (n4 + 1) x0 x1 x2 x3 x4 x5 x6 x7 x8 x9 x10 x11 x12 x13 h)) ∧ (otP 6861))))) ∧ (True)))))))) ∧ (True))))))) ∧ (((True) ∧ ((∀ (h : Heap) (x0 x1 x2 x3 : AVal) (x4 x5 : Int), ON (s35l5 Ψ 0 x0 x1 x2 x3 x4 x5 h)) ∧ (∀ n5 : Nat, (∀ (h : Heap) (x0 x1 x2 x3 : AVal) (x4 x5 : Int), OI (s35l5 Ψ (n5 + 1) x0 x1 x2 x3 x4 x5 h)) ∧ ((True) ∧ ((otP 1) ∧ (((True) ∧ ((True) ∧ ((∀ (h : Heap) (x0 x1 x2 x3 : AVal) (x4 x5 : Int) (x6 : Bool), OI (s35c6 Ψ (s35l5_G (s35l5 Ψ n5)) x0 x1 x2 x3 x4 x5 x6 h)) ∧ (otP 3)))) ∧ (True))))))) ∧ (otP 1)))))))))) (⟨trivial, ⟨trivial, ⟨trivial, ⟨⟨trivial, ⟨fun _ _ _ _ _ _ H => H, otP_ok 3⟩⟩, ⟨trivial, ⟨otP_ok 13, ⟨⟨trivial, ⟨fun _ _ _ _ _ _ _ _ _ H => H, fun _ => ⟨fun _ _ _ _ _ _ _ _ _ H => H, ⟨trivial, ⟨otP_ok 1, ⟨⟨trivial, ⟨trivial, ⟨fun _ _ _ _ _ _ _ _ _ _ _ _ H => H, fun _ => ⟨fun _ _ _ _ _ _ _ _ _ _ _ _ H => H, ⟨trivial, ⟨otP_ok 1, ⟨⟨trivial, ⟨trivial, ⟨fun _ _ _ _ _ _ _ _ _ _ _ _ _ _ _ H => H, fun _ => ⟨fun _ _ _ _ _ _ _ _ _ _ _ _ _ _ _ H => H, otP_ok 6861⟩⟩⟩⟩, trivial⟩⟩⟩⟩⟩⟩⟩, trivial⟩⟩⟩⟩⟩⟩, ⟨⟨trivial, ⟨fun _ _ _ _ _ _ _ H => H, fun _ => ⟨fun _ _ _ _ _ _ _ H => H, ⟨trivial, ⟨otP_ok 1, ⟨⟨trivial, ⟨trivial, ⟨fun _ _ _ _ _ _ _ _ H => H, otP_ok 3⟩⟩⟩, trivial⟩⟩⟩⟩⟩⟩, otP_ok 1⟩⟩⟩⟩⟩⟩⟩⟩))
 (Eq.mpr (by as_aux_lemma => kernel_rfl : evF prog f35 (s35_A Ψ) Ψ [(.agg [a_Leq]), elems] h = s35 Ψ a_Leq elems h) H)

/- 37 (dictum/heyting.lattice).join -/
def s37 (Ψ : AVal → Heap → Prop) (l_n : Int) (l_leq : AVal) (x : Int) (y : Int) (h : Heap) : Prop :=
 callG prog 75 [(.int .i64 l_n), (.func (.func 78) [] [(.lptr [(.int .i64 l_n), l_leq]), (.lptr [(.int .i64 x)]), (.lptr [(.int .i64 y)])]), (.func (.func 76) [(.agg [(.int .i64 l_n), l_leq])] [])] h fun v h_ =>
 tTup v fun l_ =>
 tCons l_ fun v1 l_1 =>
 tInt .i64 v1 fun v2 =>
 tCons l_1 fun v3 l_2 =>
 tBool v3 fun v4 =>
 tNil l_2 (
 retG (.tuple [(.int .i64 v2), (.bool v4)]) h_ Ψ)

def s37_A (Ψ : AVal → Heap → Prop) : Ann :=
 .seq (.reg [⟨none, [(0, true), (1, true), (2, true), (3, false), (4, false)]⟩])
 (.seq (rA 10)
 (.leaf))

theorem s37_ok {Ψ : AVal → Heap → Prop} {l_n : Int} {l_leq : AVal} {x : Int} {y : Int} {h : Heap} (H : s37 Ψ l_n l_leq x y h) : ACalls prog 37 [(.agg [(.int .i64 l_n), l_leq]), (.int .i64 x), (.int .i64 y)] h Ψ :=
 calls_of_evF func37 (by kernel_rfl) (by kernel_rfl) (by kernel_rfl)
 (Eq.mpr (by as_aux_lemma => kernel_rfl : oblF prog f37 (s37_A Ψ) Ψ = (otP 5)) (otP_ok 5))
 (Eq.mpr (by as_aux_lemma => kernel_rfl : evF prog f37 (s37_A Ψ) Ψ [(.agg [(.int .i64 l_n), l_leq]), (.int .i64 x), (.int .i64 y)] h = s37 Ψ l_n l_leq x y h) H)

/- 42 dictum/dictumref17.Names -/
abbrev s42l1_T := AVal → AVal → Int → Heap → Prop
def s42l1_R (F : s42l1_T) (l : List AVal) (h : Heap) : Prop := J.cons l fun x0 l => J.cons l fun x1 l => J.ci .i64 l fun x2 l => J.nil l (F x0 x1 x2 h)
def s42l1_G (F : s42l1_T) (x0 x1 : AVal) (x2 : Int) (h : Heap) : Prop := gJ [.any, .any, .int .i64] [x0, x1, (.int .i64 x2)] h (s42l1_R F)
def s42l1_E (F : Nat → s42l1_T) (x0 x1 : AVal) (x2 : Int) (h : Heap) : Prop := gJ [.any, .any, .int .i64] [x0, x1, (.int .i64 x2)] h (fun l h => ∃ n, s42l1_R (F n) l h)
theorem s42l1_go {F : s42l1_T} {x0 x1 : AVal} {x2 : Int} {h : Heap} (H : F x0 x1 x2 h) : s42l1_G F x0 x1 x2 h := gJ_plain rfl H
theorem s42l1_in {F : Nat → s42l1_T} {x0 x1 : AVal} {x2 : Int} {h : Heap} (n : Nat) (H : F n x0 x1 x2 h) : s42l1_E F x0 x1 x2 h := gJ_plain rfl ⟨n, H⟩

def s42l1 (Ψ : AVal → Heap → Prop) : Nat → s42l1_T
 | 0, _, _, _, _ => False
 | n2 + 1, a1, b1, i, h =>
 lenN a1 fun n3 =>
 ifT (decide (i < n3)) (
 ixS 1 a1 i fun p =>
 ld1 h p fun v =>
 tStr v fun v1 =>
 ixS 1 b1 i fun p1 =>
 ld1 h p1 fun v2 =>
 tStr v2 fun v3 =>
 ifT (!strEq v1 v3) (
 retG (.bool false) h Ψ) (
 rg (i + 1) (
 s42l1_G (s42l1 Ψ n2) a1 b1 (i + 1) h))) (
 retG (.bool true) h Ψ)

def s42 (Ψ : AVal → Heap → Prop) (a : AVal) (b : AVal) (h : Heap) : Prop :=
 lenN a fun n =>
 lenN b fun n1 =>
 ifT (n != n1) (
 retG (.bool false) h Ψ) (
 s42l1_E (s42l1 Ψ) a b 0 h)

def s42_A (Ψ : AVal → Heap → Prop) : Ann :=
 .seq (rA 1)
 (.seq (.seq (rA 5)
 (.cond (.seq (rA 1)
 (.leaf))
 (.leaf)))
 (.seq (.seq (rA 1)
 (.block (.loop [(0, .any), (1, .any), (5, .int .i64)] (fun n l h => s42l1_R (s42l1 Ψ n) l h) (fun L1 =>
 .seq (.seq (rA 4)
 (.cond (.leaf)
 (.leaf)))
 (.seq (.block (.seq (.draw [(0, false), (1, false), (2, false), (3, false), (4, false), (5, false), (6, false), (7, false), (8, false)] [0, 0, 3, 7, 0, 0, 48, 112, 255])
 (.cond (.seq (rA 1)
 (.leaf))
 (.leaf))))
 (rA 3))))))
 (.seq (rA 1)
 (.leaf))))

theorem s42_ok {Ψ : AVal → Heap → Prop} {a : AVal} {b : AVal} {h : Heap} (H : s42 Ψ a b h) : ACalls prog 42 [a, b] h Ψ :=
 calls_of_evF func42 (by kernel_rfl) (by kernel_rfl) (by kernel_rfl)
 (Eq.mpr (by as_aux_lemma => kernel_rfl : oblF prog f42 (s42_A Ψ) Ψ = ((True) ∧ ((otP 13) ∧ (((True) ∧ ((∀ (h : Heap) (x0 x1 : AVal) (x2 : Int), ON (s42l1 Ψ 0 x0 x1 x2 h)) ∧ (∀ n1 : Nat, (∀ (h : Heap) (x0 x1 : AVal) (x2 : Int), OI (s42l1 Ψ (n1 + 1) x0 x1 x2 h)) ∧ (otP 1739)))) ∧ (otP 1))))) (⟨trivial, ⟨otP_ok 13, ⟨⟨trivial, ⟨fun _ _ _ _ H => H, fun _ => ⟨fun _ _ _ _ H => H, otP_ok 1739⟩⟩⟩, otP_ok 1⟩⟩⟩))
 (Eq.mpr (by as_aux_lemma => kernel_rfl : evF prog f42 (s42_A Ψ) Ψ [a, b] h = s42 Ψ a b h) H)

/- 44 dictum/heyting.Boolean -/
abbrev s44l1_T := AVal → Int → Int → Int → Int → Heap → Prop
def s44l1_R (F : s44l1_T) (l : List AVal) (h : Heap) : Prop := J.cons l fun x0 l => J.ci .i64 l fun x1 l => J.ci .i64 l fun x2 l => J.ci .i64 l fun x3 l => J.ci .i64 l fun x4 l => J.nil l (F x0 x1 x2 x3 x4 h)
def s44l1_G (F : s44l1_T) (x0 : AVal) (x1 x2 x3 x4 : Int) (h : Heap) : Prop := gJ [.any, .int .i64, .int .i64, .int .i64, .int .i64] [x0, (.int .i64 x1), (.int .i64 x2), (.int .i64 x3), (.int .i64 x4)] h (s44l1_R F)
def s44l1_E (F : Nat → s44l1_T) (x0 : AVal) (x1 x2 x3 x4 : Int) (h : Heap) : Prop := gJ [.any, .int .i64, .int .i64, .int .i64, .int .i64] [x0, (.int .i64 x1), (.int .i64 x2), (.int .i64 x3), (.int .i64 x4)] h (fun l h => ∃ n, s44l1_R (F n) l h)
theorem s44l1_go {F : s44l1_T} {x0 : AVal} {x1 x2 x3 x4 : Int} {h : Heap} (H : F x0 x1 x2 x3 x4 h) : s44l1_G F x0 x1 x2 x3 x4 h := gJ_plain rfl H
theorem s44l1_in {F : Nat → s44l1_T} {x0 : AVal} {x1 x2 x3 x4 : Int} {h : Heap} (n : Nat) (H : F n x0 x1 x2 x3 x4 h) : s44l1_E F x0 x1 x2 x3 x4 h := gJ_plain rfl ⟨n, H⟩

def s44l1 (Ψ : AVal → Heap → Prop) : Nat → s44l1_T
 | 0, _, _, _, _, _, _ => False
 | n + 1, l_12, low, high, t25, t26, h =>
 ifT (decide (t26 < t25)) (
 ldN 2 h l_12 fun l_13 =>
 tCons l_13 fun v17 l_14 =>
 tInt .i64 v17 fun v18 =>
 tCons l_14 fun v19 l_15 =>
 tNil l_15 (
 ldN 2 h l_12 fun l_16 =>
 tCons l_16 fun v20 l_17 =>
 tInt .i64 v20 fun v21 =>
 tCons l_17 fun v22 l_18 =>
 tNil l_18 (
 callG prog 51 [(.agg [(.int .i64 v21), v22]), (.int .i64 t26), (.int .i64 low)] h fun v23 h_4 =>
 tInt .i64 v23 fun v24 =>
 (ldN 2 h_4 l_12 fun l_19 =>
 (AVal.agg l_19) = (.agg [(.int .i64 v18), v19])) ∧
 callG prog 37 [(.agg [(.int .i64 v18), v19]), (.int .i64 t26), (.int .i64 v24)] h_4 fun v25 h_5 =>
 tTup v25 fun l_20 =>
 tCons l_20 fun v26 l_21 =>
 tInt .i64 v26 fun v27 =>
 tCons l_21 fun v28 l_22 =>
 tBool v28 fun v29 =>
 tNil l_22 (
 ifT (v27 != high) (
 retG (.tuple [(.bool false), (.int .i64 0)]) h_5 Ψ) (
 rg (t26 + 1) (
 s44l1_G (s44l1 Ψ n) l_12 low high t25 (t26 + 1) h_5)))))) (
 retG (.tuple [(.bool true), (.int .i64 0)]) h Ψ)

def s44 (Ψ : AVal → Heap → Prop) (a_Leq : AVal) (h : Heap) : Prop :=
 callG prog 35 [(.agg [a_Leq]), .nilsl] h fun v h_ =>
 tTup v fun l_ =>
 tCons l_ fun v1 l_1 =>
 tCons l_1 fun v2 l_2 =>
 tInt .i64 v2 fun v3 =>
 tNil l_2 (
 tAgg v1 fun l_3 =>
 tCons l_3 fun v4 l_4 =>
 tInt .i64 v4 fun v5 =>
 tCons l_4 fun v6 l_5 =>
 tNil l_5 (
 Sym.newRow 2 [(.agg [(.int .i64 0), .nilfunc])] h_ fun r h_1 =>
 st false h_1 (.ptr r 0 0) [(.int .i64 v5), v6] fun h_2 =>
 ifT (v3 != 0) (
 retG (.tuple [(.bool false), (.int .i64 v3)]) h_2 Ψ) (
 ldN 2 h_2 (.ptr r 0 0) fun l_6 =>
 tCons l_6 fun v7 l_7 =>
 tInt .i64 v7 fun v8 =>
 tCons l_7 fun v9 l_8 =>
 tNil l_8 (
 callG prog 36 [(.agg [(.int .i64 v8), v9])] h_2 fun v10 h_3 =>
 tTup v10 fun l_9 =>
 tCons l_9 fun v11 l_10 =>
 tInt .i64 v11 fun v12 =>
 tCons l_10 fun v13 l_11 =>
 tInt .i64 v13 fun v14 =>
 tNil l_11 (
 ld1 h_3 (.ptr r 0 0) fun v15 =>
 tInt .i64 v15 fun v16 =>
 s44l1_E (s44l1 Ψ) (.ptr r 0 0) v12 v14 v16 0 h_3)))))

def s44_A (Ψ : AVal → Heap → Prop) : Ann :=
 .seq (.reg [⟨none, [(0, true), (1, false), (2, false)]⟩])
 (.seq (rA 8)
 (.seq (.seq (rA 2)
 (.cond (.seq (rA 3)
 (.leaf))
 (.leaf)))
 (.seq (rA 7)
 (.seq (.seq (rA 3)
 (.block (.loop [(4, .any), (6, .int .i64), (7, .int .i64), (25, .int .i64), (26, .int .i64)] (fun n l h => s44l1_R (s44l1 Ψ n) l h) (fun L1 =>
 .seq (rA 1)
 (.seq (.cond (.leaf)
 (.leaf))
 (.seq (.block (.seq (rA 2)
 (.seq (.draw [(0, false), (1, false), (2, false), (3, false), (4, false), (5, false), (6, false), (7, false), (8, false), (9, false), (10, false), (11, false)] [0, 0, 0, 0, 0, 28, 63, 127, 255, 255, 511, 2047])
 (.seq (rA 3)
 (.cond (.seq (rA 2)
 (.leaf))
 (.leaf))))))
 (rA 2)))))))
 (.seq (rA 2)
 (.leaf))))))

theorem s44_ok {Ψ : AVal → Heap → Prop} {a_Leq : AVal} {h : Heap} (H : s44 Ψ a_Leq h) : ACalls prog 44 [(.agg [a_Leq])] h Ψ :=
 calls_of_evF func44 (by kernel_rfl) (by kernel_rfl) (by kernel_rfl)
 (Eq.mpr (by as_aux_lemma => kernel_rfl : oblF prog f44 (s44_A Ψ) Ψ = ((True) ∧ ((True) ∧ ((otP 13) ∧ ((True) ∧ (((True) ∧ ((∀ (h : Heap) (x0 : AVal) (x1 x2 x3 x4 : Int), ON (s44l1 Ψ 0 x0 x1 x2 x3 x4 h)) ∧ (∀ n1 : Nat, (∀ (h : Heap) (x0 : AVal) (x1 x2 x3 x4 : Int), OI (s44l1 Ψ (n1 + 1) x0 x1 x2 x3 x4 h)) ∧ (otP 27341)))) ∧ (otP 1))))))) (⟨trivial, ⟨trivial, ⟨otP_ok 13, ⟨trivial, ⟨⟨trivial, ⟨fun _ _ _ _ _ _ H => H, fun _ => ⟨fun _ _ _ _ _ _ H => H, otP_ok 27341⟩⟩⟩, otP_ok 1⟩⟩⟩⟩⟩))
 (Eq.mpr (by as_aux_lemma => kernel_rfl : evF prog f44 (s44_A Ψ) Ψ [(.agg [a_Leq])] h = s44 Ψ a_Leq h) H)

/- 46 dictum/dictumref03.From -/
abbrev s46l1_T := AVal → AVal → Int → Heap → Prop
def s46l1_R (F : s46l1_T) (l : List AVal) (h : Heap) : Prop := J.cons l fun x0 l => J.cons l fun x1 l => J.ci .i64 l fun x2 l => J.nil l (F x0 x1 x2 h)
def s46l1_G (F : s46l1_T) (x0 x1 : AVal) (x2 : Int) (h : Heap) : Prop := gJ [.any, .any, .int .i64] [x0, x1, (.int .i64 x2)] h (s46l1_R F)
def s46l1_E (F : Nat → s46l1_T) (x0 x1 : AVal) (x2 : Int) (h : Heap) : Prop := gJ [.any, .any, .int .i64] [x0, x1, (.int .i64 x2)] h (fun l h => ∃ n, s46l1_R (F n) l h)
theorem s46l1_go {F : s46l1_T} {x0 x1 : AVal} {x2 : Int} {h : Heap} (H : F x0 x1 x2 h) : s46l1_G F x0 x1 x2 h := gJ_plain rfl H
theorem s46l1_in {F : Nat → s46l1_T} {x0 x1 : AVal} {x2 : Int} {h : Heap} (n : Nat) (H : F n x0 x1 x2 h) : s46l1_E F x0 x1 x2 h := gJ_plain rfl ⟨n, H⟩

def s46l1 (Ψ : AVal → Heap → Prop) : Nat → s46l1_T
 | 0, _, _, _, _ => False
 | n + 1, rows1, t, i, h =>
 lenN rows1 fun n1 =>
 ifT (decide (i < n1)) (
 ixS 4 rows1 i fun p =>
 ldN 4 h p fun l_ =>
 tCons l_ fun v l_1 =>
 tInt .i64 v fun v1 =>
 tCons l_1 fun v2 l_2 =>
 tStr v2 fun v3 =>
 tCons l_2 fun v4 l_3 =>
 tInt .i64 v4 fun v5 =>
 tCons l_3 fun v6 l_4 =>
 tInt .i64 v6 fun v7 =>
 tNil l_4 (
 callG prog 88 [t, (.agg [(.int .i64 v1), (.str v3), (.int .i64 v5), (.int .i64 v7)])] h fun v8 h_1 =>
 tTup v8 fun l_5 =>
 tCons l_5 fun v9 l_6 =>
 tInt .i64 v9 fun v10 =>
 tCons l_6 fun v11 l_7 =>
 tInt .i64 v11 fun v12 =>
 tNil l_7 (
 ifT (v12 != 0) (
 retG (.tuple [.nilptr, (.int .i64 v12)]) h_1 Ψ) (
 ifT (v10 != i) (
 retG (.tuple [.nilptr, (.int .i64 31)]) h_1 Ψ) (
 rg (i + 1) (
 s46l1_G (s46l1 Ψ n) rows1 t (i + 1) h_1)))))) (
 retG (.tuple [t, (.int .i64 0)]) h Ψ)

def s46 (Ψ : AVal → Heap → Prop) (rows : AVal) (h : Heap) : Prop :=
 Sym.newRow 1 [(.agg [.nilsl])] h fun r h_ =>
 s46l1_E (s46l1 Ψ) rows (.ptr r 0 0) 0 h_

def s46_A (Ψ : AVal → Heap → Prop) : Ann :=
 .seq (rA 2)
 (.seq (rA 3)
 (.seq (.seq (rA 1)
 (.block (.loop [(0, .any), (4, .any), (5, .int .i64)] (fun n l h => s46l1_R (s46l1 Ψ n) l h) (fun L1 =>
 .seq (.seq (rA 4)
 (.cond (.leaf)
 (.leaf)))
 (.seq (.block (.seq (rA 11)
 (.seq (.seq (rA 2)
 (.cond (.seq (rA 3)
 (.leaf))
 (.leaf)))
 (.seq (rA 3)
 (.cond (.seq (rA 2)
 (.leaf))
 (.leaf))))))
 (rA 3))))))
 (.seq (rA 3)
 (.leaf))))

theorem s46_ok {Ψ : AVal → Heap → Prop} {rows : AVal} {h : Heap} (H : s46 Ψ rows h) : ACalls prog 46 [rows] h Ψ :=
 calls_of_evF func46 (by kernel_rfl) (by kernel_rfl) (by kernel_rfl)
 (Eq.mpr (by as_aux_lemma => kernel_rfl : oblF prog f46 (s46_A Ψ) Ψ = ((True) ∧ ((True) ∧ (((True) ∧ ((∀ (h : Heap) (x0 x1 : AVal) (x2 : Int), ON (s46l1 Ψ 0 x0 x1 x2 h)) ∧ (∀ n1 : Nat, (∀ (h : Heap) (x0 x1 : AVal) (x2 : Int), OI (s46l1 Ψ (n1 + 1) x0 x1 x2 h)) ∧ (otP 1717963)))) ∧ (otP 1))))) (⟨trivial, ⟨trivial, ⟨⟨trivial, ⟨fun _ _ _ _ H => H, fun _ => ⟨fun _ _ _ _ H => H, otP_ok 1717963⟩⟩⟩, otP_ok 1⟩⟩⟩))
 (Eq.mpr (by as_aux_lemma => kernel_rfl : evF prog f46 (s46_A Ψ) Ψ [rows] h = s46 Ψ rows h) H)

/- 48 (*dictum/formula.Table).Below -/
abbrev s48l1_T := AVal → AVal → Heap → Prop
def s48l1_R (F : s48l1_T) (l : List AVal) (h : Heap) : Prop := J.cons l fun x0 l => J.cons l fun x1 l => J.nil l (F x0 x1 h)
def s48l1_G (F : s48l1_T) (x0 x1 : AVal) (h : Heap) : Prop := gJ [.any, .any] [x0, x1] h (s48l1_R F)
def s48l1_E (F : Nat → s48l1_T) (x0 x1 : AVal) (h : Heap) : Prop := gJ [.any, .any] [x0, x1] h (fun l h => ∃ n, s48l1_R (F n) l h)
theorem s48l1_go {F : s48l1_T} {x0 x1 : AVal} {h : Heap} (H : F x0 x1 h) : s48l1_G F x0 x1 h := gJ_plain rfl H
theorem s48l1_in {F : Nat → s48l1_T} {x0 x1 : AVal} {h : Heap} (n : Nat) (H : F n x0 x1 h) : s48l1_E F x0 x1 h := gJ_plain rfl ⟨n, H⟩

def s48l1 (Ψ : AVal → Heap → Prop) : Nat → s48l1_T
 | 0, _, _, _ => False
 | n + 1, l_, t25, h =>
 nextM h t25 fun v8 h_9 =>
 extractA v8 0 fun v9 =>
 tBool v9 fun v10 =>
 ifT v10 (
 entryA h_9 t25 fun v11 =>
 extractA v11 0 fun v12 =>
 tInt .i64 v12 fun v13 =>
 appC 1 8 h_9 l_ (.lsl 1 [(.int .i64 v13)]) fun v14 h_10 =>
 s48l1_G (s48l1 Ψ n) v14 t25 h_10) (
 callG prog 94 [l_] h_9 fun v15 h_11 =>
 retG (.tuple [l_, (.int .i64 0)]) h_11 Ψ)

def s48 (Ψ : AVal → Heap → Prop) (t : AVal) (id_ : Int) (h : Heap) : Prop :=
 chk (sc t) (
 callG prog 91 [t] h fun v h_ =>
 tBool v fun v1 =>
 ifT (!v1) (
 retG (.tuple [.nilsl, (.int .i64 1)]) h_ Ψ) (
 callG prog 92 [t, (.int .i64 id_)] h_ fun v2 h_1 =>
 tBool v2 fun v3 =>
 ifT (!v3) (
 retG (.tuple [.nilsl, (.int .i64 31)]) h_1 Ψ) (
 newMap h_1 fun r h_2 =>
 Sym.newRow 1 [.nilmap] h_2 fun r1 h_3 =>
 st true h_3 (.ptr r1 0 0) [(.mapr r)] fun h_4 =>
 Sym.newRow 1 [.nilfunc] h_4 fun r2 h_5 =>
 st true h_5 (.ptr r2 0 0) [(.func (.func 93) [] [(.ptr r1 0 0), (.lptr [t]), (.ptr r2 0 0)])] fun h_6 =>
 ld1 h_6 (.ptr r2 0 0) fun v4 =>
 callV prog v4 [(.int .i64 id_)] h_6 fun v5 h_7 =>
 ld1 h_7 (.ptr r1 0 0) fun v6 =>
 rangeM h_7 v6 fun v7 h_8 =>
 s48l1_E (s48l1 Ψ) .nilsl v7 h_8)))

def s48_A (Ψ : AVal → Heap → Prop) : Ann :=
 .seq (.reg [⟨none, [(0, true), (1, false), (2, false)]⟩])
 (.seq (.block (.seq (rA 4)
 (.cond (.seq (rA 2)
 (.leaf))
 (.seq (rA 5)
 (.cond (.seq (rA 2)
 (.leaf))
 (.leaf))))))
 (.seq (rA 3)
 (.seq (rA 1)
 (.seq (rA 2)
 (.seq (rA 3)
 (.seq (rA 1)
 (.seq (.seq (rA 2)
 (.block (.loop [(8, .any), (25, .any)] (fun n l h => s48l1_R (s48l1 Ψ n) l h) (fun L1 =>
 .seq (rA 2)
 (.seq (.cond (.leaf)
 (.leaf))
 (.block (.seq (rA 3)
 (.reg [⟨none, [(0, false), (1, false), (2, true), (3, false), (4, false)]⟩]))))))))
 (.seq (rA 2)
 (.seq (rA 3)
 (.leaf))))))))))

theorem s48_ok {Ψ : AVal → Heap → Prop} {t : AVal} {id_ : Int} {h : Heap} (H : s48 Ψ t id_ h) : ACalls prog 48 [t, (.int .i64 id_)] h Ψ :=
 calls_of_evF func48 (by kernel_rfl) (by kernel_rfl) (by kernel_rfl)
 (Eq.mpr (by as_aux_lemma => kernel_rfl : oblF prog f48 (s48_A Ψ) Ψ = ((True) ∧ ((otP 845) ∧ ((True) ∧ ((True) ∧ ((True) ∧ ((True) ∧ ((True) ∧ (((True) ∧ ((∀ (h : Heap) (x0 x1 : AVal), ON (s48l1 Ψ 0 x0 x1 h)) ∧ (∀ n1 : Nat, (∀ (h : Heap) (x0 x1 : AVal), OI (s48l1 Ψ (n1 + 1) x0 x1 h)) ∧ (otP 77)))) ∧ (otP 5)))))))))) (⟨trivial, ⟨otP_ok 845, ⟨trivial, ⟨trivial, ⟨trivial, ⟨trivial, ⟨trivial, ⟨⟨trivial, ⟨fun _ _ _ H => H, fun _ => ⟨fun _ _ _ H => H, otP_ok 77⟩⟩⟩, otP_ok 5⟩⟩⟩⟩⟩⟩⟩⟩))
 (Eq.mpr (by as_aux_lemma => kernel_rfl : evF prog f48 (s48_A Ψ) Ψ [t, (.int .i64 id_)] h = s48 Ψ t id_ h) H)

/- 50 (dictum/heyting.lattice).meet -/
def s50 (Ψ : AVal → Heap → Prop) (l_n : Int) (l_leq : AVal) (x : Int) (y : Int) (h : Heap) : Prop :=
 callG prog 75 [(.int .i64 l_n), (.func (.func 95) [] [(.lptr [(.int .i64 l_n), l_leq]), (.lptr [(.int .i64 x)]), (.lptr [(.int .i64 y)])]), (.func (.func 77) [(.agg [(.int .i64 l_n), l_leq])] [])] h fun v h_ =>
 tTup v fun l_ =>
 tCons l_ fun v1 l_1 =>
 tInt .i64 v1 fun v2 =>
 tCons l_1 fun v3 l_2 =>
 tBool v3 fun v4 =>
 tNil l_2 (
 retG (.tuple [(.int .i64 v2), (.bool v4)]) h_ Ψ)

def s50_A (Ψ : AVal → Heap → Prop) : Ann :=
 .seq (.reg [⟨none, [(0, true), (1, true), (2, true), (3, false), (4, false)]⟩])
 (.seq (rA 10)
 (.leaf))

theorem s50_ok {Ψ : AVal → Heap → Prop} {l_n : Int} {l_leq : AVal} {x : Int} {y : Int} {h : Heap} (H : s50 Ψ l_n l_leq x y h) : ACalls prog 50 [(.agg [(.int .i64 l_n), l_leq]), (.int .i64 x), (.int .i64 y)] h Ψ :=
 calls_of_evF func50 (by kernel_rfl) (by kernel_rfl) (by kernel_rfl)
 (Eq.mpr (by as_aux_lemma => kernel_rfl : oblF prog f50 (s50_A Ψ) Ψ = (otP 5)) (otP_ok 5))
 (Eq.mpr (by as_aux_lemma => kernel_rfl : evF prog f50 (s50_A Ψ) Ψ [(.agg [(.int .i64 l_n), l_leq]), (.int .i64 x), (.int .i64 y)] h = s50 Ψ l_n l_leq x y h) H)

/- 55 dictum/force.look -/
def s55 (Ψ : AVal → Heap → Prop) (t : AVal) (m_Up : AVal) (m_Val : AVal) (h : Heap) : Prop :=
 callG prog 97 [t] h fun v h_ =>
 nilP v fun b =>
 ifT b (
 retG (.tuple [.nilptr, (.int .i64 1)]) h_ Ψ) (
 callG prog 59 [(.agg [m_Up, m_Val])] h_ fun v1 h_1 =>
 tInt .i64 v1 fun v2 =>
 ifT (v2 != 0) (
 retG (.tuple [.nilptr, (.int .i64 v2)]) h_1 Ψ) (
 ∃ v3, (callG prog 98 [(.agg [m_Up, m_Val])] h_1 fun v h2 => v = v3 ∧ h2 = h_1) ∧
 newMap h_1 fun r h_3 =>
 ((callG prog 98 [(.agg [m_Up, m_Val])] h_3 fun v h2 => v = v3 ∧ h2 = h_3)) ∧
 ((AVal.agg [m_Up, m_Val]) = (.agg [m_Up, m_Val])) ∧
 ((AVal.agg [m_Up, m_Val]) = (.agg [m_Up, m_Val])) ∧
 chk (sc t) (
 chk (sc v3) (
 retG (.tuple [(.lptr [t, m_Up, m_Val, v3, (.mapr r)]), (.int .i64 0)]) h_3 Ψ))))

def s55_A (Ψ : AVal → Heap → Prop) : Ann :=
 .seq (.reg [⟨none, [(0, true), (1, false), (2, false)]⟩])
 (.seq (.seq (rA 3)
 (.cond (.seq (rA 2)
 (.leaf))
 (.leaf)))
 (.seq (.seq (rA 3)
 (.seq (rA 2)
 (.cond (.seq (rA 3)
 (.leaf))
 (.leaf))))
 (.seq (.draw [(0, false), (1, false), (2, false), (3, true), (4, false), (5, false), (6, true), (7, false), (8, false)] [0, 0, 0, 4, 0, 31, 63, 127, 255])
 (.leaf))))

theorem s55_ok {Ψ : AVal → Heap → Prop} {t : AVal} {m_Up : AVal} {m_Val : AVal} {h : Heap} (H : s55 Ψ t m_Up m_Val h) : ACalls prog 55 [t, (.agg [m_Up, m_Val])] h Ψ :=
 calls_of_evF func55 (by kernel_rfl) (by kernel_rfl) (by kernel_rfl)
 (Eq.mpr (by as_aux_lemma => kernel_rfl : oblF prog f55 (s55_A Ψ) Ψ = (otP 1158253)) (otP_ok 1158253))
 (Eq.mpr (by as_aux_lemma => kernel_rfl : evF prog f55 (s55_A Ψ) Ψ [t, (.agg [m_Up, m_Val])] h = s55 Ψ t m_Up m_Val h) H)

/- 57 dictum/force.has -/
def s57 (Ψ : AVal → Heap → Prop) (t : AVal) (id_ : Int) (h : Heap) : Prop :=
 callG prog 49 [t, (.int .i64 id_)] h fun v h_ =>
 tTup v fun l_ =>
 tCons l_ fun v1 l_1 =>
 tCons l_1 fun v2 l_2 =>
 tBool v2 fun v3 =>
 tNil l_2 (
 tAgg v1 fun l_3 =>
 tCons l_3 fun v4 l_4 =>
 tInt .i64 v4 fun v5 =>
 tCons l_4 fun v6 l_5 =>
 tStr v6 fun v7 =>
 tCons l_5 fun v8 l_6 =>
 tInt .i64 v8 fun v9 =>
 tCons l_6 fun v10 l_7 =>
 tInt .i64 v10 fun v11 =>
 tNil l_7 (
 Sym.newRow 4 [(.agg [(.int .i64 0), (.str (ByteArray.mk #[])), (.int .i64 0), (.int .i64 0)])] h_ fun r h_1 =>
 st false h_1 (.ptr r 0 0) [(.int .i64 v5), (.str v7), (.int .i64 v9), (.int .i64 v11)] fun h_2 =>
 retG (.bool v3) h_2 Ψ))

def s57_A (Ψ : AVal → Heap → Prop) : Ann :=
 .seq (rA 1)
 (.seq (rA 9)
 (.seq (rA 2)
 (.leaf)))

theorem s57_ok {Ψ : AVal → Heap → Prop} {t : AVal} {id_ : Int} {h : Heap} (H : s57 Ψ t id_ h) : ACalls prog 57 [t, (.int .i64 id_)] h Ψ :=
 calls_of_evF func57 (by kernel_rfl) (by kernel_rfl) (by kernel_rfl)
 (Eq.mpr (by as_aux_lemma => kernel_rfl : oblF prog f57 (s57_A Ψ) Ψ = (otP 21)) (otP_ok 21))
 (Eq.mpr (by as_aux_lemma => kernel_rfl : evF prog f57 (s57_A Ψ) Ψ [t, (.int .i64 id_)] h = s57 Ψ t id_ h) H)

/- 59 dictum/worlds.Check -/
def s59 (Ψ : AVal → Heap → Prop) (m_Up : AVal) (m_Val : AVal) (h : Heap) : Prop :=
 callG prog 79 [(.agg [m_Up, m_Val]), .nilsl] h fun v h_ =>
 tTup v fun l_ =>
 tCons l_ fun v1 l_1 =>
 tCons l_1 fun v2 l_2 =>
 tInt .i64 v2 fun v3 =>
 tNil l_2 (
 retG (.int .i64 v3) h_ Ψ)

def s59_A (Ψ : AVal → Heap → Prop) : Ann :=
 .seq (.reg [⟨none, [(0, true), (1, false)]⟩])
 (.seq (rA 7)
 (.seq (rA 2)
 (.leaf)))

theorem s59_ok {Ψ : AVal → Heap → Prop} {m_Up : AVal} {m_Val : AVal} {h : Heap} (H : s59 Ψ m_Up m_Val h) : ACalls prog 59 [(.agg [m_Up, m_Val])] h Ψ :=
 calls_of_evF func59 (by kernel_rfl) (by kernel_rfl) (by kernel_rfl)
 (Eq.mpr (by as_aux_lemma => kernel_rfl : oblF prog f59 (s59_A Ψ) Ψ = (otP 21)) (otP_ok 21))
 (Eq.mpr (by as_aux_lemma => kernel_rfl : evF prog f59 (s59_A Ψ) Ψ [(.agg [m_Up, m_Val])] h = s59 Ψ m_Up m_Val h) H)

/- 62 dictum/heyting.compare -/
abbrev s62l1_T := ByteArray → ByteArray → Int → Heap → Prop
def s62l1_R (F : s62l1_T) (l : List AVal) (h : Heap) : Prop := J.cs l fun x0 l => J.cs l fun x1 l => J.ci .i64 l fun x2 l => J.nil l (F x0 x1 x2 h)
def s62l1_G (F : s62l1_T) (x0 x1 : ByteArray) (x2 : Int) (h : Heap) : Prop := gJ [.str, .str, .int .i64] [(.str x0), (.str x1), (.int .i64 x2)] h (s62l1_R F)
def s62l1_E (F : Nat → s62l1_T) (x0 x1 : ByteArray) (x2 : Int) (h : Heap) : Prop := gJ [.str, .str, .int .i64] [(.str x0), (.str x1), (.int .i64 x2)] h (fun l h => ∃ n, s62l1_R (F n) l h)
theorem s62l1_go {F : s62l1_T} {x0 x1 : ByteArray} {x2 : Int} {h : Heap} (H : F x0 x1 x2 h) : s62l1_G F x0 x1 x2 h := gJ_plain rfl H
theorem s62l1_in {F : Nat → s62l1_T} {x0 x1 : ByteArray} {x2 : Int} {h : Heap} (n : Nat) (H : F n x0 x1 x2 h) : s62l1_E F x0 x1 x2 h := gJ_plain rfl ⟨n, H⟩

def s62l1 (Ψ : AVal → Heap → Prop) : Nat → s62l1_T
 | 0, _, _, _, _ => False
 | n + 1, a1, b1, w, h =>
 ifT (decide (0 ≤ w)) (
 ((0 : Int) ≤ w ∧ w < (a1.size : Int)) ∧
 ((0 : Int) ≤ w ∧ w < (b1.size : Int)) ∧
 ifT ((btA a1 w) != (btA b1 w)) (
 ((0 : Int) ≤ w ∧ w < (a1.size : Int)) ∧
 rg (btA a1 w) (
 ((0 : Int) ≤ w ∧ w < (b1.size : Int)) ∧
 rg (btA b1 w) (
 rg ((btA a1 w) - (btA b1 w)) (
 retG (.int .i64 ((btA a1 w) - (btA b1 w))) h Ψ)))) (
 rg (w - 1) (
 s62l1_G (s62l1 Ψ n) a1 b1 (w - 1) h))) (
 retG (.int .i64 0) h Ψ)

def s62 (Ψ : AVal → Heap → Prop) (a : ByteArray) (b : ByteArray) (h : Heap) : Prop :=
 rg ((a.size : Int) - 1) (
 s62l1_E (s62l1 Ψ) a b ((a.size : Int) - 1) h)

def s62_A (Ψ : AVal → Heap → Prop) : Ann :=
 .seq (rA 1)
 (.seq (.seq (rA 4)
 (.block (.loop [(0, .str), (1, .str), (5, .int .i64)] (fun n l h => s62l1_R (s62l1 Ψ n) l h) (fun L1 =>
 .seq (.seq (rA 2)
 (.cond (.leaf)
 (.leaf)))
 (.seq (.block (.seq (.draw [(0, false), (1, false), (2, false), (3, false), (4, false), (5, false), (6, false)] [0, 0, 3, 0, 0, 24, 63])
 (.cond (.seq (.draw [(0, false), (1, false), (2, false), (3, false), (4, false), (5, false), (6, false), (7, false), (8, false), (9, false)] [0, 0, 3, 7, 0, 0, 48, 112, 255, 511])
 (.leaf))
 (.leaf))))
 (rA 3))))))
 (.seq (rA 1)
 (.leaf)))

theorem s62_ok {Ψ : AVal → Heap → Prop} {a : ByteArray} {b : ByteArray} {h : Heap} (H : s62 Ψ a b h) : ACalls prog 62 [(.str a), (.str b)] h Ψ :=
 calls_of_evF func62 (by kernel_rfl) (by kernel_rfl) (by kernel_rfl)
 (Eq.mpr (by as_aux_lemma => kernel_rfl : oblF prog f62 (s62_A Ψ) Ψ = ((True) ∧ (((True) ∧ ((∀ (h : Heap) (x0 x1 : ByteArray) (x2 : Int), ON (s62l1 Ψ 0 x0 x1 x2 h)) ∧ (∀ n1 : Nat, (∀ (h : Heap) (x0 x1 : ByteArray) (x2 : Int), OI (s62l1 Ψ (n1 + 1) x0 x1 x2 h)) ∧ (otP 1739)))) ∧ (otP 1)))) (⟨trivial, ⟨⟨trivial, ⟨fun _ _ _ _ H => H, fun _ => ⟨fun _ _ _ _ H => H, otP_ok 1739⟩⟩⟩, otP_ok 1⟩⟩))
 (Eq.mpr (by as_aux_lemma => kernel_rfl : evF prog f62 (s62_A Ψ) Ψ [(.str a), (.str b)] h = s62 Ψ a b h) H)

/- 67 math/bits.Len -/
def s67 (Ψ : AVal → Heap → Prop) (x : Int) (h : Heap) : Prop :=
 callG prog 114 [(.int .u64 x)] h fun v h_ =>
 tInt .i64 v fun v1 =>
 retG (.int .i64 v1) h_ Ψ

def s67_A (Ψ : AVal → Heap → Prop) : Ann :=
 .seq (rA 1)
 (.seq (.cond (.seq (rA 4)
 (.leaf))
 (.leaf))
 (.seq (rA 3)
 (.leaf)))

theorem s67_ok {Ψ : AVal → Heap → Prop} {x : Int} {h : Heap} (H : s67 Ψ x h) : ACalls prog 67 [(.int .u64 x)] h Ψ :=
 calls_of_evF func67 (by kernel_rfl) (by kernel_rfl) (by kernel_rfl)
 (Eq.mpr (by as_aux_lemma => kernel_rfl : oblF prog f67 (s67_A Ψ) Ψ = (otP 285)) (otP_ok 285))
 (Eq.mpr (by as_aux_lemma => kernel_rfl : evF prog f67 (s67_A Ψ) Ψ [(.int .u64 x)] h = s67 Ψ x h) H)

/- 70 slices.ContainsFunc[[][]bool,[]bool] -/
def s70 (Ψ : AVal → Heap → Prop) (s : AVal) (f : AVal) (h : Heap) : Prop :=
 callG prog 115 [s, f] h fun v h_ =>
 tInt .i64 v fun v1 =>
 retG (.bool (decide (0 ≤ v1))) h_ Ψ

def s70_A (Ψ : AVal → Heap → Prop) : Ann :=
 .seq (rA 1)
 (.seq (rA 5)
 (.leaf))

theorem s70_ok {Ψ : AVal → Heap → Prop} {s : AVal} {f : AVal} {h : Heap} (H : s70 Ψ s f h) : ACalls prog 70 [s, f] h Ψ :=
 calls_of_evF func70 (by kernel_rfl) (by kernel_rfl) (by kernel_rfl)
 (Eq.mpr (by as_aux_lemma => kernel_rfl : oblF prog f70 (s70_A Ψ) Ψ = (otP 5)) (otP_ok 5))
 (Eq.mpr (by as_aux_lemma => kernel_rfl : evF prog f70 (s70_A Ψ) Ψ [s, f] h = s70 Ψ s f h) H)

/- 72 (dictum/heyting.lattice).ordered -/
abbrev s72l1_T := AVal → Int → Int → Heap → Prop
def s72l1_R (F : s72l1_T) (l : List AVal) (h : Heap) : Prop := J.cons l fun x0 l => J.ci .i64 l fun x1 l => J.ci .i64 l fun x2 l => J.nil l (F x0 x1 x2 h)
def s72l1_G (F : s72l1_T) (x0 : AVal) (x1 x2 : Int) (h : Heap) : Prop := gJ [.any, .int .i64, .int .i64] [x0, (.int .i64 x1), (.int .i64 x2)] h (s72l1_R F)
def s72l1_E (F : Nat → s72l1_T) (x0 : AVal) (x1 x2 : Int) (h : Heap) : Prop := gJ [.any, .int .i64, .int .i64] [x0, (.int .i64 x1), (.int .i64 x2)] h (fun l h => ∃ n, s72l1_R (F n) l h)
theorem s72l1_go {F : s72l1_T} {x0 : AVal} {x1 x2 : Int} {h : Heap} (H : F x0 x1 x2 h) : s72l1_G F x0 x1 x2 h := gJ_plain rfl H
theorem s72l1_in {F : Nat → s72l1_T} {x0 : AVal} {x1 x2 : Int} {h : Heap} (n : Nat) (H : F n x0 x1 x2 h) : s72l1_E F x0 x1 x2 h := gJ_plain rfl ⟨n, H⟩

abbrev s72l2_T := AVal → Int → Int → Int → Int → Int → Heap → Prop
def s72l2_R (F : s72l2_T) (l : List AVal) (h : Heap) : Prop := J.cons l fun x0 l => J.ci .i64 l fun x1 l => J.ci .i64 l fun x2 l => J.ci .i64 l fun x3 l => J.ci .i64 l fun x4 l => J.ci .i64 l fun x5 l => J.nil l (F x0 x1 x2 x3 x4 x5 h)
def s72l2_G (F : s72l2_T) (x0 : AVal) (x1 x2 x3 x4 x5 : Int) (h : Heap) : Prop := gJ [.any, .int .i64, .int .i64, .int .i64, .int .i64, .int .i64] [x0, (.int .i64 x1), (.int .i64 x2), (.int .i64 x3), (.int .i64 x4), (.int .i64 x5)] h (s72l2_R F)
def s72l2_E (F : Nat → s72l2_T) (x0 : AVal) (x1 x2 x3 x4 x5 : Int) (h : Heap) : Prop := gJ [.any, .int .i64, .int .i64, .int .i64, .int .i64, .int .i64] [x0, (.int .i64 x1), (.int .i64 x2), (.int .i64 x3), (.int .i64 x4), (.int .i64 x5)] h (fun l h => ∃ n, s72l2_R (F n) l h)
theorem s72l2_go {F : s72l2_T} {x0 : AVal} {x1 x2 x3 x4 x5 : Int} {h : Heap} (H : F x0 x1 x2 x3 x4 x5 h) : s72l2_G F x0 x1 x2 x3 x4 x5 h := gJ_plain rfl H
theorem s72l2_in {F : Nat → s72l2_T} {x0 : AVal} {x1 x2 x3 x4 x5 : Int} {h : Heap} (n : Nat) (H : F n x0 x1 x2 x3 x4 x5 h) : s72l2_E F x0 x1 x2 x3 x4 x5 h := gJ_plain rfl ⟨n, H⟩

abbrev s72l4_T := AVal → Int → Int → Int → Int → Int → Int → Int → Int → Heap → Prop
def s72l4_R (F : s72l4_T) (l : List AVal) (h : Heap) : Prop := J.cons l fun x0 l => J.ci .i64 l fun x1 l => J.ci .i64 l fun x2 l => J.ci .i64 l fun x3 l => J.ci .i64 l fun x4 l => J.ci .i64 l fun x5 l => J.ci .i64 l fun x6 l => J.ci .i64 l fun x7 l => J.ci .i64 l fun x8 l => J.nil l (F x0 x1 x2 x3 x4 x5 x6 x7 x8 h)
def s72l4_G (F : s72l4_T) (x0 : AVal) (x1 x2 x3 x4 x5 x6 x7 x8 : Int) (h : Heap) : Prop := gJ [.any, .int .i64, .int .i64, .int .i64, .int .i64, .int .i64, .int .i64, .int .i64, .int .i64] [x0, (.int .i64 x1), (.int .i64 x2), (.int .i64 x3), (.int .i64 x4), (.int .i64 x5), (.int .i64 x6), (.int .i64 x7), (.int .i64 x8)] h (s72l4_R F)
def s72l4_E (F : Nat → s72l4_T) (x0 : AVal) (x1 x2 x3 x4 x5 x6 x7 x8 : Int) (h : Heap) : Prop := gJ [.any, .int .i64, .int .i64, .int .i64, .int .i64, .int .i64, .int .i64, .int .i64, .int .i64] [x0, (.int .i64 x1), (.int .i64 x2), (.int .i64 x3), (.int .i64 x4), (.int .i64 x5), (.int .i64 x6), (.int .i64 x7), (.int .i64 x8)] h (fun l h => ∃ n, s72l4_R (F n) l h)
theorem s72l4_go {F : s72l4_T} {x0 : AVal} {x1 x2 x3 x4 x5 x6 x7 x8 : Int} {h : Heap} (H : F x0 x1 x2 x3 x4 x5 x6 x7 x8 h) : s72l4_G F x0 x1 x2 x3 x4 x5 x6 x7 x8 h := gJ_plain rfl H
theorem s72l4_in {F : Nat → s72l4_T} {x0 : AVal} {x1 x2 x3 x4 x5 x6 x7 x8 : Int} {h : Heap} (n : Nat) (H : F n x0 x1 x2 x3 x4 x5 x6 x7 x8 h) : s72l4_E F x0 x1 x2 x3 x4 x5 x6 x7 x8 h := gJ_plain rfl ⟨n, H⟩

def s72c5 (Ψ : AVal → Heap → Prop) (L1 : s72l1_T) (L2 : s72l2_T) (L4 : s72l4_T) (l_4 : AVal) (x3 y2 t7_4 t8_4 t18_3 t19_3 t40_1 t41_1 : Int) (t63 : Bool) (h : Heap) : Prop :=
 ifT t63 (
 retG (.bool false) h Ψ) (
 rg (t41_1 + 1) (
 L4 l_4 x3 y2 t7_4 t8_4 t18_3 t19_3 t40_1 (t41_1 + 1) h))

def s72l4 (Ψ : AVal → Heap → Prop) (L1 : s72l1_T) (L2 : s72l2_T) : Nat → s72l4_T
 | 0, _, _, _, _, _, _, _, _, _, _ => False
 | n2 + 1, l_3, x2, y1, t7_3, t8_3, t18_2, t19_2, t40, t41, h =>
 ifT (decide (t41 < t40)) (
 addOff l_3 1 fun p3 =>
 ld1 h p3 fun v7 =>
 callV prog v7 [(.int .i64 x2), (.int .i64 y1)] h fun v8 h_1 =>
 tBool v8 fun v9 =>
 ifT v9 (
 addOff l_3 1 fun p4 =>
 ld1 h_1 p4 fun v10 =>
 callV prog v10 [(.int .i64 y1), (.int .i64 t41)] h_1 fun v11 h_2 =>
 tBool v11 fun v12 =>
 ifT v12 (
 addOff l_3 1 fun p5 =>
 ld1 h_2 p5 fun v13 =>
 callV prog v13 [(.int .i64 x2), (.int .i64 t41)] h_2 fun v14 h_3 =>
 tBool v14 fun v15 =>
 s72c5 Ψ L1 L2 (s72l4_G (s72l4 Ψ L1 L2 n2)) l_3 x2 y1 t7_3 t8_3 t18_2 t19_2 t40 t41 (!v15) h_3) (
 s72c5 Ψ L1 L2 (s72l4_G (s72l4 Ψ L1 L2 n2)) l_3 x2 y1 t7_3 t8_3 t18_2 t19_2 t40 t41 false h_2)) (
 s72c5 Ψ L1 L2 (s72l4_G (s72l4 Ψ L1 L2 n2)) l_3 x2 y1 t7_3 t8_3 t18_2 t19_2 t40 t41 false h_1)) (
 rg (t19_2 + 1) (
 L2 l_3 x2 t7_3 t8_3 t18_2 (t19_2 + 1) h))

def s72c3 (Ψ : AVal → Heap → Prop) (L1 : s72l1_T) (L2 : s72l2_T) (l_2 : AVal) (x1 y t7_2 t8_2 t18_1 t19_1 : Int) (t38 : Bool) (h : Heap) : Prop :=
 ifT t38 (
 retG (.bool false) h Ψ) (
 addOff l_2 0 fun p2 =>
 ld1 h p2 fun v5 =>
 tInt .i64 v5 fun v6 =>
 s72l4_E (s72l4 Ψ L1 L2) l_2 x1 y t7_2 t8_2 t18_1 t19_1 v6 0 h)

def s72l2 (Ψ : AVal → Heap → Prop) (L1 : s72l1_T) : Nat → s72l2_T
 | 0, _, _, _, _, _, _, _ => False
 | n1 + 1, l_1, x, t7_1, t8_1, t18, t19, h =>
 ifT (decide (t19 < t18)) (
 ifT (x != t19) (
 addOff l_1 1 fun p6 =>
 ld1 h p6 fun v16 =>
 callV prog v16 [(.int .i64 x), (.int .i64 t19)] h fun v17 h_4 =>
 tBool v17 fun v18 =>
 ifT v18 (
 addOff l_1 1 fun p7 =>
 ld1 h_4 p7 fun v19 =>
 callV prog v19 [(.int .i64 t19), (.int .i64 x)] h_4 fun v20 h_5 =>
 tBool v20 fun v21 =>
 s72c3 Ψ L1 (s72l2_G (s72l2 Ψ L1 n1)) l_1 x t19 t7_1 t8_1 t18 t19 v21 h_5) (
 s72c3 Ψ L1 (s72l2_G (s72l2 Ψ L1 n1)) l_1 x t19 t7_1 t8_1 t18 t19 false h_4)) (
 s72c3 Ψ L1 (s72l2_G (s72l2 Ψ L1 n1)) l_1 x t19 t7_1 t8_1 t18 t19 false h)) (
 rg (t8_1 + 1) (
 L1 l_1 t7_1 (t8_1 + 1) h))

def s72l1 (Ψ : AVal → Heap → Prop) : Nat → s72l1_T
 | 0, _, _, _, _ => False
 | n + 1, l_, t7, t8, h =>
 ifT (decide (t8 < t7)) (
 addOff l_ 1 fun p =>
 ld1 h p fun v =>
 callV prog v [(.int .i64 t8), (.int .i64 t8)] h fun v1 h_ =>
 tBool v1 fun v2 =>
 ifT (!v2) (
 retG (.bool false) h_ Ψ) (
 addOff l_ 0 fun p1 =>
 ld1 h_ p1 fun v3 =>
 tInt .i64 v3 fun v4 =>
 s72l2_E (s72l2 Ψ (s72l1_G (s72l1 Ψ n))) l_ t8 t7 t8 v4 0 h_)) (
 retG (.bool true) h Ψ)

def s72 (Ψ : AVal → Heap → Prop) (l_n : Int) (l_leq : AVal) (h : Heap) : Prop :=
 s72l1_E (s72l1 Ψ) (.lptr [(.int .i64 l_n), l_leq]) l_n 0 h

def s72_A (Ψ : AVal → Heap → Prop) : Ann :=
 .seq (.reg [⟨none, [(0, true), (1, false)]⟩])
 (.seq (.seq (rA 3)
 (.block (.loop [(1, .any), (7, .int .i64), (8, .int .i64)] (fun n l h => s72l1_R (s72l1 Ψ n) l h) (fun L1 =>
 .seq (rA 1)
 (.seq (.cond (.leaf)
 (.leaf))
 (.seq (.block (.seq (rA 2)
 (.seq (.seq (rA 6)
 (.cond (.seq (rA 1)
 (.leaf))
 (.leaf)))
 (.seq (rA 3)
 (.block (.loop [(1, .any), (3, .int .i64), (7, .int .i64), (8, .int .i64), (18, .int .i64), (19, .int .i64)] (fun n l h => s72l2_R (s72l2 Ψ (fun y0 y1 y2 h => L1 [y0, (.int .i64 y1), (.int .i64 y2)] h) n) l h) (fun L2 =>
 .seq (rA 1)
 (.seq (.cond (.leaf)
 (.leaf))
 (.seq (.block (.seq (rA 2)
 (.seq (.cut [(1, .any), (3, .int .i64), (4, .int .i64), (7, .int .i64), (8, .int .i64), (18, .int .i64), (19, .int .i64), (38, .bool)] (fun l h => J.cons l fun x0 l => J.ci .i64 l fun x1 l => J.ci .i64 l fun x2 l => J.ci .i64 l fun x3 l => J.ci .i64 l fun x4 l => J.ci .i64 l fun x5 l => J.ci .i64 l fun x6 l => J.cb l fun x7 l => J.nil l (s72c3 Ψ (fun y0 y1 y2 h => L1 [y0, (.int .i64 y1), (.int .i64 y2)] h) (fun y0 y1 y2 y3 y4 y5 h => L2 [y0, (.int .i64 y1), (.int .i64 y2), (.int .i64 y3), (.int .i64 y4), (.int .i64 y5)] h) x0 x1 x2 x3 x4 x5 x6 x7 h)) (.reg [⟨none, [(0, false), (1, false), (2, false), (3, false)]⟩, ⟨some (25, true), [(4, false), (5, false), (6, false), (7, false), (8, false)]⟩, ⟨none, [(9, false), (10, false)]⟩, ⟨some (32, true), [(11, false), (12, false), (13, false), (14, false), (15, false)]⟩, ⟨none, [(16, false)]⟩])
 (.cond (.seq (rA 1)
 (.leaf))
 (.leaf)))
 (.seq (rA 3)
 (.block (.loop [(1, .any), (3, .int .i64), (4, .int .i64), (7, .int .i64), (8, .int .i64), (18, .int .i64), (19, .int .i64), (40, .int .i64), (41, .int .i64)] (fun n l h => s72l4_R (s72l4 Ψ (fun y0 y1 y2 h => L1 [y0, (.int .i64 y1), (.int .i64 y2)] h) (fun y0 y1 y2 y3 y4 y5 h => L2 [y0, (.int .i64 y1), (.int .i64 y2), (.int .i64 y3), (.int .i64 y4), (.int .i64 y5)] h) n) l h) (fun L4 =>
 .seq (rA 1)
 (.seq (.cond (.leaf)
 (.leaf))
 (.seq (.block (.seq (rA 2)
 (.cut [(1, .any), (3, .int .i64), (4, .int .i64), (7, .int .i64), (8, .int .i64), (18, .int .i64), (19, .int .i64), (40, .int .i64), (41, .int .i64), (63, .bool)] (fun l h => J.cons l fun x0 l => J.ci .i64 l fun x1 l => J.ci .i64 l fun x2 l => J.ci .i64 l fun x3 l => J.ci .i64 l fun x4 l => J.ci .i64 l fun x5 l => J.ci .i64 l fun x6 l => J.ci .i64 l fun x7 l => J.ci .i64 l fun x8 l => J.cb l fun x9 l => J.nil l (s72c5 Ψ (fun y0 y1 y2 h => L1 [y0, (.int .i64 y1), (.int .i64 y2)] h) (fun y0 y1 y2 y3 y4 y5 h => L2 [y0, (.int .i64 y1), (.int .i64 y2), (.int .i64 y3), (.int .i64 y4), (.int .i64 y5)] h) (fun y0 y1 y2 y3 y4 y5 y6 y7 y8 h => L4 [y0, (.int .i64 y1), (.int .i64 y2), (.int .i64 y3), (.int .i64 y4), (.int .i64 y5), (.int .i64 y6), (.int .i64 y7), (.int .i64 y8)] h) x0 x1 x2 x3 x4 x5 x6 x7 x8 x9 h)) (.reg [⟨none, [(0, false), (1, false), (2, false), (3, false), (4, false), (5, false)]⟩, ⟨some (49, true), [(6, false), (7, false), (8, false), (9, false), (10, false)]⟩, ⟨none, [(11, false), (12, false)]⟩, ⟨some (56, true), [(13, false), (14, false), (15, false), (16, false), (17, false), (18, false)]⟩, ⟨none, [(19, false)]⟩])
 (.cond (.seq (rA 1)
 (.leaf))
 (.leaf)))))
 (rA 2))))))))))
 (rA 2))))))))))
 (rA 2)))))))
 (.seq (rA 1)
 (.leaf)))

theorem s72_ok {Ψ : AVal → Heap → Prop} {l_n : Int} {l_leq : AVal} {h : Heap} (H : s72 Ψ l_n l_leq h) : ACalls prog 72 [(.agg [(.int .i64 l_n), l_leq])] h Ψ :=
 calls_of_evF func72 (by kernel_rfl) (by kernel_rfl) (by kernel_rfl)
 (Eq.mpr (by as_aux_lemma => kernel_rfl : oblF prog f72 (s72_A Ψ) Ψ = ((True) ∧ (((True) ∧ ((∀ (h : Heap) (x0 : AVal) (x1 x2 : Int), ON (s72l1 Ψ 0 x0 x1 x2 h)) ∧ (∀ n1 : Nat, (∀ (h : Heap) (x0 : AVal) (x1 x2 : Int), OI (s72l1 Ψ (n1 + 1) x0 x1 x2 h)) ∧ ((True) ∧ ((otP 1) ∧ (((True) ∧ ((otP 13) ∧ ((True) ∧ ((∀ (h : Heap) (x0 : AVal) (x1 x2 x3 x4 x5 : Int), ON (s72l2 Ψ (s72l1_G (s72l1 Ψ n1)) 0 x0 x1 x2 x3 x4 x5 h)) ∧ (∀ n2 : Nat, (∀ (h : Heap) (x0 : AVal) (x1 x2 x3 x4 x5 : Int), OI (s72l2 Ψ (s72l1_G (s72l1 Ψ n1)) (n2 + 1) x0 x1 x2 x3 x4 x5 h)) ∧ ((True) ∧ ((otP 1) ∧ (((True) ∧ (((True) ∧ ((∀ (h : Heap) (x0 : AVal) (x1 x2 x3 x4 x5 x6 : Int) (x7 : Bool), OI (s72c3 Ψ (s72l1_G (s72l1 Ψ n1)) (s72l2_G (s72l2 Ψ (s72l1_G (s72l1 Ψ n1)) n2)) x0 x1 x2 x3 x4 x5 x6 x7 h)) ∧ (otP 3))) ∧ ((True) ∧ ((∀ (h : Heap) (x0 : AVal) (x1 x2 x3 x4 x5 x6 x7 x8 : Int), ON (s72l4 Ψ (s72l1_G (s72l1 Ψ n1)) (s72l2_G (s72l2 Ψ (s72l1_G (s72l1 Ψ n1)) n2)) 0 x0 x1 x2 x3 x4 x5 x6 x7 x8 h)) ∧ (∀ n4 : Nat, (∀ (h : Heap) (x0 : AVal) (x1 x2 x3 x4 x5 x6 x7 x8 : Int), OI (s72l4 Ψ (s72l1_G (s72l1 Ψ n1)) (s72l2_G (s72l2 Ψ (s72l1_G (s72l1 Ψ n1)) n2)) (n4 + 1) x0 x1 x2 x3 x4 x5 x6 x7 x8 h)) ∧ ((True) ∧ ((otP 1) ∧ (((True) ∧ ((True) ∧ ((∀ (h : Heap) (x0 : AVal) (x1 x2 x3 x4 x5 x6 x7 x8 : Int) (x9 : Bool), OI (s72c5 Ψ (s72l1_G (s72l1 Ψ n1)) (s72l2_G (s72l2 Ψ (s72l1_G (s72l1 Ψ n1)) n2)) (s72l4_G (s72l4 Ψ (s72l1_G (s72l1 Ψ n1)) (s72l2_G (s72l2 Ψ (s72l1_G (s72l1 Ψ n1)) n2)) n4)) x0 x1 x2 x3 x4 x5 x6 x7 x8 x9 h)) ∧ (otP 3)))) ∧ (True))))))))) ∧ (True))))))))) ∧ (True))))))) ∧ (otP 1)))) (⟨trivial, ⟨⟨trivial, ⟨fun _ _ _ _ H => H, fun _ => ⟨fun _ _ _ _ H => H, ⟨trivial, ⟨otP_ok 1, ⟨⟨trivial, ⟨otP_ok 13, ⟨trivial, ⟨fun _ _ _ _ _ _ _ H => H, fun _ => ⟨fun _ _ _ _ _ _ _ H => H, ⟨trivial, ⟨otP_ok 1, ⟨⟨trivial, ⟨⟨trivial, ⟨fun _ _ _ _ _ _ _ _ _ H => H, otP_ok 3⟩⟩, ⟨trivial, ⟨fun _ _ _ _ _ _ _ _ _ _ H => H, fun _ => ⟨fun _ _ _ _ _ _ _ _ _ _ H => H, ⟨trivial, ⟨otP_ok 1, ⟨⟨trivial, ⟨trivial, ⟨fun _ _ _ _ _ _ _ _ _ _ _ H => H, otP_ok 3⟩⟩⟩, trivial⟩⟩⟩⟩⟩⟩⟩⟩, trivial⟩⟩⟩⟩⟩⟩⟩⟩, trivial⟩⟩⟩⟩⟩⟩, otP_ok 1⟩⟩))
 (Eq.mpr (by as_aux_lemma => kernel_rfl : evF prog f72 (s72_A Ψ) Ψ [(.agg [(.int .i64 l_n), l_leq])] h = s72 Ψ l_n l_leq h) H)

/- 74 (dictum/heyting.lattice).bounds$1 -/
def s74 (Ψ : AVal → Heap → Prop) (a0 : Int) (h : Heap) : Prop :=
 retG (.bool true) h Ψ

def s74_A (Ψ : AVal → Heap → Prop) : Ann :=
 .seq (rA 1)
 (.seq (rA 1)
 (.leaf))

theorem s74_ok {Ψ : AVal → Heap → Prop} {a0 : Int} {h : Heap} (H : s74 Ψ a0 h) : ACalls prog 74 [(.int .i64 a0)] h Ψ :=
 calls_of_evF func74 (by kernel_rfl) (by kernel_rfl) (by kernel_rfl)
 (Eq.mpr (by as_aux_lemma => kernel_rfl : oblF prog f74 (s74_A Ψ) Ψ = (otP 5)) (otP_ok 5))
 (Eq.mpr (by as_aux_lemma => kernel_rfl : evF prog f74 (s74_A Ψ) Ψ [(.int .i64 a0)] h = s74 Ψ a0 h) H)

/- 76 (dictum/heyting.lattice).down -/
def s76 (Ψ : AVal → Heap → Prop) (l_n : Int) (l_leq : AVal) (z : Int) (w : Int) (h : Heap) : Prop :=
 callV prog l_leq [(.int .i64 z), (.int .i64 w)] h fun v h_ =>
 tBool v fun v1 =>
 retG (.bool v1) h_ Ψ

def s76_A (Ψ : AVal → Heap → Prop) : Ann :=
 .seq (.reg [⟨none, [(0, true), (1, false)]⟩])
 (.seq (rA 6)
 (.leaf))

theorem s76_ok {Ψ : AVal → Heap → Prop} {l_n : Int} {l_leq : AVal} {z : Int} {w : Int} {h : Heap} (H : s76 Ψ l_n l_leq z w h) : ACalls prog 76 [(.agg [(.int .i64 l_n), l_leq]), (.int .i64 z), (.int .i64 w)] h Ψ :=
 calls_of_evF func76 (by kernel_rfl) (by kernel_rfl) (by kernel_rfl)
 (Eq.mpr (by as_aux_lemma => kernel_rfl : oblF prog f76 (s76_A Ψ) Ψ = (otP 5)) (otP_ok 5))
 (Eq.mpr (by as_aux_lemma => kernel_rfl : evF prog f76 (s76_A Ψ) Ψ [(.agg [(.int .i64 l_n), l_leq]), (.int .i64 z), (.int .i64 w)] h = s76 Ψ l_n l_leq z w h) H)

/- 78 (dictum/heyting.lattice).join$1 -/
def s78 (Ψ : AVal → Heap → Prop) (z : Int) (c0 : AVal) (c1 : AVal) (c2 : AVal) (h : Heap) : Prop :=
 addOff c0 1 fun p =>
 ld1 h p fun v =>
 ld1 h c1 fun v1 =>
 tInt .i64 v1 fun v2 =>
 callV prog v [(.int .i64 v2), (.int .i64 z)] h fun v3 h_ =>
 tBool v3 fun v4 =>
 ifT v4 (
 addOff c0 1 fun p1 =>
 ld1 h_ p1 fun v5 =>
 ld1 h_ c2 fun v6 =>
 tInt .i64 v6 fun v7 =>
 callV prog v5 [(.int .i64 v7), (.int .i64 z)] h_ fun v8 h_1 =>
 tBool v8 fun v9 =>
 retG (.bool v9) h_1 Ψ) (
 retG (.bool false) h_ Ψ)

def s78_A (Ψ : AVal → Heap → Prop) : Ann :=
 .seq (rA 1)
 (.seq (.reg [⟨none, [(0, false), (1, false), (2, false), (3, false), (4, false), (5, false)]⟩, ⟨some (11, true), [(6, false), (7, false), (8, false), (9, false), (10, false)]⟩, ⟨none, [(11, false), (12, false)]⟩])
 (.leaf))

theorem s78_ok {Ψ : AVal → Heap → Prop} {z : Int} {c0 : AVal} {c1 : AVal} {c2 : AVal} {h : Heap} (H : s78 Ψ z c0 c1 c2 h) : ACalls prog 78 [(.int .i64 z), c0, c1, c2] h Ψ :=
 calls_of_evF func78 (by kernel_rfl) (by kernel_rfl) (by kernel_rfl)
 (Eq.mpr (by as_aux_lemma => kernel_rfl : oblF prog f78 (s78_A Ψ) Ψ = (otP 5)) (otP_ok 5))
 (Eq.mpr (by as_aux_lemma => kernel_rfl : evF prog f78 (s78_A Ψ) Ψ [(.int .i64 z), c0, c1, c2] h = s78 Ψ z c0 c1 c2 h) H)

/- 80 dictum/worlds.all -/
abbrev s80l1_T := AVal → AVal → Int → Int → Heap → Prop
def s80l1_R (F : s80l1_T) (l : List AVal) (h : Heap) : Prop := J.cons l fun x0 l => J.cons l fun x1 l => J.ci .i64 l fun x2 l => J.ci .i64 l fun x3 l => J.nil l (F x0 x1 x2 x3 h)
def s80l1_G (F : s80l1_T) (x0 x1 : AVal) (x2 x3 : Int) (h : Heap) : Prop := gJ [.any, .any, .int .i64, .int .i64] [x0, x1, (.int .i64 x2), (.int .i64 x3)] h (s80l1_R F)
def s80l1_E (F : Nat → s80l1_T) (x0 x1 : AVal) (x2 x3 : Int) (h : Heap) : Prop := gJ [.any, .any, .int .i64, .int .i64] [x0, x1, (.int .i64 x2), (.int .i64 x3)] h (fun l h => ∃ n, s80l1_R (F n) l h)
theorem s80l1_go {F : s80l1_T} {x0 x1 : AVal} {x2 x3 : Int} {h : Heap} (H : F x0 x1 x2 x3 h) : s80l1_G F x0 x1 x2 x3 h := gJ_plain rfl H
theorem s80l1_in {F : Nat → s80l1_T} {x0 x1 : AVal} {x2 x3 : Int} {h : Heap} (n : Nat) (H : F n x0 x1 x2 x3 h) : s80l1_E F x0 x1 x2 x3 h := gJ_plain rfl ⟨n, H⟩

def s80c2 (Ψ : AVal → Heap → Prop) (L1 : s80l1_T) (is2 l_1 : AVal) (t9_1 t10_1 : Int) (h : Heap) : Prop :=
 rg (t10_1 + 1) (
 L1 is2 l_1 t9_1 (t10_1 + 1) h)

def s80l1 (Ψ : AVal → Heap → Prop) : Nat → s80l1_T
 | 0, _, _, _, _, _ => False
 | n1 + 1, is1, l_, t9, t10, h =>
 ifT (decide (t10 < t9)) (
 callV prog is1 [(.int .i64 t10)] h fun v h_ =>
 tBool v fun v1 =>
 ifT v1 (
 appC 1 8 h_ l_ (.lsl 1 [(.int .i64 t10)]) fun v2 h_1 =>
 s80c2 Ψ (s80l1_G (s80l1 Ψ n1)) is1 v2 t9 t10 h_1) (
 s80c2 Ψ (s80l1_G (s80l1 Ψ n1)) is1 l_ t9 t10 h_)) (
 retG l_ h Ψ)

def s80 (Ψ : AVal → Heap → Prop) (m_Up : AVal) (m_Val : AVal) (is : AVal) (h : Heap) : Prop :=
 lenN m_Up fun n =>
 s80l1_E (s80l1 Ψ) is .nilsl n 0 h

def s80_A (Ψ : AVal → Heap → Prop) : Ann :=
 .seq (.reg [⟨none, [(0, true), (1, false)]⟩])
 (.seq (rA 1)
 (.seq (.seq (rA 4)
 (.block (.loop [(1, .any), (5, .any), (9, .int .i64), (10, .int .i64)] (fun n l h => s80l1_R (s80l1 Ψ n) l h) (fun L1 =>
 .seq (rA 1)
 (.seq (.cond (.leaf)
 (.leaf))
 (.cut [(1, .any), (5, .any), (9, .int .i64), (10, .int .i64)] (fun l h => J.cons l fun x0 l => J.cons l fun x1 l => J.ci .i64 l fun x2 l => J.ci .i64 l fun x3 l => J.nil l (s80c2 Ψ (fun y0 y1 y2 y3 h => L1 [y0, y1, (.int .i64 y2), (.int .i64 y3)] h) x0 x1 x2 x3 h)) (.block (.seq (rA 2)
 (.seq (rA 3)
 (.cond (.reg [⟨none, [(0, false), (1, false), (2, true), (3, false), (4, false)]⟩])
 (.leaf)))))
 (rA 2)))))))
 (.seq (rA 2)
 (.leaf))))

theorem s80_ok {Ψ : AVal → Heap → Prop} {m_Up : AVal} {m_Val : AVal} {is : AVal} {h : Heap} (H : s80 Ψ m_Up m_Val is h) : ACalls prog 80 [(.agg [m_Up, m_Val]), is] h Ψ :=
 calls_of_evF func80 (by kernel_rfl) (by kernel_rfl) (by kernel_rfl)
 (Eq.mpr (by as_aux_lemma => kernel_rfl : oblF prog f80 (s80_A Ψ) Ψ = ((True) ∧ ((True) ∧ (((True) ∧ ((∀ (h : Heap) (x0 x1 : AVal) (x2 x3 : Int), ON (s80l1 Ψ 0 x0 x1 x2 x3 h)) ∧ (∀ n1 : Nat, (∀ (h : Heap) (x0 x1 : AVal) (x2 x3 : Int), OI (s80l1 Ψ (n1 + 1) x0 x1 x2 x3 h)) ∧ ((True) ∧ ((otP 1) ∧ ((otP 21) ∧ ((∀ (h : Heap) (x0 x1 : AVal) (x2 x3 : Int), OI (s80c2 Ψ (s80l1_G (s80l1 Ψ n1)) x0 x1 x2 x3 h)) ∧ (True)))))))) ∧ (otP 1))))) (⟨trivial, ⟨trivial, ⟨⟨trivial, ⟨fun _ _ _ _ _ H => H, fun _ => ⟨fun _ _ _ _ _ H => H, ⟨trivial, ⟨otP_ok 1, ⟨otP_ok 21, ⟨fun _ _ _ _ _ H => H, trivial⟩⟩⟩⟩⟩⟩⟩, otP_ok 1⟩⟩⟩))
 (Eq.mpr (by as_aux_lemma => kernel_rfl : evF prog f80 (s80_A Ψ) Ψ [(.agg [m_Up, m_Val]), is] h = s80 Ψ m_Up m_Val is h) H)

/- 82 dictum/worlds.Tidy$2 -/
def s82 (Ψ : AVal → Heap → Prop) (b : Int) (c0 : AVal) (c1 : AVal) (h : Heap) : Prop :=
 ld1 h c0 fun v =>
 callG prog 83 [v, (.func (.func 84) [] [(.lptr [(.int .i64 b)]), c1])] h fun v1 h_ =>
 tBool v1 fun v2 =>
 retG (.bool (!v2)) h_ Ψ

def s82_A (Ψ : AVal → Heap → Prop) : Ann :=
 .seq (.reg [⟨none, [(0, true), (1, false)]⟩])
 (.seq (rA 5)
 (.leaf))

theorem s82_ok {Ψ : AVal → Heap → Prop} {b : Int} {c0 : AVal} {c1 : AVal} {h : Heap} (H : s82 Ψ b c0 c1 h) : ACalls prog 82 [(.int .i64 b), c0, c1] h Ψ :=
 calls_of_evF func82 (by kernel_rfl) (by kernel_rfl) (by kernel_rfl)
 (Eq.mpr (by as_aux_lemma => kernel_rfl : oblF prog f82 (s82_A Ψ) Ψ = (otP 5)) (otP_ok 5))
 (Eq.mpr (by as_aux_lemma => kernel_rfl : evF prog f82 (s82_A Ψ) Ψ [(.int .i64 b), c0, c1] h = s82 Ψ b c0 c1 h) H)

/- 84 dictum/worlds.Tidy$2$1 -/
def s84 (Ψ : AVal → Heap → Prop) (c : Int) (c0 : AVal) (c1 : AVal) (h : Heap) : Prop :=
 ld1 h c0 fun v =>
 tInt .i64 v fun v1 =>
 ifT (c != v1) (
 ld1 h c1 fun v2 =>
 ld1 h c0 fun v3 =>
 tInt .i64 v3 fun v4 =>
 callV prog v2 [(.int .i64 c), (.int .i64 v4)] h fun v5 h_ =>
 tBool v5 fun v6 =>
 retG (.bool v6) h_ Ψ) (
 retG (.bool false) h Ψ)

def s84_A (Ψ : AVal → Heap → Prop) : Ann :=
 .seq (rA 1)
 (.seq (.reg [⟨none, [(0, false), (1, false), (2, false), (3, false)]⟩, ⟨some (8, true), [(4, false), (5, false), (6, false), (7, false)]⟩, ⟨none, [(8, false), (9, false)]⟩])
 (.leaf))

theorem s84_ok {Ψ : AVal → Heap → Prop} {c : Int} {c0 : AVal} {c1 : AVal} {h : Heap} (H : s84 Ψ c c0 c1 h) : ACalls prog 84 [(.int .i64 c), c0, c1] h Ψ :=
 calls_of_evF func84 (by kernel_rfl) (by kernel_rfl) (by kernel_rfl)
 (Eq.mpr (by as_aux_lemma => kernel_rfl : oblF prog f84 (s84_A Ψ) Ψ = (otP 5)) (otP_ok 5))
 (Eq.mpr (by as_aux_lemma => kernel_rfl : evF prog f84 (s84_A Ψ) Ψ [(.int .i64 c), c0, c1] h = s84 Ψ c c0 c1 h) H)

/- 88 (*dictum/dictumref03.T).Put -/
def s88c1 (Ψ : AVal → Heap → Prop) (t1 n : AVal) (h : Heap) : Prop :=
 ldN 4 h n fun l_ =>
 tCons l_ fun v l_1 =>
 tInt .i64 v fun v1 =>
 tCons l_1 fun v2 l_2 =>
 tStr v2 fun v3 =>
 tCons l_2 fun v4 l_3 =>
 tInt .i64 v4 fun v5 =>
 tCons l_3 fun v6 l_4 =>
 tInt .i64 v6 fun v7 =>
 tNil l_4 (
 callG prog 119 [t1, (.agg [(.int .i64 v1), (.str v3), (.int .i64 v5), (.int .i64 v7)])] h fun v8 h_ =>
 tTup v8 fun l_5 =>
 tCons l_5 fun v9 l_6 =>
 tInt .i64 v9 fun v10 =>
 tCons l_6 fun v11 l_7 =>
 tBool v11 fun v12 =>
 tNil l_7 (
 ifT v12 (
 retG (.tuple [(.int .i64 v10), (.int .i64 0)]) h_ Ψ) (
 nilCheckA t1 fun p =>
 addOff p 0 fun p1 =>
 ld1 h_ p1 fun v13 =>
 lenN v13 fun n1 =>
 ifT (decide (1024 ≤ n1)) (
 retG (.tuple [(.int .i64 0), (.int .i64 30)]) h_ Ψ) (
 nilCheckA t1 fun p2 =>
 addOff p2 0 fun p3 =>
 ld1 h_ p3 fun v14 =>
 ldN 4 h_ n fun l_8 =>
 tCons l_8 fun v15 l_9 =>
 tInt .i64 v15 fun v16 =>
 tCons l_9 fun v17 l_10 =>
 tStr v17 fun v18 =>
 tCons l_10 fun v19 l_11 =>
 tInt .i64 v19 fun v20 =>
 tCons l_11 fun v21 l_12 =>
 tInt .i64 v21 fun v22 =>
 tNil l_12 (
 (ld1 h_ p3 fun v23 =>
 v23 = v14) ∧
 appC 4 40 h_ v14 (.lsl 4 [(.agg [(.int .i64 v16), (.str v18), (.int .i64 v20), (.int .i64 v22)])]) fun v24 h_1 =>
 nilCheckA t1 fun p4 =>
 addOff p4 0 fun p5 =>
 chk (sc v24) (
 st true h_1 p5 [v24] fun h_2 =>
 nilCheckA t1 fun p6 =>
 addOff p6 0 fun p7 =>
 ld1 h_2 p7 fun v25 =>
 lenN v25 fun n2 =>
 rg (n2 - 1) (
 retG (.tuple [(.int .i64 (n2 - 1)), (.int .i64 0)]) h_2 Ψ)))))))

def s88c2 (Ψ : AVal → Heap → Prop) (t2 n3 : AVal) (t19 : Bool) (h : Heap) : Prop :=
 ifT t19 (
 retG (.tuple [(.int .i64 0), (.int .i64 31)]) h Ψ) (
 addOff n3 1 fun p8 =>
 ld1 h p8 fun v26 =>
 tStr v26 fun v27 =>
 callG prog 103 [(.str v27)] h fun v28 h_3 =>
 tBool v28 fun v29 =>
 ifT (!v29) (
 retG (.tuple [(.int .i64 0), (.int .i64 32)]) h_3 Ψ) (
 s88c1 Ψ t2 n3 h_3))

def s88c3 (Ψ : AVal → Heap → Prop) (t3 n4 : AVal) (t38 : Bool) (h : Heap) : Prop :=
 ifT t38 (
 retG (.tuple [(.int .i64 0), (.int .i64 31)]) h Ψ) (
 s88c1 Ψ t3 n4 h)

def s88c5 (Ψ : AVal → Heap → Prop) (t5 n6 : AVal) (t59 : Bool) (h : Heap) : Prop :=
 ifT t59 (
 retG (.tuple [(.int .i64 0), (.int .i64 31)]) h Ψ) (
 s88c1 Ψ t5 n6 h)

def s88c4 (Ψ : AVal → Heap → Prop) (t4 n5 : AVal) (t39 : Bool) (h : Heap) : Prop :=
 ifT t39 (
 addOff n5 1 fun p9 =>
 ld1 h p9 fun v30 =>
 tStr v30 fun v31 =>
 ifT (!strEq v31 (ByteArray.mk #[])) (
 s88c5 Ψ t4 n5 true h) (
 addOff n5 2 fun p10 =>
 ld1 h p10 fun v32 =>
 tInt .i64 v32 fun v33 =>
 callG prog 24 [t4, (.int .i64 v33)] h fun v34 h_4 =>
 tBool v34 fun v35 =>
 ifT (!v35) (
 s88c5 Ψ t4 n5 true h_4) (
 addOff n5 3 fun p11 =>
 ld1 h_4 p11 fun v36 =>
 tInt .i64 v36 fun v37 =>
 callG prog 24 [t4, (.int .i64 v37)] h_4 fun v38 h_5 =>
 tBool v38 fun v39 =>
 s88c5 Ψ t4 n5 (!v39) h_5))) (
 retG (.tuple [(.int .i64 0), (.int .i64 31)]) h Ψ)

def s88 (Ψ : AVal → Heap → Prop) (t : AVal) (n_Kind : Int) (n_Name : ByteArray) (n_L : Int) (n_R : Int) (h : Heap) : Prop :=
 ifT (n_Kind == 1) (
 ifT (n_L != 0) (
 s88c2 Ψ t (.lptr [(.int .i64 n_Kind), (.str n_Name), (.int .i64 n_L), (.int .i64 n_R)]) true h) (
 s88c2 Ψ t (.lptr [(.int .i64 n_Kind), (.str n_Name), (.int .i64 n_L), (.int .i64 n_R)]) (n_R != 0) h)) (
 ifT (n_Kind == 2) (
 ifT (!strEq n_Name (ByteArray.mk #[])) (
 s88c3 Ψ t (.lptr [(.int .i64 n_Kind), (.str n_Name), (.int .i64 n_L), (.int .i64 n_R)]) true h) (
 ifT (n_L != 0) (
 s88c3 Ψ t (.lptr [(.int .i64 n_Kind), (.str n_Name), (.int .i64 n_L), (.int .i64 n_R)]) true h) (
 s88c3 Ψ t (.lptr [(.int .i64 n_Kind), (.str n_Name), (.int .i64 n_L), (.int .i64 n_R)]) (n_R != 0) h))) (
 ifT (n_Kind == 3) (
 s88c4 Ψ t (.lptr [(.int .i64 n_Kind), (.str n_Name), (.int .i64 n_L), (.int .i64 n_R)]) (n_Kind == 3) h) (
 ifT (n_Kind == 4) (
 s88c4 Ψ t (.lptr [(.int .i64 n_Kind), (.str n_Name), (.int .i64 n_L), (.int .i64 n_R)]) (n_Kind == 4) h) (
 s88c4 Ψ t (.lptr [(.int .i64 n_Kind), (.str n_Name), (.int .i64 n_L), (.int .i64 n_R)]) (n_Kind == 5) h))))

def s88_A (Ψ : AVal → Heap → Prop) : Ann :=
 .seq (.reg [⟨none, [(0, true), (1, false), (2, false)]⟩])
 (.cut [(0, .any), (3, .any)] (fun l h => J.cons l fun x0 l => J.cons l fun x1 l => J.nil l (s88c1 Ψ x0 x1 h)) (.seq (rA 2)
 (.block (.seq (rA 2)
 (.cond (.seq (.cut [(0, .any), (3, .any), (19, .bool)] (fun l h => J.cons l fun x0 l => J.cons l fun x1 l => J.cb l fun x2 l => J.nil l (s88c2 Ψ x0 x1 x2 h)) (.reg [⟨none, [(0, false), (1, false), (2, false), (3, false)]⟩, ⟨some (15, false), [(4, false), (5, false), (6, false)]⟩, ⟨none, [(7, false)]⟩])
 (.cond (.seq (rA 2)
 (.leaf))
 (.leaf)))
 (.seq (rA 4)
 (.cond (.seq (rA 2)
 (.leaf))
 (.leaf))))
 (.seq (rA 2)
 (.cond (.cut [(0, .any), (3, .any), (38, .bool)] (fun l h => J.cons l fun x0 l => J.cons l fun x1 l => J.cb l fun x2 l => J.nil l (s88c3 Ψ x0 x1 x2 h)) (.reg [⟨none, [(0, false), (1, false), (2, false), (3, false)]⟩, ⟨some (29, false), [(4, false), (5, false), (6, false)]⟩, ⟨none, [(7, false), (8, false)]⟩, ⟨some (34, false), [(9, false), (10, false), (11, false)]⟩, ⟨none, [(12, false)]⟩])
 (.cond (.seq (rA 2)
 (.leaf))
 (.leaf)))
 (.cut [(0, .any), (3, .any), (39, .bool)] (fun l h => J.cons l fun x0 l => J.cons l fun x1 l => J.cb l fun x2 l => J.nil l (s88c4 Ψ x0 x1 x2 h)) (.seq (rA 2)
 (.cond (.leaf)
 (.seq (rA 2)
 (.cond (.leaf)
 (rA 2)))))
 (.cond (.cut [(0, .any), (3, .any), (59, .bool)] (fun l h => J.cons l fun x0 l => J.cons l fun x1 l => J.cb l fun x2 l => J.nil l (s88c5 Ψ x0 x1 x2 h)) (.reg [⟨none, [(0, false), (1, false), (2, false), (3, false)]⟩, ⟨some (46, false), [(4, false), (5, false), (6, false), (7, false), (8, false)]⟩, ⟨none, [(9, false), (10, false)]⟩, ⟨some (53, false), [(11, false), (12, false), (13, false), (14, false), (15, false)]⟩, ⟨none, [(16, false)]⟩])
 (.cond (.seq (rA 2)
 (.leaf))
 (.leaf)))
 (.seq (rA 2)
 (.leaf))))))))))
 (.seq (rA 8)
 (.seq (.seq (rA 1)
 (.cond (.seq (rA 3)
 (.leaf))
 (.leaf)))
 (.seq (.seq (rA 6)
 (.cond (.seq (rA 2)
 (.leaf))
 (.leaf)))
 (.seq (.draw [(0, false), (1, false), (2, false), (3, false), (4, false), (5, false), (6, true), (7, false), (8, false), (9, false), (10, false)] [0, 0, 2, 6, 14, 0, 32, 126, 255, 511, 1023])
 (.seq (rA 8)
 (.leaf)))))))

theorem s88_ok {Ψ : AVal → Heap → Prop} {t : AVal} {n_Kind : Int} {n_Name : ByteArray} {n_L : Int} {n_R : Int} {h : Heap} (H : s88 Ψ t n_Kind n_Name n_L n_R h) : ACalls prog 88 [t, (.agg [(.int .i64 n_Kind), (.str n_Name), (.int .i64 n_L), (.int .i64 n_R)])] h Ψ :=
 calls_of_evF func88 (by kernel_rfl) (by kernel_rfl) (by kernel_rfl)
 (Eq.mpr (by as_aux_lemma => kernel_rfl : oblF prog f88 (s88_A Ψ) Ψ = ((True) ∧ (((True) ∧ ((True) ∧ ((((True) ∧ ((∀ (h : Heap) (x0 x1 : AVal) (x2 : Bool), OI (s88c2 Ψ x0 x1 x2 h)) ∧ (otP 3))) ∧ (otP 13)) ∧ ((True) ∧ (((True) ∧ ((∀ (h : Heap) (x0 x1 : AVal) (x2 : Bool), OI (s88c3 Ψ x0 x1 x2 h)) ∧ (otP 3))) ∧ ((otP 85) ∧ ((∀ (h : Heap) (x0 x1 : AVal) (x2 : Bool), OI (s88c4 Ψ x0 x1 x2 h)) ∧ (((True) ∧ ((∀ (h : Heap) (x0 x1 : AVal) (x2 : Bool), OI (s88c5 Ψ x0 x1 x2 h)) ∧ (otP 3))) ∧ (otP 1))))))))) ∧ ((∀ (h : Heap) (x0 x1 : AVal), OI (s88c1 Ψ x0 x1 h)) ∧ (otP 1338477))))) (⟨trivial, ⟨⟨trivial, ⟨trivial, ⟨⟨⟨trivial, ⟨fun _ _ _ _ H => H, otP_ok 3⟩⟩, otP_ok 13⟩, ⟨trivial, ⟨⟨trivial, ⟨fun _ _ _ _ H => H, otP_ok 3⟩⟩, ⟨otP_ok 85, ⟨fun _ _ _ _ H => H, ⟨⟨trivial, ⟨fun _ _ _ _ H => H, otP_ok 3⟩⟩, otP_ok 1⟩⟩⟩⟩⟩⟩⟩⟩, ⟨fun _ _ _ H => H, otP_ok 1338477⟩⟩⟩))
 (Eq.mpr (by as_aux_lemma => kernel_rfl : evF prog f88 (s88_A Ψ) Ψ [t, (.agg [(.int .i64 n_Kind), (.str n_Name), (.int .i64 n_L), (.int .i64 n_R)])] h = s88 Ψ t n_Kind n_Name n_L n_R h) H)

/- 90 (*dictum/formula.Table).Put -/
def s90 (Ψ : AVal → Heap → Prop) (t : AVal) (n_Kind : Int) (n_Name : ByteArray) (n_L : Int) (n_R : Int) (h : Heap) : Prop :=
 callG prog 91 [t] h fun v h_ =>
 tBool v fun v1 =>
 ifT (!v1) (
 retG (.tuple [(.int .i64 0), (.int .i64 1)]) h_ Ψ) (
 callG prog 120 [t, (.agg [(.int .i64 n_Kind), (.str n_Name), (.int .i64 n_L), (.int .i64 n_R)])] h_ fun v2 h_1 =>
 tInt .i64 v2 fun v3 =>
 ifT (v3 != 0) (
 retG (.tuple [(.int .i64 0), (.int .i64 v3)]) h_1 Ψ) (
 nilCheckA t fun p =>
 addOff p 1 fun p1 =>
 ld1 h_1 p1 fun v4 =>
 mapGet (.int .i64 0) h_1 v4 (.agg [(.int .i64 n_Kind), (.str n_Name), (.int .i64 n_L), (.int .i64 n_R)]) fun v5 b =>
 tInt .i64 v5 fun v6 =>
 ifT b (
 retG (.tuple [(.int .i64 v6), (.int .i64 0)]) h_1 Ψ) (
 nilCheckA t fun p2 =>
 addOff p2 0 fun p3 =>
 ld1 h_1 p3 fun v7 =>
 lenN v7 fun n =>
 ifT (decide (1024 ≤ n)) (
 retG (.tuple [(.int .i64 0), (.int .i64 30)]) h_1 Ψ) (
 nilCheckA t fun p4 =>
 addOff p4 0 fun p5 =>
 ld1 h_1 p5 fun v8 =>
 (ld1 h_1 p5 fun v9 =>
 v9 = v8) ∧
 appC 4 40 h_1 v8 (.lsl 4 [(.agg [(.int .i64 n_Kind), (.str n_Name), (.int .i64 n_L), (.int .i64 n_R)])]) fun v10 h_2 =>
 nilCheckA t fun p6 =>
 addOff p6 0 fun p7 =>
 chk (sc v10) (
 st true h_2 p7 [v10] fun h_3 =>
 nilCheckA t fun p8 =>
 addOff p8 1 fun p9 =>
 ld1 h_3 p9 fun v11 =>
 mapPut h_3 v11 (.agg [(.int .i64 n_Kind), (.str n_Name), (.int .i64 n_L), (.int .i64 n_R)]) (.int .i64 n) fun h_4 =>
 retG (.tuple [(.int .i64 n), (.int .i64 0)]) h_4 Ψ)))))

def s90_A (Ψ : AVal → Heap → Prop) : Ann :=
 .seq (.reg [⟨none, [(0, true), (1, false), (2, false)]⟩])
 (.seq (.seq (rA 3)
 (.cond (.seq (rA 2)
 (.leaf))
 (.leaf)))
 (.seq (.seq (rA 4)
 (.seq (rA 2)
 (.cond (.seq (rA 3)
 (.leaf))
 (.leaf))))
 (.seq (.seq (.draw [(0, false), (1, false), (2, false), (3, false), (4, false), (5, false), (6, false), (7, false), (8, false), (9, false), (10, false)] [0, 1, 3, 7, 0, 31, 63, 127, 127, 255, 1023])
 (.seq (rA 1)
 (.cond (.seq (rA 3)
 (.leaf))
 (.leaf))))
 (.seq (rA 6)
 (.seq (.seq (rA 2)
 (.cond (.seq (rA 2)
 (.leaf))
 (.leaf)))
 (.seq (.draw [(0, false), (1, false), (2, false), (3, false), (4, false), (5, false), (6, true), (7, false), (8, false), (9, false), (10, false)] [0, 0, 2, 6, 14, 0, 32, 126, 255, 511, 1023])
 (.seq (.draw [(0, false), (1, false), (2, false), (3, false), (4, false), (5, false), (6, false)] [0, 1, 3, 7, 0, 0, 63])
 (.seq (rA 3)
 (.leaf)))))))))

theorem s90_ok {Ψ : AVal → Heap → Prop} {t : AVal} {n_Kind : Int} {n_Name : ByteArray} {n_L : Int} {n_R : Int} {h : Heap} (H : s90 Ψ t n_Kind n_Name n_L n_R h) : ACalls prog 90 [t, (.agg [(.int .i64 n_Kind), (.str n_Name), (.int .i64 n_L), (.int .i64 n_R)])] h Ψ :=
 calls_of_evF func90 (by kernel_rfl) (by kernel_rfl) (by kernel_rfl)
 (Eq.mpr (by as_aux_lemma => kernel_rfl : oblF prog f90 (s90_A Ψ) Ψ = (otP 23206894349421)) (otP_ok 23206894349421))
 (Eq.mpr (by as_aux_lemma => kernel_rfl : evF prog f90 (s90_A Ψ) Ψ [t, (.agg [(.int .i64 n_Kind), (.str n_Name), (.int .i64 n_L), (.int .i64 n_R)])] h = s90 Ψ t n_Kind n_Name n_L n_R h) H)

/- 92 (*dictum/formula.Table).has -/
def s92 (Ψ : AVal → Heap → Prop) (t : AVal) (id_ : Int) (h : Heap) : Prop :=
 ifT (decide (0 ≤ id_)) (
 nilCheckA t fun p =>
 addOff p 0 fun p1 =>
 ld1 h p1 fun v =>
 lenN v fun n =>
 retG (.bool (decide (id_ < n))) h Ψ) (
 retG (.bool false) h Ψ)

def s92_A (Ψ : AVal → Heap → Prop) : Ann :=
 .seq (rA 1)
 (.seq (.reg [⟨none, [(0, false), (1, false), (2, false)]⟩, ⟨some (7, true), [(3, false), (4, false), (5, false), (6, false), (7, false), (8, false), (9, false)]⟩, ⟨none, [(10, false), (11, false)]⟩])
 (.leaf))

theorem s92_ok {Ψ : AVal → Heap → Prop} {t : AVal} {id_ : Int} {h : Heap} (H : s92 Ψ t id_ h) : ACalls prog 92 [t, (.int .i64 id_)] h Ψ :=
 calls_of_evF func92 (by kernel_rfl) (by kernel_rfl) (by kernel_rfl)
 (Eq.mpr (by as_aux_lemma => kernel_rfl : oblF prog f92 (s92_A Ψ) Ψ = (otP 5)) (otP_ok 5))
 (Eq.mpr (by as_aux_lemma => kernel_rfl : evF prog f92 (s92_A Ψ) Ψ [t, (.int .i64 id_)] h = s92 Ψ t id_ h) H)

/- 95 (dictum/heyting.lattice).meet$1 -/
def s95 (Ψ : AVal → Heap → Prop) (z : Int) (c0 : AVal) (c1 : AVal) (c2 : AVal) (h : Heap) : Prop :=
 addOff c0 1 fun p =>
 ld1 h p fun v =>
 ld1 h c1 fun v1 =>
 tInt .i64 v1 fun v2 =>
 callV prog v [(.int .i64 z), (.int .i64 v2)] h fun v3 h_ =>
 tBool v3 fun v4 =>
 ifT v4 (
 addOff c0 1 fun p1 =>
 ld1 h_ p1 fun v5 =>
 ld1 h_ c2 fun v6 =>
 tInt .i64 v6 fun v7 =>
 callV prog v5 [(.int .i64 z), (.int .i64 v7)] h_ fun v8 h_1 =>
 tBool v8 fun v9 =>
 retG (.bool v9) h_1 Ψ) (
 retG (.bool false) h_ Ψ)

def s95_A (Ψ : AVal → Heap → Prop) : Ann :=
 .seq (rA 1)
 (.seq (.reg [⟨none, [(0, false), (1, false), (2, false), (3, false), (4, false), (5, false)]⟩, ⟨some (11, true), [(6, false), (7, false), (8, false), (9, false), (10, false)]⟩, ⟨none, [(11, false), (12, false)]⟩])
 (.leaf))

theorem s95_ok {Ψ : AVal → Heap → Prop} {z : Int} {c0 : AVal} {c1 : AVal} {c2 : AVal} {h : Heap} (H : s95 Ψ z c0 c1 c2 h) : ACalls prog 95 [(.int .i64 z), c0, c1, c2] h Ψ :=
 calls_of_evF func95 (by kernel_rfl) (by kernel_rfl) (by kernel_rfl)
 (Eq.mpr (by as_aux_lemma => kernel_rfl : oblF prog f95 (s95_A Ψ) Ψ = (otP 5)) (otP_ok 5))
 (Eq.mpr (by as_aux_lemma => kernel_rfl : evF prog f95 (s95_A Ψ) Ψ [(.int .i64 z), c0, c1, c2] h = s95 Ψ z c0 c1 c2 h) H)

/- 97 (*dictum/formula.Table).Copy -/
abbrev s97l1_T := AVal → AVal → Int → Int → Heap → Prop
def s97l1_R (F : s97l1_T) (l : List AVal) (h : Heap) : Prop := J.cons l fun x0 l => J.cons l fun x1 l => J.ci .i64 l fun x2 l => J.ci .i64 l fun x3 l => J.nil l (F x0 x1 x2 x3 h)
def s97l1_G (F : s97l1_T) (x0 x1 : AVal) (x2 x3 : Int) (h : Heap) : Prop := gJ [.any, .any, .int .i64, .int .i64] [x0, x1, (.int .i64 x2), (.int .i64 x3)] h (s97l1_R F)
def s97l1_E (F : Nat → s97l1_T) (x0 x1 : AVal) (x2 x3 : Int) (h : Heap) : Prop := gJ [.any, .any, .int .i64, .int .i64] [x0, x1, (.int .i64 x2), (.int .i64 x3)] h (fun l h => ∃ n, s97l1_R (F n) l h)
theorem s97l1_go {F : s97l1_T} {x0 x1 : AVal} {x2 x3 : Int} {h : Heap} (H : F x0 x1 x2 x3 h) : s97l1_G F x0 x1 x2 x3 h := gJ_plain rfl H
theorem s97l1_in {F : Nat → s97l1_T} {x0 x1 : AVal} {x2 x3 : Int} {h : Heap} (n : Nat) (H : F n x0 x1 x2 x3 h) : s97l1_E F x0 x1 x2 x3 h := gJ_plain rfl ⟨n, H⟩

def s97l1 (Ψ : AVal → Heap → Prop) : Nat → s97l1_T
 | 0, _, _, _, _, _ => False
 | n1 + 1, c, t13, t14, t15, h =>
 ifT (decide (t15 < t14)) (
 ixS 4 t13 t15 fun p2 =>
 ldN 4 h p2 fun l_ =>
 tCons l_ fun v4 l_1 =>
 tInt .i64 v4 fun v5 =>
 tCons l_1 fun v6 l_2 =>
 tStr v6 fun v7 =>
 tCons l_2 fun v8 l_3 =>
 tInt .i64 v8 fun v9 =>
 tCons l_3 fun v10 l_4 =>
 tInt .i64 v10 fun v11 =>
 tNil l_4 (
 Sym.newRow 4 [(.agg [(.int .i64 0), (.str (ByteArray.mk #[])), (.int .i64 0), (.int .i64 0)])] h fun r h_2 =>
 st false h_2 (.ptr r 0 0) [(.int .i64 v5), (.str v7), (.int .i64 v9), (.int .i64 v11)] fun h_3 =>
 nilCheckA c fun p3 =>
 addOff p3 0 fun p4 =>
 ld1 h_3 p4 fun v12 =>
 ldN 4 h_3 (.ptr r 0 0) fun l_5 =>
 tCons l_5 fun v13 l_6 =>
 tInt .i64 v13 fun v14 =>
 tCons l_6 fun v15 l_7 =>
 tStr v15 fun v16 =>
 tCons l_7 fun v17 l_8 =>
 tInt .i64 v17 fun v18 =>
 tCons l_8 fun v19 l_9 =>
 tInt .i64 v19 fun v20 =>
 tNil l_9 (
 (ld1 h_3 p4 fun v21 =>
 v21 = v12) ∧
 appC 4 40 h_3 v12 (.lsl 4 [(.agg [(.int .i64 v14), (.str v16), (.int .i64 v18), (.int .i64 v20)])]) fun v22 h_4 =>
 nilCheckA c fun p5 =>
 addOff p5 0 fun p6 =>
 chk (sc v22) (
 st true h_4 p6 [v22] fun h_5 =>
 nilCheckA c fun p7 =>
 addOff p7 1 fun p8 =>
 ld1 h_5 p8 fun v23 =>
 ldN 4 h_5 (.ptr r 0 0) fun l_10 =>
 tCons l_10 fun v24 l_11 =>
 tInt .i64 v24 fun v25 =>
 tCons l_11 fun v26 l_12 =>
 tStr v26 fun v27 =>
 tCons l_12 fun v28 l_13 =>
 tInt .i64 v28 fun v29 =>
 tCons l_13 fun v30 l_14 =>
 tInt .i64 v30 fun v31 =>
 tNil l_14 (
 mapPut h_5 v23 (.agg [(.int .i64 v25), (.str v27), (.int .i64 v29), (.int .i64 v31)]) (.int .i64 t15) fun h_6 =>
 rg (t15 + 1) (
 s97l1_G (s97l1 Ψ n1) c t13 t14 (t15 + 1) h_6)))))) (
 retG c h Ψ)

def s97 (Ψ : AVal → Heap → Prop) (t : AVal) (h : Heap) : Prop :=
 callG prog 91 [t] h fun v h_ =>
 tBool v fun v1 =>
 ifT (!v1) (
 retG .nilptr h_ Ψ) (
 callG prog 89 [] h_ fun v2 h_1 =>
 nilCheckA t fun p =>
 addOff p 0 fun p1 =>
 ld1 h_1 p1 fun v3 =>
 lenN v3 fun n =>
 s97l1_E (s97l1 Ψ) v2 v3 n 0 h_1)

def s97_A (Ψ : AVal → Heap → Prop) : Ann :=
 .seq (rA 1)
 (.seq (.seq (rA 3)
 (.cond (.seq (rA 1)
 (.leaf))
 (.leaf)))
 (.seq (rA 2)
 (.seq (.seq (rA 6)
 (.block (.loop [(3, .any), (13, .any), (14, .int .i64), (15, .int .i64)] (fun n l h => s97l1_R (s97l1 Ψ n) l h) (fun L1 =>
 .seq (rA 1)
 (.seq (.cond (.leaf)
 (.leaf))
 (.seq (.block (.seq (rA 6)
 (.seq (.draw [(0, false), (1, false), (2, false), (3, false), (4, false), (5, false), (6, true), (7, false), (8, false), (9, false), (10, false)] [0, 0, 2, 6, 14, 0, 32, 126, 255, 511, 1023])
 (.draw [(0, false), (1, false), (2, false), (3, false), (4, false), (5, false), (6, false)] [0, 1, 3, 7, 0, 0, 63]))))
 (rA 2)))))))
 (.seq (rA 2)
 (.leaf)))))

theorem s97_ok {Ψ : AVal → Heap → Prop} {t : AVal} {h : Heap} (H : s97 Ψ t h) : ACalls prog 97 [t] h Ψ :=
 calls_of_evF func97 (by kernel_rfl) (by kernel_rfl) (by kernel_rfl)
 (Eq.mpr (by as_aux_lemma => kernel_rfl : oblF prog f97 (s97_A Ψ) Ψ = ((True) ∧ ((otP 13) ∧ ((True) ∧ (((True) ∧ ((∀ (h : Heap) (x0 x1 : AVal) (x2 x3 : Int), ON (s97l1 Ψ 0 x0 x1 x2 x3 h)) ∧ (∀ n1 : Nat, (∀ (h : Heap) (x0 x1 : AVal) (x2 x3 : Int), OI (s97l1 Ψ (n1 + 1) x0 x1 x2 x3 h)) ∧ (otP 717)))) ∧ (otP 1)))))) (⟨trivial, ⟨otP_ok 13, ⟨trivial, ⟨⟨trivial, ⟨fun _ _ _ _ _ H => H, fun _ => ⟨fun _ _ _ _ _ H => H, otP_ok 717⟩⟩⟩, otP_ok 1⟩⟩⟩⟩))
 (Eq.mpr (by as_aux_lemma => kernel_rfl : evF prog f97 (s97_A Ψ) Ψ [t] h = s97 Ψ t h) H)

/- 99 slices.Contains[[]string,string] -/
def s99 (Ψ : AVal → Heap → Prop) (s : AVal) (v : ByteArray) (h : Heap) : Prop :=
 callG prog 122 [s, (.str v)] h fun v1 h_ =>
 tInt .i64 v1 fun v2 =>
 retG (.bool (decide (0 ≤ v2))) h_ Ψ

def s99_A (Ψ : AVal → Heap → Prop) : Ann :=
 .seq (rA 1)
 (.seq (rA 5)
 (.leaf))

theorem s99_ok {Ψ : AVal → Heap → Prop} {s : AVal} {v : ByteArray} {h : Heap} (H : s99 Ψ s v h) : ACalls prog 99 [s, (.str v)] h Ψ :=
 calls_of_evF func99 (by kernel_rfl) (by kernel_rfl) (by kernel_rfl)
 (Eq.mpr (by as_aux_lemma => kernel_rfl : oblF prog f99 (s99_A Ψ) Ψ = (otP 5)) (otP_ok 5))
 (Eq.mpr (by as_aux_lemma => kernel_rfl : evF prog f99 (s99_A Ψ) Ψ [s, (.str v)] h = s99 Ψ s v h) H)

/- 101 dictum/worlds.Above$1 -/
def s101 (Ψ : AVal → Heap → Prop) (b : Int) (c0 : AVal) (c1 : AVal) (h : Heap) : Prop :=
 ld1 h c0 fun v =>
 ld1 h c1 fun v1 =>
 tInt .i64 v1 fun v2 =>
 callV prog v [(.int .i64 v2), (.int .i64 b)] h fun v3 h_ =>
 tBool v3 fun v4 =>
 retG (.bool v4) h_ Ψ

def s101_A (Ψ : AVal → Heap → Prop) : Ann :=
 .seq (rA 1)
 (.seq (rA 5)
 (.leaf))

theorem s101_ok {Ψ : AVal → Heap → Prop} {b : Int} {c0 : AVal} {c1 : AVal} {h : Heap} (H : s101 Ψ b c0 c1 h) : ACalls prog 101 [(.int .i64 b), c0, c1] h Ψ :=
 calls_of_evF func101 (by kernel_rfl) (by kernel_rfl) (by kernel_rfl)
 (Eq.mpr (by as_aux_lemma => kernel_rfl : oblF prog f101 (s101_A Ψ) Ψ = (otP 5)) (otP_ok 5))
 (Eq.mpr (by as_aux_lemma => kernel_rfl : evF prog f101 (s101_A Ψ) Ψ [(.int .i64 b), c0, c1] h = s101 Ψ b c0 c1 h) H)

/- 104 slices.insertionSortOrdered[string] -/
abbrev s104l1_T := AVal → Int → Int → Int → Heap → Prop
def s104l1_R (F : s104l1_T) (l : List AVal) (h : Heap) : Prop := J.cons l fun x0 l => J.ci .i64 l fun x1 l => J.ci .i64 l fun x2 l => J.ci .i64 l fun x3 l => J.nil l (F x0 x1 x2 x3 h)
def s104l1_G (F : s104l1_T) (x0 : AVal) (x1 x2 x3 : Int) (h : Heap) : Prop := gJ [.any, .int .i64, .int .i64, .int .i64] [x0, (.int .i64 x1), (.int .i64 x2), (.int .i64 x3)] h (s104l1_R F)
def s104l1_E (F : Nat → s104l1_T) (x0 : AVal) (x1 x2 x3 : Int) (h : Heap) : Prop := gJ [.any, .int .i64, .int .i64, .int .i64] [x0, (.int .i64 x1), (.int .i64 x2), (.int .i64 x3)] h (fun l h => ∃ n, s104l1_R (F n) l h)
theorem s104l1_go {F : s104l1_T} {x0 : AVal} {x1 x2 x3 : Int} {h : Heap} (H : F x0 x1 x2 x3 h) : s104l1_G F x0 x1 x2 x3 h := gJ_plain rfl H
theorem s104l1_in {F : Nat → s104l1_T} {x0 : AVal} {x1 x2 x3 : Int} {h : Heap} (n : Nat) (H : F n x0 x1 x2 x3 h) : s104l1_E F x0 x1 x2 x3 h := gJ_plain rfl ⟨n, H⟩

abbrev s104l2_T := AVal → Int → Int → Int → Int → Heap → Prop
def s104l2_R (F : s104l2_T) (l : List AVal) (h : Heap) : Prop := J.cons l fun x0 l => J.ci .i64 l fun x1 l => J.ci .i64 l fun x2 l => J.ci .i64 l fun x3 l => J.ci .i64 l fun x4 l => J.nil l (F x0 x1 x2 x3 x4 h)
def s104l2_G (F : s104l2_T) (x0 : AVal) (x1 x2 x3 x4 : Int) (h : Heap) : Prop := gJ [.any, .int .i64, .int .i64, .int .i64, .int .i64] [x0, (.int .i64 x1), (.int .i64 x2), (.int .i64 x3), (.int .i64 x4)] h (s104l2_R F)
def s104l2_E (F : Nat → s104l2_T) (x0 : AVal) (x1 x2 x3 x4 : Int) (h : Heap) : Prop := gJ [.any, .int .i64, .int .i64, .int .i64, .int .i64] [x0, (.int .i64 x1), (.int .i64 x2), (.int .i64 x3), (.int .i64 x4)] h (fun l h => ∃ n, s104l2_R (F n) l h)
theorem s104l2_go {F : s104l2_T} {x0 : AVal} {x1 x2 x3 x4 : Int} {h : Heap} (H : F x0 x1 x2 x3 x4 h) : s104l2_G F x0 x1 x2 x3 x4 h := gJ_plain rfl H
theorem s104l2_in {F : Nat → s104l2_T} {x0 : AVal} {x1 x2 x3 x4 : Int} {h : Heap} (n : Nat) (H : F n x0 x1 x2 x3 x4 h) : s104l2_E F x0 x1 x2 x3 x4 h := gJ_plain rfl ⟨n, H⟩

def s104c3 (Ψ : AVal → Heap → Prop) (L1 : s104l1_T) (L2 : s104l2_T) (data3 : AVal) (a3 b3 i2 j1 : Int) (t30 : Bool) (h : Heap) : Prop :=
 ifT t30 (
 rg (j1 - 1) (
 rg (j1 - 1) (
 ixS 1 data3 (j1 - 1) fun p =>
 ld1 h p fun v =>
 tStr v fun v1 =>
 ixS 1 data3 j1 fun p1 =>
 ld1 h p1 fun v2 =>
 tStr v2 fun v3 =>
 ixS 1 data3 j1 fun p2 =>
 st true h p2 [(.str v1)] fun h_ =>
 ixS 1 data3 (j1 - 1) fun p3 =>
 st true h_ p3 [(.str v3)] fun h_1 =>
 rg (j1 - 1) (
 L2 data3 a3 b3 i2 (j1 - 1) h_1)))) (
 rg (i2 + 1) (
 L1 data3 a3 b3 (i2 + 1) h))

def s104l2 (Ψ : AVal → Heap → Prop) (L1 : s104l1_T) : Nat → s104l2_T
 | 0, _, _, _, _, _, _ => False
 | n1 + 1, data2, a2, b2, i1, j, h =>
 ifT (decide (a2 < j)) (
 ixS 1 data2 j fun p4 =>
 ld1 h p4 fun v4 =>
 tStr v4 fun v5 =>
 rg (j - 1) (
 ixS 1 data2 (j - 1) fun p5 =>
 ld1 h p5 fun v6 =>
 tStr v6 fun v7 =>
 callG prog 110 [(.str v5), (.str v7)] h fun v8 h_2 =>
 tBool v8 fun v9 =>
 s104c3 Ψ L1 (s104l2_G (s104l2 Ψ L1 n1)) data2 a2 b2 i1 j v9 h_2)) (
 s104c3 Ψ L1 (s104l2_G (s104l2 Ψ L1 n1)) data2 a2 b2 i1 j false h)

def s104l1 (Ψ : AVal → Heap → Prop) : Nat → s104l1_T
 | 0, _, _, _, _, _ => False
 | n + 1, data1, a1, b1, i, h =>
 ifT (decide (i < b1)) (
 s104l2_E (s104l2 Ψ (s104l1_G (s104l1 Ψ n))) data1 a1 b1 i i h) (
 retG (.tuple []) h Ψ)

def s104 (Ψ : AVal → Heap → Prop) (data : AVal) (a : Int) (b : Int) (h : Heap) : Prop :=
 rg (a + 1) (
 s104l1_E (s104l1 Ψ) data a b (a + 1) h)

def s104_A (Ψ : AVal → Heap → Prop) : Ann :=
 .seq (rA 3)
 (.block (.loop [(0, .any), (1, .int .i64), (2, .int .i64), (6, .int .i64)] (fun n l h => s104l1_R (s104l1 Ψ n) l h) (fun L1 =>
 .seq (.seq (rA 3)
 (.cond (.leaf)
 (.leaf)))
 (.seq (.block (.seq (rA 2)
 (.block (.loop [(0, .any), (1, .int .i64), (2, .int .i64), (6, .int .i64), (7, .int .i64)] (fun n l h => s104l2_R (s104l2 Ψ (fun y0 y1 y2 y3 h => L1 [y0, (.int .i64 y1), (.int .i64 y2), (.int .i64 y3)] h) n) l h) (fun L2 =>
 .seq (.cut [(0, .any), (1, .int .i64), (2, .int .i64), (6, .int .i64), (7, .int .i64), (30, .bool)] (fun l h => J.cons l fun x0 l => J.ci .i64 l fun x1 l => J.ci .i64 l fun x2 l => J.ci .i64 l fun x3 l => J.ci .i64 l fun x4 l => J.cb l fun x5 l => J.nil l (s104c3 Ψ (fun y0 y1 y2 y3 h => L1 [y0, (.int .i64 y1), (.int .i64 y2), (.int .i64 y3)] h) (fun y0 y1 y2 y3 y4 h => L2 [y0, (.int .i64 y1), (.int .i64 y2), (.int .i64 y3), (.int .i64 y4)] h) x0 x1 x2 x3 x4 x5 h)) (.draw [(0, false), (1, false), (2, false), (3, false), (4, false), (5, false), (6, false), (7, false), (8, false), (9, false), (10, false), (11, false), (12, false), (13, false), (14, false)] [0, 0, 3, 7, 15, 15, 63, 127, 15, 15, 527, 1807, 3855, 8191, 16383])
 (.cond (.leaf)
 (.leaf)))
 (.seq (.block (.draw [(0, false), (1, false), (2, false), (3, false), (4, false), (5, false), (6, false), (7, false), (8, false), (9, false), (10, false), (11, false), (12, false), (13, false), (14, false), (15, false), (16, false), (17, false)] [0, 0, 0, 0, 8, 0, 0, 64, 224, 480, 0, 0, 3072, 7168, 16355, 32739, 65535, 131071]))
 (rA 3)))))))
 (rA 3)))))

theorem s104_ok {Ψ : AVal → Heap → Prop} {data : AVal} {a : Int} {b : Int} {h : Heap} (H : s104 Ψ data a b h) : ACalls prog 104 [data, (.int .i64 a), (.int .i64 b)] h Ψ :=
 calls_of_evF func104 (by kernel_rfl) (by kernel_rfl) (by kernel_rfl)
 (Eq.mpr (by as_aux_lemma => kernel_rfl : oblF prog f104 (s104_A Ψ) Ψ = ((True) ∧ ((∀ (h : Heap) (x0 : AVal) (x1 x2 x3 : Int), ON (s104l1 Ψ 0 x0 x1 x2 x3 h)) ∧ (∀ n1 : Nat, (∀ (h : Heap) (x0 : AVal) (x1 x2 x3 : Int), OI (s104l1 Ψ (n1 + 1) x0 x1 x2 x3 h)) ∧ ((otP 5) ∧ (((True) ∧ ((∀ (h : Heap) (x0 : AVal) (x1 x2 x3 x4 : Int), ON (s104l2 Ψ (s104l1_G (s104l1 Ψ n1)) 0 x0 x1 x2 x3 x4 h)) ∧ (∀ n2 : Nat, (∀ (h : Heap) (x0 : AVal) (x1 x2 x3 x4 : Int), OI (s104l2 Ψ (s104l1_G (s104l1 Ψ n1)) (n2 + 1) x0 x1 x2 x3 x4 h)) ∧ (((True) ∧ ((∀ (h : Heap) (x0 : AVal) (x1 x2 x3 x4 : Int) (x5 : Bool), OI (s104c3 Ψ (s104l1_G (s104l1 Ψ n1)) (s104l2_G (s104l2 Ψ (s104l1_G (s104l1 Ψ n1)) n2)) x0 x1 x2 x3 x4 x5 h)) ∧ (otP 1))) ∧ (otP 1))))) ∧ (True))))))) (⟨trivial, ⟨fun _ _ _ _ _ H => H, fun _ => ⟨fun _ _ _ _ _ H => H, ⟨otP_ok 5, ⟨⟨trivial, ⟨fun _ _ _ _ _ _ H => H, fun _ => ⟨fun _ _ _ _ _ _ H => H, ⟨⟨trivial, ⟨fun _ _ _ _ _ _ _ H => H, otP_ok 1⟩⟩, otP_ok 1⟩⟩⟩⟩, trivial⟩⟩⟩⟩⟩))
 (Eq.mpr (by as_aux_lemma => kernel_rfl : evF prog f104 (s104_A Ψ) Ψ [data, (.int .i64 a), (.int .i64 b)] h = s104 Ψ data a b h) H)

/- 115 slices.IndexFunc[[][]bool,[]bool] -/
abbrev s115l1_T := AVal → AVal → Int → Int → Heap → Prop
def s115l1_R (F : s115l1_T) (l : List AVal) (h : Heap) : Prop := J.cons l fun x0 l => J.cons l fun x1 l => J.ci .i64 l fun x2 l => J.ci .i64 l fun x3 l => J.nil l (F x0 x1 x2 x3 h)
def s115l1_G (F : s115l1_T) (x0 x1 : AVal) (x2 x3 : Int) (h : Heap) : Prop := gJ [.any, .any, .int .i64, .int .i64] [x0, x1, (.int .i64 x2), (.int .i64 x3)] h (s115l1_R F)
def s115l1_E (F : Nat → s115l1_T) (x0 x1 : AVal) (x2 x3 : Int) (h : Heap) : Prop := gJ [.any, .any, .int .i64, .int .i64] [x0, x1, (.int .i64 x2), (.int .i64 x3)] h (fun l h => ∃ n, s115l1_R (F n) l h)
theorem s115l1_go {F : s115l1_T} {x0 x1 : AVal} {x2 x3 : Int} {h : Heap} (H : F x0 x1 x2 x3 h) : s115l1_G F x0 x1 x2 x3 h := gJ_plain rfl H
theorem s115l1_in {F : Nat → s115l1_T} {x0 x1 : AVal} {x2 x3 : Int} {h : Heap} (n : Nat) (H : F n x0 x1 x2 x3 h) : s115l1_E F x0 x1 x2 x3 h := gJ_plain rfl ⟨n, H⟩

def s115l1 (Ψ : AVal → Heap → Prop) : Nat → s115l1_T
 | 0, _, _, _, _, _ => False
 | n1 + 1, s1, f1, t7, t8, h =>
 ifT (decide (t8 < t7)) (
 ixS 1 s1 t8 fun p =>
 ld1 h p fun v =>
 callV prog f1 [v] h fun v1 h_ =>
 tBool v1 fun v2 =>
 ifT v2 (
 retG (.int .i64 t8) h_ Ψ) (
 rg (t8 + 1) (
 s115l1_G (s115l1 Ψ n1) s1 f1 t7 (t8 + 1) h_))) (
 retG (.int .i64 (-1)) h Ψ)

def s115 (Ψ : AVal → Heap → Prop) (s : AVal) (f : AVal) (h : Heap) : Prop :=
 lenN s fun n =>
 s115l1_E (s115l1 Ψ) s f n 0 h

def s115_A (Ψ : AVal → Heap → Prop) : Ann :=
 .seq (rA 1)
 (.seq (.seq (rA 3)
 (.block (.loop [(0, .any), (1, .any), (7, .int .i64), (8, .int .i64)] (fun n l h => s115l1_R (s115l1 Ψ n) l h) (fun L1 =>
 .seq (rA 1)
 (.seq (.cond (.leaf)
 (.leaf))
 (.seq (.block (.seq (rA 2)
 (.seq (rA 6)
 (.cond (.seq (rA 2)
 (.leaf))
 (.leaf)))))
 (rA 2)))))))
 (.seq (rA 1)
 (.leaf)))

theorem s115_ok {Ψ : AVal → Heap → Prop} {s : AVal} {f : AVal} {h : Heap} (H : s115 Ψ s f h) : ACalls prog 115 [s, f] h Ψ :=
 calls_of_evF func115 (by kernel_rfl) (by kernel_rfl) (by kernel_rfl)
 (Eq.mpr (by as_aux_lemma => kernel_rfl : oblF prog f115 (s115_A Ψ) Ψ = ((True) ∧ (((True) ∧ ((∀ (h : Heap) (x0 x1 : AVal) (x2 x3 : Int), ON (s115l1 Ψ 0 x0 x1 x2 x3 h)) ∧ (∀ n1 : Nat, (∀ (h : Heap) (x0 x1 : AVal) (x2 x3 : Int), OI (s115l1 Ψ (n1 + 1) x0 x1 x2 x3 h)) ∧ (otP 6861)))) ∧ (otP 1)))) (⟨trivial, ⟨⟨trivial, ⟨fun _ _ _ _ _ H => H, fun _ => ⟨fun _ _ _ _ _ H => H, otP_ok 6861⟩⟩⟩, otP_ok 1⟩⟩))
 (Eq.mpr (by as_aux_lemma => kernel_rfl : evF prog f115 (s115_A Ψ) Ψ [s, f] h = s115 Ψ s f h) H)

/- 117 slices.IndexFunc[[]int,int] -/
abbrev s117l1_T := AVal → AVal → Int → Int → Heap → Prop
def s117l1_R (F : s117l1_T) (l : List AVal) (h : Heap) : Prop := J.cons l fun x0 l => J.cons l fun x1 l => J.ci .i64 l fun x2 l => J.ci .i64 l fun x3 l => J.nil l (F x0 x1 x2 x3 h)
def s117l1_G (F : s117l1_T) (x0 x1 : AVal) (x2 x3 : Int) (h : Heap) : Prop := gJ [.any, .any, .int .i64, .int .i64] [x0, x1, (.int .i64 x2), (.int .i64 x3)] h (s117l1_R F)
def s117l1_E (F : Nat → s117l1_T) (x0 x1 : AVal) (x2 x3 : Int) (h : Heap) : Prop := gJ [.any, .any, .int .i64, .int .i64] [x0, x1, (.int .i64 x2), (.int .i64 x3)] h (fun l h => ∃ n, s117l1_R (F n) l h)
theorem s117l1_go {F : s117l1_T} {x0 x1 : AVal} {x2 x3 : Int} {h : Heap} (H : F x0 x1 x2 x3 h) : s117l1_G F x0 x1 x2 x3 h := gJ_plain rfl H
theorem s117l1_in {F : Nat → s117l1_T} {x0 x1 : AVal} {x2 x3 : Int} {h : Heap} (n : Nat) (H : F n x0 x1 x2 x3 h) : s117l1_E F x0 x1 x2 x3 h := gJ_plain rfl ⟨n, H⟩

def s117l1 (Ψ : AVal → Heap → Prop) : Nat → s117l1_T
 | 0, _, _, _, _, _ => False
 | n1 + 1, s1, f1, t7, t8, h =>
 ifT (decide (t8 < t7)) (
 ixS 1 s1 t8 fun p =>
 ld1 h p fun v =>
 tInt .i64 v fun v1 =>
 callV prog f1 [(.int .i64 v1)] h fun v2 h_ =>
 tBool v2 fun v3 =>
 ifT v3 (
 retG (.int .i64 t8) h_ Ψ) (
 rg (t8 + 1) (
 s117l1_G (s117l1 Ψ n1) s1 f1 t7 (t8 + 1) h_))) (
 retG (.int .i64 (-1)) h Ψ)

def s117 (Ψ : AVal → Heap → Prop) (s : AVal) (f : AVal) (h : Heap) : Prop :=
 lenN s fun n =>
 s117l1_E (s117l1 Ψ) s f n 0 h

def s117_A (Ψ : AVal → Heap → Prop) : Ann :=
 .seq (rA 1)
 (.seq (.seq (rA 3)
 (.block (.loop [(0, .any), (1, .any), (7, .int .i64), (8, .int .i64)] (fun n l h => s117l1_R (s117l1 Ψ n) l h) (fun L1 =>
 .seq (rA 1)
 (.seq (.cond (.leaf)
 (.leaf))
 (.seq (.block (.seq (rA 2)
 (.seq (rA 6)
 (.cond (.seq (rA 2)
 (.leaf))
 (.leaf)))))
 (rA 2)))))))
 (.seq (rA 1)
 (.leaf)))

theorem s117_ok {Ψ : AVal → Heap → Prop} {s : AVal} {f : AVal} {h : Heap} (H : s117 Ψ s f h) : ACalls prog 117 [s, f] h Ψ :=
 calls_of_evF func117 (by kernel_rfl) (by kernel_rfl) (by kernel_rfl)
 (Eq.mpr (by as_aux_lemma => kernel_rfl : oblF prog f117 (s117_A Ψ) Ψ = ((True) ∧ (((True) ∧ ((∀ (h : Heap) (x0 x1 : AVal) (x2 x3 : Int), ON (s117l1 Ψ 0 x0 x1 x2 x3 h)) ∧ (∀ n1 : Nat, (∀ (h : Heap) (x0 x1 : AVal) (x2 x3 : Int), OI (s117l1 Ψ (n1 + 1) x0 x1 x2 x3 h)) ∧ (otP 6861)))) ∧ (otP 1)))) (⟨trivial, ⟨⟨trivial, ⟨fun _ _ _ _ _ H => H, fun _ => ⟨fun _ _ _ _ _ H => H, otP_ok 6861⟩⟩⟩, otP_ok 1⟩⟩))
 (Eq.mpr (by as_aux_lemma => kernel_rfl : evF prog f117 (s117_A Ψ) Ψ [s, f] h = s117 Ψ s f h) H)

/- 120 (*dictum/formula.Table).fits -/
def s120c1 (Ψ : AVal → Heap → Prop) (h : Heap) : Prop :=
 retG (.int .i64 0) h Ψ

def s120c2 (Ψ : AVal → Heap → Prop) (n : AVal) (t16 : Bool) (h : Heap) : Prop :=
 ifT t16 (
 retG (.int .i64 31) h Ψ) (
 addOff n 1 fun p =>
 ld1 h p fun v =>
 tStr v fun v1 =>
 callG prog 143 [(.str v1)] h fun v2 h_ =>
 tBool v2 fun v3 =>
 ifT (!v3) (
 retG (.int .i64 32) h_ Ψ) (
 s120c1 Ψ h_))

def s120c4 (Ψ : AVal → Heap → Prop) (t46 : Bool) (h : Heap) : Prop :=
 ifT t46 (
 retG (.int .i64 31) h Ψ) (
 s120c1 Ψ h)

def s120c3 (Ψ : AVal → Heap → Prop) (t1 n1 : AVal) (t26 : Bool) (h : Heap) : Prop :=
 ifT t26 (
 addOff n1 1 fun p1 =>
 ld1 h p1 fun v4 =>
 tStr v4 fun v5 =>
 ifT (!strEq v5 (ByteArray.mk #[])) (
 s120c4 Ψ true h) (
 addOff n1 2 fun p2 =>
 ld1 h p2 fun v6 =>
 tInt .i64 v6 fun v7 =>
 callG prog 92 [t1, (.int .i64 v7)] h fun v8 h_1 =>
 tBool v8 fun v9 =>
 ifT (!v9) (
 s120c4 Ψ true h_1) (
 addOff n1 3 fun p3 =>
 ld1 h_1 p3 fun v10 =>
 tInt .i64 v10 fun v11 =>
 callG prog 92 [t1, (.int .i64 v11)] h_1 fun v12 h_2 =>
 tBool v12 fun v13 =>
 s120c4 Ψ (!v13) h_2))) (
 retG (.int .i64 31) h Ψ)

def s120 (Ψ : AVal → Heap → Prop) (t : AVal) (n_Kind : Int) (n_Name : ByteArray) (n_L : Int) (n_R : Int) (h : Heap) : Prop :=
 ifT (n_Kind == 1) (
 ifT (n_L != 0) (
 s120c2 Ψ (.lptr [(.int .i64 n_Kind), (.str n_Name), (.int .i64 n_L), (.int .i64 n_R)]) true h) (
 s120c2 Ψ (.lptr [(.int .i64 n_Kind), (.str n_Name), (.int .i64 n_L), (.int .i64 n_R)]) (n_R != 0) h)) (
 ifT (n_Kind == 2) (
 eqQ prog 71 (.agg [(.int .i64 n_Kind), (.str n_Name), (.int .i64 n_L), (.int .i64 n_R)]) (.agg [(.int .i64 2), (.str (ByteArray.mk #[])), (.int .i64 0), (.int .i64 0)]) fun b =>
 ifT (!b) (
 retG (.int .i64 31) h Ψ) (
 s120c1 Ψ h)) (
 ifT (n_Kind == 3) (
 s120c3 Ψ t (.lptr [(.int .i64 n_Kind), (.str n_Name), (.int .i64 n_L), (.int .i64 n_R)]) (n_Kind == 3) h) (
 ifT (n_Kind == 4) (
 s120c3 Ψ t (.lptr [(.int .i64 n_Kind), (.str n_Name), (.int .i64 n_L), (.int .i64 n_R)]) (n_Kind == 4) h) (
 s120c3 Ψ t (.lptr [(.int .i64 n_Kind), (.str n_Name), (.int .i64 n_L), (.int .i64 n_R)]) (n_Kind == 5) h))))

def s120_A (Ψ : AVal → Heap → Prop) : Ann :=
 .seq (.reg [⟨none, [(0, true), (1, false)]⟩])
 (.cut [] (fun l h => J.nil l (s120c1 Ψ h)) (.seq (rA 2)
 (.block (.seq (rA 2)
 (.cond (.seq (.cut [(3, .any), (16, .bool)] (fun l h => J.cons l fun x0 l => J.cb l fun x1 l => J.nil l (s120c2 Ψ x0 x1 h)) (.reg [⟨none, [(0, false), (1, false), (2, false), (3, false)]⟩, ⟨some (12, false), [(4, false), (5, false), (6, false)]⟩, ⟨none, [(7, false)]⟩])
 (.cond (.seq (rA 1)
 (.leaf))
 (.leaf)))
 (.seq (rA 4)
 (.cond (.seq (rA 1)
 (.leaf))
 (.leaf))))
 (.seq (rA 2)
 (.cond (.seq (rA 3)
 (.cond (.seq (rA 1)
 (.leaf))
 (.leaf)))
 (.cut [(0, .any), (3, .any), (26, .bool)] (fun l h => J.cons l fun x0 l => J.cons l fun x1 l => J.cb l fun x2 l => J.nil l (s120c3 Ψ x0 x1 x2 h)) (.seq (rA 2)
 (.cond (.leaf)
 (.seq (rA 2)
 (.cond (.leaf)
 (rA 2)))))
 (.cond (.cut [(46, .bool)] (fun l h => J.cb l fun x0 l => J.nil l (s120c4 Ψ x0 h)) (.reg [⟨none, [(0, false), (1, false), (2, false), (3, false)]⟩, ⟨some (33, false), [(4, false), (5, false), (6, false), (7, false), (8, false)]⟩, ⟨none, [(9, false), (10, false)]⟩, ⟨some (40, false), [(11, false), (12, false), (13, false), (14, false), (15, false)]⟩, ⟨none, [(16, false)]⟩])
 (.cond (.seq (rA 1)
 (.leaf))
 (.leaf)))
 (.seq (rA 1)
 (.leaf))))))))))
 (.seq (rA 1)
 (.leaf)))

theorem s120_ok {Ψ : AVal → Heap → Prop} {t : AVal} {n_Kind : Int} {n_Name : ByteArray} {n_L : Int} {n_R : Int} {h : Heap} (H : s120 Ψ t n_Kind n_Name n_L n_R h) : ACalls prog 120 [t, (.agg [(.int .i64 n_Kind), (.str n_Name), (.int .i64 n_L), (.int .i64 n_R)])] h Ψ :=
 calls_of_evF func120 (by kernel_rfl) (by kernel_rfl) (by kernel_rfl)
 (Eq.mpr (by as_aux_lemma => kernel_rfl : oblF prog f120 (s120_A Ψ) Ψ = ((True) ∧ (((True) ∧ ((True) ∧ ((((True) ∧ ((∀ (h : Heap) (x0 : AVal) (x1 : Bool), OI (s120c2 Ψ x0 x1 h)) ∧ (otP 3))) ∧ (otP 13)) ∧ ((True) ∧ ((otP 13) ∧ ((otP 85) ∧ ((∀ (h : Heap) (x0 x1 : AVal) (x2 : Bool), OI (s120c3 Ψ x0 x1 x2 h)) ∧ (((True) ∧ ((∀ (h : Heap) (x0 : Bool), OI (s120c4 Ψ x0 h)) ∧ (otP 3))) ∧ (otP 1))))))))) ∧ ((∀ (h : Heap), OI (s120c1 Ψ h)) ∧ (otP 1))))) (⟨trivial, ⟨⟨trivial, ⟨trivial, ⟨⟨⟨trivial, ⟨fun _ _ _ H => H, otP_ok 3⟩⟩, otP_ok 13⟩, ⟨trivial, ⟨otP_ok 13, ⟨otP_ok 85, ⟨fun _ _ _ _ H => H, ⟨⟨trivial, ⟨fun _ _ H => H, otP_ok 3⟩⟩, otP_ok 1⟩⟩⟩⟩⟩⟩⟩⟩, ⟨fun _ H => H, otP_ok 1⟩⟩⟩))
 (Eq.mpr (by as_aux_lemma => kernel_rfl : evF prog f120 (s120_A Ψ) Ψ [t, (.agg [(.int .i64 n_Kind), (.str n_Name), (.int .i64 n_L), (.int .i64 n_R)])] h = s120 Ψ t n_Kind n_Name n_L n_R h) H)

/- 131 dictum/dictumref03.letter -/
def s131 (Ψ : AVal → Heap → Prop) (c : Int) (h : Heap) : Prop :=
 ifT (decide (97 ≤ c)) (
 ifT (decide (c ≤ 122)) (
 retG (.bool true) h Ψ) (
 ifT (decide (65 ≤ c)) (
 retG (.bool (decide (c ≤ 90))) h Ψ) (
 retG (.bool false) h Ψ))) (
 ifT (decide (65 ≤ c)) (
 retG (.bool (decide (c ≤ 90))) h Ψ) (
 retG (.bool false) h Ψ))

def s131_A (Ψ : AVal → Heap → Prop) : Ann :=
 .seq (rA 1)
 (.seq (.reg [⟨none, [(0, false), (1, false), (2, false)]⟩, ⟨some (5, true), [(3, false), (4, false)]⟩, ⟨none, [(5, false), (6, false)]⟩, ⟨some (9, false), [(7, false), (8, false), (9, false)]⟩, ⟨some (12, true), [(10, false), (11, false)]⟩, ⟨some (9, false), [(12, false)]⟩, ⟨none, [(13, false), (14, false)]⟩])
 (.leaf))

theorem s131_ok {Ψ : AVal → Heap → Prop} {c : Int} {h : Heap} (H : s131 Ψ c h) : ACalls prog 131 [(.int .u8 c)] h Ψ :=
 calls_of_evF func131 (by kernel_rfl) (by kernel_rfl) (by kernel_rfl)
 (Eq.mpr (by as_aux_lemma => kernel_rfl : oblF prog f131 (s131_A Ψ) Ψ = (otP 5)) (otP_ok 5))
 (Eq.mpr (by as_aux_lemma => kernel_rfl : evF prog f131 (s131_A Ψ) Ψ [(.int .u8 c)] h = s131 Ψ c h) H)

/- 139 dictum/worlds.reckon -/
abbrev s139l1_T := AVal → Int → AVal → Int → Int → Heap → Prop
def s139l1_R (F : s139l1_T) (l : List AVal) (h : Heap) : Prop := J.cons l fun x0 l => J.ci .i64 l fun x1 l => J.cons l fun x2 l => J.ci .i64 l fun x3 l => J.ci .i64 l fun x4 l => J.nil l (F x0 x1 x2 x3 x4 h)
def s139l1_G (F : s139l1_T) (x0 : AVal) (x1 : Int) (x2 : AVal) (x3 x4 : Int) (h : Heap) : Prop := gJ [.any, .int .i64, .any, .int .i64, .int .i64] [x0, (.int .i64 x1), x2, (.int .i64 x3), (.int .i64 x4)] h (s139l1_R F)
def s139l1_E (F : Nat → s139l1_T) (x0 : AVal) (x1 : Int) (x2 : AVal) (x3 x4 : Int) (h : Heap) : Prop := gJ [.any, .int .i64, .any, .int .i64, .int .i64] [x0, (.int .i64 x1), x2, (.int .i64 x3), (.int .i64 x4)] h (fun l h => ∃ n, s139l1_R (F n) l h)
theorem s139l1_go {F : s139l1_T} {x0 : AVal} {x1 : Int} {x2 : AVal} {x3 x4 : Int} {h : Heap} (H : F x0 x1 x2 x3 x4 h) : s139l1_G F x0 x1 x2 x3 x4 h := gJ_plain rfl H
theorem s139l1_in {F : Nat → s139l1_T} {x0 : AVal} {x1 : Int} {x2 : AVal} {x3 x4 : Int} {h : Heap} (n : Nat) (H : F n x0 x1 x2 x3 x4 h) : s139l1_E F x0 x1 x2 x3 x4 h := gJ_plain rfl ⟨n, H⟩

abbrev s139l2_T := AVal → Int → AVal → AVal → AVal → Int → Int → Heap → Prop
def s139l2_R (F : s139l2_T) (l : List AVal) (h : Heap) : Prop := J.cons l fun x0 l => J.ci .i64 l fun x1 l => J.cons l fun x2 l => J.cons l fun x3 l => J.cons l fun x4 l => J.ci .i64 l fun x5 l => J.ci .i64 l fun x6 l => J.nil l (F x0 x1 x2 x3 x4 x5 x6 h)
def s139l2_G (F : s139l2_T) (x0 : AVal) (x1 : Int) (x2 x3 x4 : AVal) (x5 x6 : Int) (h : Heap) : Prop := gJ [.any, .int .i64, .any, .any, .any, .int .i64, .int .i64] [x0, (.int .i64 x1), x2, x3, x4, (.int .i64 x5), (.int .i64 x6)] h (s139l2_R F)
def s139l2_E (F : Nat → s139l2_T) (x0 : AVal) (x1 : Int) (x2 x3 x4 : AVal) (x5 x6 : Int) (h : Heap) : Prop := gJ [.any, .int .i64, .any, .any, .any, .int .i64, .int .i64] [x0, (.int .i64 x1), x2, x3, x4, (.int .i64 x5), (.int .i64 x6)] h (fun l h => ∃ n, s139l2_R (F n) l h)
theorem s139l2_go {F : s139l2_T} {x0 : AVal} {x1 : Int} {x2 x3 x4 : AVal} {x5 x6 : Int} {h : Heap} (H : F x0 x1 x2 x3 x4 x5 x6 h) : s139l2_G F x0 x1 x2 x3 x4 x5 x6 h := gJ_plain rfl H
theorem s139l2_in {F : Nat → s139l2_T} {x0 : AVal} {x1 : Int} {x2 x3 x4 : AVal} {x5 x6 : Int} {h : Heap} (n : Nat) (H : F n x0 x1 x2 x3 x4 x5 x6 h) : s139l2_E F x0 x1 x2 x3 x4 x5 x6 h := gJ_plain rfl ⟨n, H⟩

abbrev s139l3_T := AVal → Int → AVal → AVal → AVal → Int → Int → AVal → Int → Int → Heap → Prop
def s139l3_R (F : s139l3_T) (l : List AVal) (h : Heap) : Prop := J.cons l fun x0 l => J.ci .i64 l fun x1 l => J.cons l fun x2 l => J.cons l fun x3 l => J.cons l fun x4 l => J.ci .i64 l fun x5 l => J.ci .i64 l fun x6 l => J.cons l fun x7 l => J.ci .i64 l fun x8 l => J.ci .i64 l fun x9 l => J.nil l (F x0 x1 x2 x3 x4 x5 x6 x7 x8 x9 h)
def s139l3_G (F : s139l3_T) (x0 : AVal) (x1 : Int) (x2 x3 x4 : AVal) (x5 x6 : Int) (x7 : AVal) (x8 x9 : Int) (h : Heap) : Prop := gJ [.any, .int .i64, .any, .any, .any, .int .i64, .int .i64, .any, .int .i64, .int .i64] [x0, (.int .i64 x1), x2, x3, x4, (.int .i64 x5), (.int .i64 x6), x7, (.int .i64 x8), (.int .i64 x9)] h (s139l3_R F)
def s139l3_E (F : Nat → s139l3_T) (x0 : AVal) (x1 : Int) (x2 x3 x4 : AVal) (x5 x6 : Int) (x7 : AVal) (x8 x9 : Int) (h : Heap) : Prop := gJ [.any, .int .i64, .any, .any, .any, .int .i64, .int .i64, .any, .int .i64, .int .i64] [x0, (.int .i64 x1), x2, x3, x4, (.int .i64 x5), (.int .i64 x6), x7, (.int .i64 x8), (.int .i64 x9)] h (fun l h => ∃ n, s139l3_R (F n) l h)
theorem s139l3_go {F : s139l3_T} {x0 : AVal} {x1 : Int} {x2 x3 x4 : AVal} {x5 x6 : Int} {x7 : AVal} {x8 x9 : Int} {h : Heap} (H : F x0 x1 x2 x3 x4 x5 x6 x7 x8 x9 h) : s139l3_G F x0 x1 x2 x3 x4 x5 x6 x7 x8 x9 h := gJ_plain rfl H
theorem s139l3_in {F : Nat → s139l3_T} {x0 : AVal} {x1 : Int} {x2 x3 x4 : AVal} {x5 x6 : Int} {x7 : AVal} {x8 x9 : Int} {h : Heap} (n : Nat) (H : F n x0 x1 x2 x3 x4 x5 x6 x7 x8 x9 h) : s139l3_E F x0 x1 x2 x3 x4 x5 x6 x7 x8 x9 h := gJ_plain rfl ⟨n, H⟩

def s139c4 (Ψ : AVal → Heap → Prop) (L1 : s139l1_T) (L2 : s139l2_T) (L3 : s139l3_T) (m3 : AVal) (n12 : Int) (above3 row2 stack2 : AVal) (t18_3 t19_3 : Int) (t51_1 : AVal) (t52_1 t53_1 : Int) (h : Heap) : Prop :=
 rg (t53_1 + 1) (
 L3 m3 n12 above3 row2 stack2 t18_3 t19_3 t51_1 t52_1 (t53_1 + 1) h)

def s139c5 (Ψ : AVal → Heap → Prop) (L1 : s139l1_T) (L2 : s139l2_T) (L3 : s139l3_T) (m4 : AVal) (n13 : Int) (above4 row3 stack3 : AVal) (b t18_4 t19_4 : Int) (t51_2 : AVal) (t52_2 t53_2 : Int) (t63 : Bool) (h : Heap) : Prop :=
 ifT t63 (
 retG (.tuple [.nilfunc, (.bool false)]) h Ψ) (
 ixS 1 row3 b fun p6 =>
 ld1 h p6 fun v11 =>
 tBool v11 fun v12 =>
 ifT (!v12) (
 ixS 1 row3 b fun p7 =>
 st true h p7 [(.bool true)] fun h_7 =>
 appC 1 8 h_7 stack3 (.lsl 1 [(.int .i64 b)]) fun v13 h_8 =>
 s139c4 Ψ L1 L2 L3 m4 n13 above4 row3 v13 t18_4 t19_4 t51_2 t52_2 t53_2 h_8) (
 s139c4 Ψ L1 L2 L3 m4 n13 above4 row3 stack3 t18_4 t19_4 t51_2 t52_2 t53_2 h))

def s139l3 (Ψ : AVal → Heap → Prop) (L1 : s139l1_T) (L2 : s139l2_T) : Nat → s139l3_T
 | 0, _, _, _, _, _, _, _, _, _, _, _ => False
 | n11 + 1, m2, n10, above2, row1, stack1, t18_2, t19_2, t51, t52, t53, h =>
 ifT (decide (t53 < t52)) (
 ixS 1 t51 t53 fun p5 =>
 ld1 h p5 fun v9 =>
 tInt .i64 v9 fun v10 =>
 ifT (decide (v10 < 0)) (
 s139c5 Ψ L1 L2 (s139l3_G (s139l3 Ψ L1 L2 n11)) m2 n10 above2 row1 stack1 v10 t18_2 t19_2 t51 t52 t53 true h) (
 s139c5 Ψ L1 L2 (s139l3_G (s139l3 Ψ L1 L2 n11)) m2 n10 above2 row1 stack1 v10 t18_2 t19_2 t51 t52 t53 (decide (n10 ≤ v10)) h)) (
 L2 m2 n10 above2 row1 stack1 t18_2 t19_2 h)

def s139l2 (Ψ : AVal → Heap → Prop) (L1 : s139l1_T) : Nat → s139l2_T
 | 0, _, _, _, _, _, _, _, _ => False
 | n5 + 1, m1, n4, above1, row, stack, t18_1, t19_1, h =>
 lenN stack fun n6 =>
 ifT (decide (0 < n6)) (
 lenN stack fun n7 =>
 rg (n7 - 1) (
 ixS 1 stack (n7 - 1) fun p2 =>
 ld1 h p2 fun v4 =>
 tInt .i64 v4 fun v5 =>
 lenN stack fun n8 =>
 rg (n8 - 1) (
 slX 1 stack 0 (some (n8 - 1)) fun v6 =>
 addOff m1 0 fun p3 =>
 ld1 h p3 fun v7 =>
 ixS 1 v7 v5 fun p4 =>
 ld1 h p4 fun v8 =>
 lenN v8 fun n9 =>
 s139l3_E (s139l3 Ψ L1 (s139l2_G (s139l2 Ψ L1 n5))) m1 n4 above1 row v6 t18_1 t19_1 v8 n9 0 h))) (
 rg (t19_1 + 1) (
 L1 m1 n4 above1 t18_1 (t19_1 + 1) h))

def s139l1 (Ψ : AVal → Heap → Prop) : Nat → s139l1_T
 | 0, _, _, _, _, _, _ => False
 | n3 + 1, m, n2, above, t18, t19, h =>
 ifT (decide (t19 < t18)) (
 mkS false 1 1 (.bool false) h n2 n2 fun v2 h_3 =>
 ld1 h_3 above fun v3 =>
 ixS 1 v3 t19 fun p =>
 chk (sc v2) (
 st true h_3 p [v2] fun h_4 =>
 ixS 1 v2 t19 fun p1 =>
 st true h_4 p1 [(.bool true)] fun h_5 =>
 Sym.newRow 1 [(.int .i64 t19)] h_5 fun r1 h_6 =>
 s139l2_E (s139l2 Ψ (s139l1_G (s139l1 Ψ n3))) m n2 above v2 (.sl r1 1 0 1) t18 t19 h_6)) (
 retG (.tuple [(.func (.func 157) [] [above]), (.bool true)]) h Ψ)

def s139 (Ψ : AVal → Heap → Prop) (m_Up : AVal) (m_Val : AVal) (h : Heap) : Prop :=
 lenN m_Up fun n =>
 mkS false 1 24 .nilsl h n n fun v h_ =>
 Sym.newRow 1 [.nilsl] h_ fun r h_1 =>
 chk (sc v) (
 st true h_1 (.ptr r 0 0) [v] fun h_2 =>
 ld1 h_2 (.ptr r 0 0) fun v1 =>
 lenN v1 fun n1 =>
 s139l1_E (s139l1 Ψ) (.lptr [m_Up, m_Val]) n (.ptr r 0 0) n1 0 h_2)

def s139_A (Ψ : AVal → Heap → Prop) : Ann :=
 .seq (.reg [⟨none, [(0, true), (1, false), (2, false)]⟩])
 (.seq (rA 4)
 (.seq (rA 4)
 (.seq (.seq (rA 3)
 (.block (.loop [(1, .any), (4, .int .i64), (5, .any), (18, .int .i64), (19, .int .i64)] (fun n l h => s139l1_R (s139l1 Ψ n) l h) (fun L1 =>
 .seq (rA 1)
 (.seq (.cond (.leaf)
 (.leaf))
 (.seq (.block (.seq (rA 2)
 (.seq (rA 3)
 (.seq (rA 5)
 (.seq (rA 4)
 (.seq (rA 3)
 (.block (.loop [(1, .any), (4, .int .i64), (5, .any), (7, .any), (8, .any), (18, .int .i64), (19, .int .i64)] (fun n l h => s139l2_R (s139l2 Ψ (fun y0 y1 y2 y3 y4 h => L1 [y0, (.int .i64 y1), y2, (.int .i64 y3), (.int .i64 y4)] h) n) l h) (fun L2 =>
 .seq (.seq (rA 3)
 (.cond (.leaf)
 (.leaf)))
 (.block (.seq (rA 7)
 (.seq (rA 6)
 (.seq (rA 7)
 (.block (.loop [(1, .any), (4, .int .i64), (5, .any), (7, .any), (8, .any), (18, .int .i64), (19, .int .i64), (51, .any), (52, .int .i64), (53, .int .i64)] (fun n l h => s139l3_R (s139l3 Ψ (fun y0 y1 y2 y3 y4 h => L1 [y0, (.int .i64 y1), y2, (.int .i64 y3), (.int .i64 y4)] h) (fun y0 y1 y2 y3 y4 y5 y6 h => L2 [y0, (.int .i64 y1), y2, y3, y4, (.int .i64 y5), (.int .i64 y6)] h) n) l h) (fun L3 =>
 .seq (rA 1)
 (.seq (.cond (.leaf)
 (.leaf))
 (.cut [(1, .any), (4, .int .i64), (5, .any), (7, .any), (8, .any), (18, .int .i64), (19, .int .i64), (51, .any), (52, .int .i64), (53, .int .i64)] (fun l h => J.cons l fun x0 l => J.ci .i64 l fun x1 l => J.cons l fun x2 l => J.cons l fun x3 l => J.cons l fun x4 l => J.ci .i64 l fun x5 l => J.ci .i64 l fun x6 l => J.cons l fun x7 l => J.ci .i64 l fun x8 l => J.ci .i64 l fun x9 l => J.nil l (s139c4 Ψ (fun y0 y1 y2 y3 y4 h => L1 [y0, (.int .i64 y1), y2, (.int .i64 y3), (.int .i64 y4)] h) (fun y0 y1 y2 y3 y4 y5 y6 h => L2 [y0, (.int .i64 y1), y2, y3, y4, (.int .i64 y5), (.int .i64 y6)] h) (fun y0 y1 y2 y3 y4 y5 y6 y7 y8 y9 h => L3 [y0, (.int .i64 y1), y2, y3, y4, (.int .i64 y5), (.int .i64 y6), y7, (.int .i64 y8), (.int .i64 y9)] h) x0 x1 x2 x3 x4 x5 x6 x7 x8 x9 h)) (.block (.seq (rA 3)
 (.seq (.cut [(1, .any), (4, .int .i64), (5, .any), (7, .any), (8, .any), (11, .int .i64), (18, .int .i64), (19, .int .i64), (51, .any), (52, .int .i64), (53, .int .i64), (63, .bool)] (fun l h => J.cons l fun x0 l => J.ci .i64 l fun x1 l => J.cons l fun x2 l => J.cons l fun x3 l => J.cons l fun x4 l => J.ci .i64 l fun x5 l => J.ci .i64 l fun x6 l => J.ci .i64 l fun x7 l => J.cons l fun x8 l => J.ci .i64 l fun x9 l => J.ci .i64 l fun x10 l => J.cb l fun x11 l => J.nil l (s139c5 Ψ (fun y0 y1 y2 y3 y4 h => L1 [y0, (.int .i64 y1), y2, (.int .i64 y3), (.int .i64 y4)] h) (fun y0 y1 y2 y3 y4 y5 y6 h => L2 [y0, (.int .i64 y1), y2, y3, y4, (.int .i64 y5), (.int .i64 y6)] h) (fun y0 y1 y2 y3 y4 y5 y6 y7 y8 y9 h => L3 [y0, (.int .i64 y1), y2, y3, y4, (.int .i64 y5), (.int .i64 y6), y7, (.int .i64 y8), (.int .i64 y9)] h) x0 x1 x2 x3 x4 x5 x6 x7 x8 x9 x10 x11 h)) (.reg [⟨none, [(0, false), (1, false), (2, false)]⟩, ⟨some (59, false), [(3, false), (4, false), (5, false)]⟩, ⟨none, [(6, false)]⟩])
 (.cond (.seq (rA 2)
 (.leaf))
 (.leaf)))
 (.seq (rA 5)
 (.cond (.seq (rA 4)
 (.reg [⟨none, [(0, false), (1, false), (2, true), (3, false), (4, false)]⟩]))
 (.leaf))))))
 (rA 2)))))))))))))))))))
 (rA 2)))))))
 (.seq (rA 3)
 (.leaf)))))

theorem s139_ok {Ψ : AVal → Heap → Prop} {m_Up : AVal} {m_Val : AVal} {h : Heap} (H : s139 Ψ m_Up m_Val h) : ACalls prog 139 [(.agg [m_Up, m_Val])] h Ψ :=
 calls_of_evF func139 (by kernel_rfl) (by kernel_rfl) (by kernel_rfl)
 (Eq.mpr (by as_aux_lemma => kernel_rfl : oblF prog f139 (s139_A Ψ) Ψ = ((True) ∧ ((True) ∧ ((True) ∧ (((True) ∧ ((∀ (h : Heap) (x0 : AVal) (x1 : Int) (x2 : AVal) (x3 x4 : Int), ON (s139l1 Ψ 0 x0 x1 x2 x3 x4 h)) ∧ (∀ n1 : Nat, (∀ (h : Heap) (x0 : AVal) (x1 : Int) (x2 : AVal) (x3 x4 : Int), OI (s139l1 Ψ (n1 + 1) x0 x1 x2 x3 x4 h)) ∧ ((True) ∧ ((otP 1) ∧ (((True) ∧ ((True) ∧ ((True) ∧ ((True) ∧ ((True) ∧ ((∀ (h : Heap) (x0 : AVal) (x1 : Int) (x2 x3 x4 : AVal) (x5 x6 : Int), ON (s139l2 Ψ (s139l1_G (s139l1 Ψ n1)) 0 x0 x1 x2 x3 x4 x5 x6 h)) ∧ (∀ n2 : Nat, (∀ (h : Heap) (x0 : AVal) (x1 : Int) (x2 x3 x4 : AVal) (x5 x6 : Int), OI (s139l2 Ψ (s139l1_G (s139l1 Ψ n1)) (n2 + 1) x0 x1 x2 x3 x4 x5 x6 h)) ∧ ((otP 5) ∧ ((True) ∧ ((True) ∧ ((True) ∧ ((∀ (h : Heap) (x0 : AVal) (x1 : Int) (x2 x3 x4 : AVal) (x5 x6 : Int) (x7 : AVal) (x8 x9 : Int), ON (s139l3 Ψ (s139l1_G (s139l1 Ψ n1)) (s139l2_G (s139l2 Ψ (s139l1_G (s139l1 Ψ n1)) n2)) 0 x0 x1 x2 x3 x4 x5 x6 x7 x8 x9 h)) ∧ (∀ n3 : Nat, (∀ (h : Heap) (x0 : AVal) (x1 : Int) (x2 x3 x4 : AVal) (x5 x6 : Int) (x7 : AVal) (x8 x9 : Int), OI (s139l3 Ψ (s139l1_G (s139l1 Ψ n1)) (s139l2_G (s139l2 Ψ (s139l1_G (s139l1 Ψ n1)) n2)) (n3 + 1) x0 x1 x2 x3 x4 x5 x6 x7 x8 x9 h)) ∧ ((True) ∧ ((otP 1) ∧ (((True) ∧ (((True) ∧ ((∀ (h : Heap) (x0 : AVal) (x1 : Int) (x2 x3 x4 : AVal) (x5 x6 x7 : Int) (x8 : AVal) (x9 x10 : Int) (x11 : Bool), OI (s139c5 Ψ (s139l1_G (s139l1 Ψ n1)) (s139l2_G (s139l2 Ψ (s139l1_G (s139l1 Ψ n1)) n2)) (s139l3_G (s139l3 Ψ (s139l1_G (s139l1 Ψ n1)) (s139l2_G (s139l2 Ψ (s139l1_G (s139l1 Ψ n1)) n2)) n3)) x0 x1 x2 x3 x4 x5 x6 x7 x8 x9 x10 x11 h)) ∧ (otP 3))) ∧ (otP 13))) ∧ ((∀ (h : Heap) (x0 : AVal) (x1 : Int) (x2 x3 x4 : AVal) (x5 x6 : Int) (x7 : AVal) (x8 x9 : Int), OI (s139c4 Ψ (s139l1_G (s139l1 Ψ n1)) (s139l2_G (s139l2 Ψ (s139l1_G (s139l1 Ψ n1)) n2)) (s139l3_G (s139l3 Ψ (s139l1_G (s139l1 Ψ n1)) (s139l2_G (s139l2 Ψ (s139l1_G (s139l1 Ψ n1)) n2)) n3)) x0 x1 x2 x3 x4 x5 x6 x7 x8 x9 h)) ∧ (True)))))))))))))))))) ∧ (True))))))) ∧ (otP 1)))))) (⟨trivial, ⟨trivial, ⟨trivial, ⟨⟨trivial, ⟨fun _ _ _ _ _ _ H => H, fun _ => ⟨fun _ _ _ _ _ _ H => H, ⟨trivial, ⟨otP_ok 1, ⟨⟨trivial, ⟨trivial, ⟨trivial, ⟨trivial, ⟨trivial, ⟨fun _ _ _ _ _ _ _ _ H => H, fun _ => ⟨fun _ _ _ _ _ _ _ _ H => H, ⟨otP_ok 5, ⟨trivial, ⟨trivial, ⟨trivial, ⟨fun _ _ _ _ _ _ _ _ _ _ _ H => H, fun _ => ⟨fun _ _ _ _ _ _ _ _ _ _ _ H => H, ⟨trivial, ⟨otP_ok 1, ⟨⟨trivial, ⟨⟨trivial, ⟨fun _ _ _ _ _ _ _ _ _ _ _ _ _ H => H, otP_ok 3⟩⟩, otP_ok 13⟩⟩, ⟨fun _ _ _ _ _ _ _ _ _ _ _ H => H, trivial⟩⟩⟩⟩⟩⟩⟩⟩⟩⟩⟩⟩⟩⟩⟩⟩⟩, trivial⟩⟩⟩⟩⟩⟩, otP_ok 1⟩⟩⟩⟩))
 (Eq.mpr (by as_aux_lemma => kernel_rfl : evF prog f139 (s139_A Ψ) Ψ [(.agg [m_Up, m_Val])] h = s139 Ψ m_Up m_Val h) H)

/- 141 slices.ContainsFunc[[]string,string] -/
def s141 (Ψ : AVal → Heap → Prop) (s : AVal) (f : AVal) (h : Heap) : Prop :=
 callG prog 158 [s, f] h fun v h_ =>
 tInt .i64 v fun v1 =>
 retG (.bool (decide (0 ≤ v1))) h_ Ψ

def s141_A (Ψ : AVal → Heap → Prop) : Ann :=
 .seq (rA 1)
 (.seq (rA 5)
 (.leaf))

theorem s141_ok {Ψ : AVal → Heap → Prop} {s : AVal} {f : AVal} {h : Heap} (H : s141 Ψ s f h) : ACalls prog 141 [s, f] h Ψ :=
 calls_of_evF func141 (by kernel_rfl) (by kernel_rfl) (by kernel_rfl)
 (Eq.mpr (by as_aux_lemma => kernel_rfl : oblF prog f141 (s141_A Ψ) Ψ = (otP 5)) (otP_ok 5))
 (Eq.mpr (by as_aux_lemma => kernel_rfl : evF prog f141 (s141_A Ψ) Ψ [s, f] h = s141 Ψ s f h) H)

/- 143 dictum/formula.Word -/
abbrev s143l1_T := ByteArray → Int → Int → Heap → Prop
def s143l1_R (F : s143l1_T) (l : List AVal) (h : Heap) : Prop := J.cs l fun x0 l => J.ci .i64 l fun x1 l => J.ci .i64 l fun x2 l => J.nil l (F x0 x1 x2 h)
def s143l1_G (F : s143l1_T) (x0 : ByteArray) (x1 x2 : Int) (h : Heap) : Prop := gJ [.str, .int .i64, .int .i64] [(.str x0), (.int .i64 x1), (.int .i64 x2)] h (s143l1_R F)
def s143l1_E (F : Nat → s143l1_T) (x0 : ByteArray) (x1 x2 : Int) (h : Heap) : Prop := gJ [.str, .int .i64, .int .i64] [(.str x0), (.int .i64 x1), (.int .i64 x2)] h (fun l h => ∃ n, s143l1_R (F n) l h)
theorem s143l1_go {F : s143l1_T} {x0 : ByteArray} {x1 x2 : Int} {h : Heap} (H : F x0 x1 x2 h) : s143l1_G F x0 x1 x2 h := gJ_plain rfl H
theorem s143l1_in {F : Nat → s143l1_T} {x0 : ByteArray} {x1 x2 : Int} {h : Heap} (n : Nat) (H : F n x0 x1 x2 h) : s143l1_E F x0 x1 x2 h := gJ_plain rfl ⟨n, H⟩

def s143c3 (Ψ : AVal → Heap → Prop) (L1 : s143l1_T) (name3 : ByteArray) (t8_2 t9_2 : Int) (t44 : Bool) (h : Heap) : Prop :=
 ifT t44 (
 retG (.bool false) h Ψ) (
 rg (t9_2 + 1) (
 L1 name3 t8_2 (t9_2 + 1) h))

def s143c2 (Ψ : AVal → Heap → Prop) (L1 : s143l1_T) (name2 : ByteArray) (i c : Int) (letter : Bool) (t8_1 t9_1 : Int) (h : Heap) : Prop :=
 ifT (!letter) (
 ifT (i == 0) (
 s143c3 Ψ L1 name2 t8_1 t9_1 true h) (
 ifT (c != 95) (
 ifT (c != 39) (
 ifT (decide (c < 48)) (
 s143c3 Ψ L1 name2 t8_1 t9_1 true h) (
 s143c3 Ψ L1 name2 t8_1 t9_1 (decide (57 < c)) h)) (
 s143c3 Ψ L1 name2 t8_1 t9_1 false h)) (
 s143c3 Ψ L1 name2 t8_1 t9_1 false h))) (
 s143c3 Ψ L1 name2 t8_1 t9_1 false h)

def s143l1 (Ψ : AVal → Heap → Prop) : Nat → s143l1_T
 | 0, _, _, _, _ => False
 | n + 1, name1, t8, t9, h =>
 ifT (decide (t9 < t8)) (
 ((0 : Int) ≤ t9 ∧ t9 < (name1.size : Int)) ∧
 ifT (decide (97 ≤ (bitsI .or .u8 (btA name1 t9) 32))) (
 s143c2 Ψ (s143l1_G (s143l1 Ψ n)) name1 t9 (btA name1 t9) (decide ((bitsI .or .u8 (btA name1 t9) 32) ≤ 122)) t8 t9 h) (
 s143c2 Ψ (s143l1_G (s143l1 Ψ n)) name1 t9 (btA name1 t9) false t8 t9 h)) (
 ifT (!strEq name1 (ByteArray.mk #[])) (
 ifT (decide ((name1.size : Int) ≤ 31)) (
 callG prog 159 [(.str name1)] h fun v h_ =>
 tBool v fun v1 =>
 retG (.bool (!v1)) h_ Ψ) (
 retG (.bool false) h Ψ)) (
 retG (.bool false) h Ψ))

def s143 (Ψ : AVal → Heap → Prop) (name : ByteArray) (h : Heap) : Prop :=
 s143l1_E (s143l1 Ψ) name (name.size : Int) 0 h

def s143_A (Ψ : AVal → Heap → Prop) : Ann :=
 .seq (rA 1)
 (.seq (.seq (rA 3)
 (.block (.loop [(0, .str), (8, .int .i64), (9, .int .i64)] (fun n l h => s143l1_R (s143l1 Ψ n) l h) (fun L1 =>
 .seq (rA 1)
 (.seq (.cond (.leaf)
 (.leaf))
 (.seq (.block (.seq (rA 2)
 (.seq (rA 4)
 (.seq (rA 3)
 (.cut [(0, .str), (3, .int .i64), (4, .int .u8), (6, .bool), (8, .int .i64), (9, .int .i64)] (fun l h => J.cs l fun x0 l => J.ci .i64 l fun x1 l => J.ci .u8 l fun x2 l => J.cb l fun x3 l => J.ci .i64 l fun x4 l => J.ci .i64 l fun x5 l => J.nil l (s143c2 Ψ (fun y0 y1 y2 h => L1 [(.str y0), (.int .i64 y1), (.int .i64 y2)] h) x0 x1 x2 x3 x4 x5 h)) (.reg [⟨none, [(0, false), (1, false), (2, false)]⟩, ⟨some (19, true), [(3, false), (4, false)]⟩, ⟨none, [(5, false), (6, false)]⟩])
 (.cut [(0, .str), (8, .int .i64), (9, .int .i64), (44, .bool)] (fun l h => J.cs l fun x0 l => J.ci .i64 l fun x1 l => J.ci .i64 l fun x2 l => J.cb l fun x3 l => J.nil l (s143c3 Ψ (fun y0 y1 y2 h => L1 [(.str y0), (.int .i64 y1), (.int .i64 y2)] h) x0 x1 x2 x3 h)) (.reg [⟨none, [(0, false), (1, false), (2, false)]⟩, ⟨some (25, true), [(3, false), (4, false), (5, false)]⟩, ⟨some (28, false), [(6, false), (7, false), (8, false)]⟩, ⟨some (31, true), [(9, false), (10, false)]⟩, ⟨some (28, false), [(11, false), (12, false)]⟩, ⟨some (35, true), [(13, false), (14, false), (15, false)]⟩, ⟨some (38, false), [(16, false), (17, false)]⟩, ⟨some (35, true), [(18, false)]⟩, ⟨some (28, false), [(19, false)]⟩, ⟨some (25, true), [(20, false)]⟩, ⟨none, [(21, false)]⟩])
 (.cond (.seq (rA 1)
 (.leaf))
 (.leaf))))))))
 (rA 2)))))))
 (.seq (.reg [⟨none, [(0, false), (1, false), (2, false)]⟩, ⟨some (48, true), [(3, false), (4, false), (5, false)]⟩, ⟨none, [(6, false), (7, false)]⟩, ⟨some (53, true), [(8, false), (9, false), (10, false)]⟩, ⟨none, [(11, false), (12, false)]⟩])
 (.leaf)))

theorem s143_ok {Ψ : AVal → Heap → Prop} {name : ByteArray} {h : Heap} (H : s143 Ψ name h) : ACalls prog 143 [(.str name)] h Ψ :=
 calls_of_evF func143 (by kernel_rfl) (by kernel_rfl) (by kernel_rfl)
 (Eq.mpr (by as_aux_lemma => kernel_rfl : oblF prog f143 (s143_A Ψ) Ψ = ((True) ∧ (((True) ∧ ((∀ (h : Heap) (x0 : ByteArray) (x1 x2 : Int), ON (s143l1 Ψ 0 x0 x1 x2 h)) ∧ (∀ n1 : Nat, (∀ (h : Heap) (x0 : ByteArray) (x1 x2 : Int), OI (s143l1 Ψ (n1 + 1) x0 x1 x2 h)) ∧ ((True) ∧ ((otP 1) ∧ (((True) ∧ ((True) ∧ ((True) ∧ ((True) ∧ ((∀ (h : Heap) (x0 : ByteArray) (x1 x2 : Int) (x3 : Bool) (x4 x5 : Int), OI (s143c2 Ψ (s143l1_G (s143l1 Ψ n1)) x0 x1 x2 x3 x4 x5 h)) ∧ ((True) ∧ ((∀ (h : Heap) (x0 : ByteArray) (x1 x2 : Int) (x3 : Bool), OI (s143c3 Ψ (s143l1_G (s143l1 Ψ n1)) x0 x1 x2 x3 h)) ∧ (otP 3)))))))) ∧ (True))))))) ∧ (otP 1)))) (⟨trivial, ⟨⟨trivial, ⟨fun _ _ _ _ H => H, fun _ => ⟨fun _ _ _ _ H => H, ⟨trivial, ⟨otP_ok 1, ⟨⟨trivial, ⟨trivial, ⟨trivial, ⟨trivial, ⟨fun _ _ _ _ _ _ _ H => H, ⟨trivial, ⟨fun _ _ _ _ _ H => H, otP_ok 3⟩⟩⟩⟩⟩⟩⟩, trivial⟩⟩⟩⟩⟩⟩, otP_ok 1⟩⟩))
 (Eq.mpr (by as_aux_lemma => kernel_rfl : evF prog f143 (s143_A Ψ) Ψ [(.str name)] h = s143 Ψ name h) H)

/- 158 slices.IndexFunc[[]string,string] -/
abbrev s158l1_T := AVal → AVal → Int → Int → Heap → Prop
def s158l1_R (F : s158l1_T) (l : List AVal) (h : Heap) : Prop := J.cons l fun x0 l => J.cons l fun x1 l => J.ci .i64 l fun x2 l => J.ci .i64 l fun x3 l => J.nil l (F x0 x1 x2 x3 h)
def s158l1_G (F : s158l1_T) (x0 x1 : AVal) (x2 x3 : Int) (h : Heap) : Prop := gJ [.any, .any, .int .i64, .int .i64] [x0, x1, (.int .i64 x2), (.int .i64 x3)] h (s158l1_R F)
def s158l1_E (F : Nat → s158l1_T) (x0 x1 : AVal) (x2 x3 : Int) (h : Heap) : Prop := gJ [.any, .any, .int .i64, .int .i64] [x0, x1, (.int .i64 x2), (.int .i64 x3)] h (fun l h => ∃ n, s158l1_R (F n) l h)
theorem s158l1_go {F : s158l1_T} {x0 x1 : AVal} {x2 x3 : Int} {h : Heap} (H : F x0 x1 x2 x3 h) : s158l1_G F x0 x1 x2 x3 h := gJ_plain rfl H
theorem s158l1_in {F : Nat → s158l1_T} {x0 x1 : AVal} {x2 x3 : Int} {h : Heap} (n : Nat) (H : F n x0 x1 x2 x3 h) : s158l1_E F x0 x1 x2 x3 h := gJ_plain rfl ⟨n, H⟩

def s158l1 (Ψ : AVal → Heap → Prop) : Nat → s158l1_T
 | 0, _, _, _, _, _ => False
 | n1 + 1, s1, f1, t7, t8, h =>
 ifT (decide (t8 < t7)) (
 ixS 1 s1 t8 fun p =>
 ld1 h p fun v =>
 tStr v fun v1 =>
 callV prog f1 [(.str v1)] h fun v2 h_ =>
 tBool v2 fun v3 =>
 ifT v3 (
 retG (.int .i64 t8) h_ Ψ) (
 rg (t8 + 1) (
 s158l1_G (s158l1 Ψ n1) s1 f1 t7 (t8 + 1) h_))) (
 retG (.int .i64 (-1)) h Ψ)

def s158 (Ψ : AVal → Heap → Prop) (s : AVal) (f : AVal) (h : Heap) : Prop :=
 lenN s fun n =>
 s158l1_E (s158l1 Ψ) s f n 0 h

def s158_A (Ψ : AVal → Heap → Prop) : Ann :=
 .seq (rA 1)
 (.seq (.seq (rA 3)
 (.block (.loop [(0, .any), (1, .any), (7, .int .i64), (8, .int .i64)] (fun n l h => s158l1_R (s158l1 Ψ n) l h) (fun L1 =>
 .seq (rA 1)
 (.seq (.cond (.leaf)
 (.leaf))
 (.seq (.block (.seq (rA 2)
 (.seq (rA 6)
 (.cond (.seq (rA 2)
 (.leaf))
 (.leaf)))))
 (rA 2)))))))
 (.seq (rA 1)
 (.leaf)))

theorem s158_ok {Ψ : AVal → Heap → Prop} {s : AVal} {f : AVal} {h : Heap} (H : s158 Ψ s f h) : ACalls prog 158 [s, f] h Ψ :=
 calls_of_evF func158 (by kernel_rfl) (by kernel_rfl) (by kernel_rfl)
 (Eq.mpr (by as_aux_lemma => kernel_rfl : oblF prog f158 (s158_A Ψ) Ψ = ((True) ∧ (((True) ∧ ((∀ (h : Heap) (x0 x1 : AVal) (x2 x3 : Int), ON (s158l1 Ψ 0 x0 x1 x2 x3 h)) ∧ (∀ n1 : Nat, (∀ (h : Heap) (x0 x1 : AVal) (x2 x3 : Int), OI (s158l1 Ψ (n1 + 1) x0 x1 x2 x3 h)) ∧ (otP 6861)))) ∧ (otP 1)))) (⟨trivial, ⟨⟨trivial, ⟨fun _ _ _ _ _ H => H, fun _ => ⟨fun _ _ _ _ _ H => H, otP_ok 6861⟩⟩⟩, otP_ok 1⟩⟩))
 (Eq.mpr (by as_aux_lemma => kernel_rfl : evF prog f158 (s158_A Ψ) Ψ [s, f] h = s158 Ψ s f h) H)

end Go.Proofs.YtljglglbfcgjpaaGreat

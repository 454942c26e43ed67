/- The functions that the proof meets, each as a text that Lean has checked against the program. No condition. -/
import Derived.Test.YtljglglbfcgjpaaGreatM3
import Derived.Test.YtljglglbfcgjpaaGreatChecked
namespace Go.Proofs.YtljglglbfcgjpaaGreat
open Go Go.Sym Go.Proofs.Tryz
set_option maxRecDepth 100000
set_option linter.unusedVariables false

/- 6 dictum/heyting.Ups -/
abbrev s6l1_T := AVal → AVal → AVal → AVal → AVal → Int → Int → Heap → Prop
abbrev s6l1_K : List Kd := [.any, .any, .any, .any, .any, .int .i64, .int .i64]
def s6l1_G (F : s6l1_T) : s6l1_T := GK s6l1_K F
def s6l1_E (F : Nat → s6l1_T) : s6l1_T := EK s6l1_K F
theorem s6l1_in {F : Nat → s6l1_T} {x0 x1 x2 x3 x4 : AVal} {x5 x6 : Int} {h : Heap} (n : Nat) (H : F n x0 x1 x2 x3 x4 x5 x6 h) : s6l1_E F x0 x1 x2 x3 x4 x5 x6 h := gJ_plain rfl ⟨n, H⟩

abbrev s6l2_T := AVal → AVal → AVal → AVal → ByteArray → AVal → AVal → Int → Int → Int → Int → Heap → Prop
abbrev s6l2_K : List Kd := [.any, .any, .any, .any, .str, .any, .any, .int .i64, .int .i64, .int .i64, .int .i64]
def s6l2_G (F : s6l2_T) : s6l2_T := GK s6l2_K F
def s6l2_E (F : Nat → s6l2_T) : s6l2_T := EK s6l2_K F
theorem s6l2_go {F : s6l2_T} {x0 x1 x2 x3 : AVal} {x4 : ByteArray} {x5 x6 : AVal} {x7 x8 x9 x10 : Int} {h : Heap} (H : F x0 x1 x2 x3 x4 x5 x6 x7 x8 x9 x10 h) : s6l2_G F x0 x1 x2 x3 x4 x5 x6 x7 x8 x9 x10 h := gJ_plain rfl H
theorem s6l2_in {F : Nat → s6l2_T} {x0 x1 x2 x3 : AVal} {x4 : ByteArray} {x5 x6 : AVal} {x7 x8 x9 x10 : Int} {h : Heap} (n : Nat) (H : F n x0 x1 x2 x3 x4 x5 x6 x7 x8 x9 x10 h) : s6l2_E F x0 x1 x2 x3 x4 x5 x6 x7 x8 x9 x10 h := gJ_plain rfl ⟨n, H⟩

abbrev s6c3_K : List Kd := [.any, .any, .any, .any, .str, .any, .any, .int .i64, .int .i64, .int .i64, .int .i64]
def s6c3 (Ψ : AVal → Heap → Prop) (L1 : s6l1_T) (L2 : s6l2_T) (t2_2 l_7 a2 sets2 : AVal) (x1 : ByteArray) (in_1 t25_2 : AVal) (t26_2 t27_2 t32_1 t33_1 : Int) (h : Heap) : Prop :=
 rg (t33_1 + 1) (
 L2 t2_2 l_7 a2 sets2 x1 in_1 t25_2 t26_2 t27_2 t32_1 (t33_1 + 1) h)

abbrev s6l4_T := AVal → AVal → AVal → AVal → AVal → AVal → AVal → Int → Int → AVal → Int → Int → Heap → Prop
abbrev s6l4_K : List Kd := [.any, .any, .any, .any, .any, .any, .any, .int .i64, .int .i64, .any, .int .i64, .int .i64]
def s6l4_G (F : s6l4_T) : s6l4_T := GK s6l4_K F
def s6l4_E (F : Nat → s6l4_T) : s6l4_T := EK s6l4_K F
theorem s6l4_go {F : s6l4_T} {x0 x1 x2 x3 x4 x5 x6 : AVal} {x7 x8 : Int} {x9 : AVal} {x10 x11 : Int} {h : Heap} (H : F x0 x1 x2 x3 x4 x5 x6 x7 x8 x9 x10 x11 h) : s6l4_G F x0 x1 x2 x3 x4 x5 x6 x7 x8 x9 x10 x11 h := gJ_plain rfl H
def s6l4 (Ψ : AVal → Heap → Prop) (L1 : s6l1_T) : Nat → s6l4_T
 | 0, _, _, _, _, _, _, _, _, _, _, _, _, _ => False
 | n4 + 1, t2_3, l_8, a3, sets3, in_2, row, t25_3, t26_3, t27_3, t45, t46, t47, h =>
 ifT (decide (t47 < t46)) (
 ixS 1 t45 t47 fun p1 =>
 ld1 h p1 fun v8 =>
 tStr v8 fun v9 =>
 callG prog 28 [(.str v9), in_2] h fun v10 h_5 =>
 tStr v10 fun v11 =>
 appC 1 1 h_5 row (.lsl 1 [(.bool (strEq v11 v9))]) fun v12 h_6 =>
 rg (t47 + 1) (
 s6l4_G (s6l4 Ψ L1 n4) t2_3 l_8 a3 sets3 in_2 v12 t25_3 t26_3 t27_3 t45 t46 (t47 + 1) h_6)) (
 chk (sc in_2) (
 appC 1 24 h sets3 (.lsl 1 [in_2]) fun v13 h_7 =>
 addOff a3 0 fun p2 =>
 ld1 h_7 p2 fun v14 =>
 chk (sc row) (
 appC 1 24 h_7 v14 (.lsl 1 [row]) fun v15 h_8 =>
 addOff a3 0 fun p3 =>
 chk (sc v15) (
 st true h_8 p3 [v15] fun h_9 =>
 rg (t27_3 + 1) (
 L1 t2_3 l_8 a3 v13 t25_3 t26_3 (t27_3 + 1) h_9)))))

def s6l2 (Ψ : AVal → Heap → Prop) (L1 : s6l1_T) : Nat → s6l2_T
 | 0, _, _, _, _, _, _, _, _, _, _, _, _ => False
 | n2 + 1, t2_1, l_6, a1, sets1, x, in_, t25_1, t26_1, t27_1, t32, t33, h =>
 ifT (decide (t33 < t32)) (
 ((0 : Int) ≤ t33 ∧ t33 < (x.size : Int)) ∧
 ifT ((btA x t33) == 1) (
 appC 1 8 h in_ (.lsl 1 [(.int .i64 t33)]) fun v7 h_4 =>
 s6c3 Ψ L1 (s6l2_G (s6l2 Ψ L1 n2)) t2_1 l_6 a1 sets1 x v7 t25_1 t26_1 t27_1 t32 t33 h_4) (
 s6c3 Ψ L1 (s6l2_G (s6l2 Ψ L1 n2)) t2_1 l_6 a1 sets1 x in_ t25_1 t26_1 t27_1 t32 t33 h)) (
 lenN l_6 fun n3 =>
 s6l4_E (s6l4 Ψ L1) t2_1 l_6 a1 sets1 in_ .nilsl t25_1 t26_1 t27_1 l_6 n3 0 h)

def s6l1 (Ψ : AVal → Heap → Prop) : Nat → s6l1_T
 | 0, _, _, _, _, _, _, _, _ => False
 | n1 + 1, t2, l_5, a, sets, t25, t26, t27, h =>
 ifT (decide (t27 < t26)) (
 ixS 1 t25 t27 fun p =>
 ld1 h p fun v5 =>
 tStr v5 fun v6 =>
 s6l2_E (s6l2 Ψ (s6l1_G (s6l1 Ψ n1))) t2 l_5 a sets v6 .nilsl t25 t26 t27 (v6.size : Int) 0 h) (
 ldN 1 h a fun l_9 =>
 tCons l_9 fun v16 l_10 =>
 tNil l_10 (
 st false h t2 [v16] fun h_10 =>
 ldN 1 h_10 t2 fun l_11 =>
 tCons l_11 fun v17 l_12 =>
 tNil l_12 (
 retG (.tuple [(.agg [v17]), sets, (.int .i64 0)]) h_10 Ψ)))

def s6 (Ψ : AVal → Heap → Prop) (m_Up : AVal) (m_Val : AVal) (h : Heap) : Prop :=
 Sym.newRow 1 [(.agg [.nilsl])] h fun r h_ =>
 callG prog 27 [(.agg [m_Up, m_Val])] h_ fun v h_1 =>
 tTup v fun l_ =>
 tCons l_ fun v1 l_1 =>
 tCons l_1 fun v2 l_2 =>
 tInt .i64 v2 fun v3 =>
 tNil l_2 (
 ifT (v3 != 0) (
 st false h_1 (.ptr r 0 0) [.nilsl] fun h_2 =>
 ldN 1 h_2 (.ptr r 0 0) fun l_3 =>
 tCons l_3 fun v4 l_4 =>
 tNil l_4 (
 retG (.tuple [(.agg [v4]), .nilsl, (.int .i64 v3)]) h_2 Ψ)) (
 Sym.newRow 1 [(.agg [.nilsl])] h_1 fun r1 h_3 =>
 lenN v1 fun n =>
 s6l1_E (s6l1 Ψ) (.ptr r 0 0) v1 (.ptr r1 0 0) .nilsl v1 n 0 h_3))

def s6_A (Ψ : AVal → Heap → Prop) : Ann :=
 .seq (.reg [⟨none, [(0, true), (1, false), (2, false), (3, false)]⟩])
 (.seq (rA 7)
 (.seq (.seq (rA 2)
 (.cond (.seq (rA 5)
 (.leaf))
 (.leaf)))
 (.seq (rA 1)
 (.seq (rA 1)
 (.seq (.seq (rA 3)
 (.block (loopK [2, 5, 7, 8, 25, 26, 27] s6l1_K (s6l1 Ψ) (fun L1 =>
 .seq (rA 1)
 (.seq (.cond (.leaf)
 (.leaf))
 (.seq (.block (.seq (rA 3)
 (.seq (rA 1)
 (.seq (.seq (rA 3)
 (.block (loopK [2, 5, 7, 8, 10, 11, 25, 26, 27, 32, 33] s6l2_K (s6l2 Ψ (LK s6l1_K L1)) (fun L2 =>
 .seq (rA 1)
 (.seq (.cond (.leaf)
 (.leaf))
 (cutK [2, 5, 7, 8, 10, 11, 25, 26, 27, 32, 33] s6c3_K (s6c3 Ψ (LK s6l1_K L1) (LK s6l2_K L2)) (.block (.seq (rA 2)
 (.seq (rA 4)
 (.cond (.reg [⟨none, [(0, false), (1, false), (2, true), (3, false), (4, false)]⟩])
 (.leaf)))))
 (rA 2)))))))
 (.seq (rA 1)
 (.seq (.seq (rA 3)
 (.block (loopK [2, 5, 7, 8, 11, 13, 25, 26, 27, 45, 46, 47] s6l4_K (s6l4 Ψ (LK s6l1_K L1)) (fun L4 =>
 .seq (rA 1)
 (.seq (.cond (.leaf)
 (.leaf))
 (.seq (.block (.seq (rA 3)
 (.reg [⟨none, [(0, false), (1, false), (2, false), (3, false), (4, false), (5, false), (6, true), (7, false), (8, false)]⟩])))
 (rA 2)))))))
 (.seq (.reg [⟨none, [(0, false), (1, false), (2, true), (3, false), (4, false)]⟩])
 (.reg [⟨none, [(0, false), (1, false), (2, false), (3, true), (4, false), (5, false), (6, false)]⟩]))))))))
 (rA 2)))))))
 (.seq (rA 5)
 (.leaf)))))))

theorem s6_ok {Ψ : AVal → Heap → Prop} {m_Up : AVal} {m_Val : AVal} {h : Heap} (H : s6 Ψ m_Up m_Val h) : ACalls prog 6 [(.agg [m_Up, m_Val])] h Ψ :=
 calls_of_evF func6 (by kernel_rfl) (by kernel_rfl) (by kernel_rfl)
 (Eq.mpr (by as_aux_lemma => kernel_rfl : oblF prog f6 (s6_A Ψ) Ψ = ((True) ∧ ((True) ∧ ((otP 13) ∧ ((True) ∧ ((True) ∧ (((True) ∧ ((NK s6l1_K (s6l1 Ψ 0)) ∧ (∀ n1 : Nat, (QK s6l1_K (s6l1 Ψ (n1 + 1))) ∧ ((True) ∧ ((otP 1) ∧ (((True) ∧ ((True) ∧ (((True) ∧ ((NK s6l2_K (s6l2 Ψ (s6l1_G (s6l1 Ψ n1)) 0)) ∧ (∀ n2 : Nat, (QK s6l2_K (s6l2 Ψ (s6l1_G (s6l1 Ψ n1)) (n2 + 1))) ∧ ((True) ∧ ((otP 1) ∧ ((otP 21) ∧ ((QK s6c3_K (s6c3 Ψ (s6l1_G (s6l1 Ψ n1)) (s6l2_G (s6l2 Ψ (s6l1_G (s6l1 Ψ n1)) n2)))) ∧ (True)))))))) ∧ ((True) ∧ (((True) ∧ ((NK s6l4_K (s6l4 Ψ (s6l1_G (s6l1 Ψ n1)) 0)) ∧ (∀ n4 : Nat, (QK s6l4_K (s6l4 Ψ (s6l1_G (s6l1 Ψ n1)) (n4 + 1))) ∧ (otP 205)))) ∧ (otP 1)))))) ∧ (True))))))) ∧ (otP 1)))))))) (⟨trivial, ⟨trivial, ⟨otP_ok 13, ⟨trivial, ⟨trivial, ⟨⟨trivial, ⟨fun _ _ _ _ _ _ _ _ H => H, fun _ => ⟨oI, ⟨trivial, ⟨otP_ok 1, ⟨⟨trivial, ⟨trivial, ⟨⟨trivial, ⟨fun _ _ _ _ _ _ _ _ _ _ _ _ H => H, fun _ => ⟨oI, ⟨trivial, ⟨otP_ok 1, ⟨otP_ok 21, ⟨oI, trivial⟩⟩⟩⟩⟩⟩⟩, ⟨trivial, ⟨⟨trivial, ⟨fun _ _ _ _ _ _ _ _ _ _ _ _ _ H => H, fun _ => ⟨oI, otP_ok 205⟩⟩⟩, otP_ok 1⟩⟩⟩⟩⟩, trivial⟩⟩⟩⟩⟩⟩, otP_ok 1⟩⟩⟩⟩⟩⟩))
 (Eq.mpr (by as_aux_lemma => kernel_rfl : evF prog f6 (s6_A Ψ) Ψ [(.agg [m_Up, m_Val])] h = s6 Ψ m_Up m_Val h) H)

/- 8 dictum/dictumref23.Same -/
abbrev s8l1_T := AVal → AVal → Int → Heap → Prop
abbrev s8l1_K : List Kd := [.any, .any, .int .i64]
def s8l1_G (F : s8l1_T) : s8l1_T := GK s8l1_K F
def s8l1_E (F : Nat → s8l1_T) : s8l1_T := EK s8l1_K F
theorem s8l1_go {F : s8l1_T} {x0 x1 : AVal} {x2 : Int} {h : Heap} (H : F x0 x1 x2 h) : s8l1_G F x0 x1 x2 h := gJ_plain rfl H
theorem s8l1_in {F : Nat → s8l1_T} {x0 x1 : AVal} {x2 : Int} {h : Heap} (n : Nat) (H : F n x0 x1 x2 h) : s8l1_E F x0 x1 x2 h := gJ_plain rfl ⟨n, H⟩

abbrev s8l2_T := AVal → AVal → Int → Int → Heap → Prop
abbrev s8l2_K : List Kd := [.any, .any, .int .i64, .int .i64]
def s8l2_G (F : s8l2_T) : s8l2_T := GK s8l2_K F
def s8l2_E (F : Nat → s8l2_T) : s8l2_T := EK s8l2_K F
theorem s8l2_go {F : s8l2_T} {x0 x1 : AVal} {x2 x3 : Int} {h : Heap} (H : F x0 x1 x2 x3 h) : s8l2_G F x0 x1 x2 x3 h := gJ_plain rfl H
theorem s8l2_in {F : Nat → s8l2_T} {x0 x1 : AVal} {x2 x3 : Int} {h : Heap} (n : Nat) (H : F n x0 x1 x2 x3 h) : s8l2_E F x0 x1 x2 x3 h := gJ_plain rfl ⟨n, H⟩

def s8l2 (Ψ : AVal → Heap → Prop) (L1 : s8l1_T) : Nat → s8l2_T
 | 0, _, _, _, _, _ => False
 | n6 + 1, a1, b1, x1, y, h =>
 addOff a1 0 fun p5 =>
 ld1 h p5 fun v5 =>
 ixS 1 v5 x1 fun p6 =>
 ld1 h p6 fun v6 =>
 lenN v6 fun n7 =>
 ifT (decide (y < n7)) (
 addOff a1 0 fun p7 =>
 ld1 h p7 fun v7 =>
 ixS 1 v7 x1 fun p8 =>
 ld1 h p8 fun v8 =>
 ixS 1 v8 y fun p9 =>
 ld1 h p9 fun v9 =>
 tBool v9 fun v10 =>
 addOff b1 0 fun p10 =>
 ld1 h p10 fun v11 =>
 ixS 1 v11 x1 fun p11 =>
 ld1 h p11 fun v12 =>
 ixS 1 v12 y fun p12 =>
 ld1 h p12 fun v13 =>
 tBool v13 fun v14 =>
 eqQ prog 4 (.bool v10) (.bool v14) fun b2 =>
 ifT (!b2) (
 retG (.bool false) h Ψ) (
 rg (y + 1) (
 s8l2_G (s8l2 Ψ L1 n6) a1 b1 x1 (y + 1) h))) (
 rg (x1 + 1) (
 L1 a1 b1 (x1 + 1) h))

def s8l1 (Ψ : AVal → Heap → Prop) : Nat → s8l1_T
 | 0, _, _, _, _ => False
 | n2 + 1, a, b, x, h =>
 addOff a 0 fun p =>
 ld1 h p fun v =>
 lenN v fun n3 =>
 ifT (decide (x < n3)) (
 addOff a 0 fun p1 =>
 ld1 h p1 fun v1 =>
 ixS 1 v1 x fun p2 =>
 ld1 h p2 fun v2 =>
 lenN v2 fun n4 =>
 addOff b 0 fun p3 =>
 ld1 h p3 fun v3 =>
 ixS 1 v3 x fun p4 =>
 ld1 h p4 fun v4 =>
 lenN v4 fun n5 =>
 ifT (n4 != n5) (
 retG (.bool false) h Ψ) (
 s8l2_E (s8l2 Ψ (s8l1_G (s8l1 Ψ n2))) a b x 0 h)) (
 retG (.bool true) h Ψ)

def s8 (Ψ : AVal → Heap → Prop) (a_Leq : AVal) (b_Leq : AVal) (h : Heap) : Prop :=
 lenN a_Leq fun n =>
 lenN b_Leq fun n1 =>
 ifT (n != n1) (
 retG (.bool false) h Ψ) (
 s8l1_E (s8l1 Ψ) (.lptr [a_Leq]) (.lptr [b_Leq]) 0 h)

def s8_A (Ψ : AVal → Heap → Prop) : Ann :=
 .seq (.reg [⟨none, [(0, true), (1, true), (2, false)]⟩])
 (.seq (.seq (rA 7)
 (.cond (.seq (rA 1)
 (.leaf))
 (.leaf)))
 (.seq (.seq (rA 1)
 (.block (loopK [2, 3, 5] s8l1_K (s8l1 Ψ) (fun L1 =>
 .seq (.seq (rA 5)
 (.cond (.leaf)
 (.leaf)))
 (.seq (.block (.seq (.seq (.draw [(0, false), (1, false), (2, false), (3, false), (4, false), (5, false), (6, false), (7, false), (8, false), (9, false), (10, false), (11, false), (12, false)] [0, 1, 0, 7, 15, 31, 0, 64, 0, 448, 960, 1984, 4095])
 (.cond (.seq (rA 1)
 (.leaf))
 (.leaf)))
 (.seq (rA 1)
 (.block (loopK [2, 3, 5, 6] s8l2_K (s8l2 Ψ (LK s8l1_K L1)) (fun L2 =>
 .seq (.seq (rA 8)
 (.cond (.leaf)
 (.leaf)))
 (.seq (.block (.seq (.draw [(0, false), (1, false), (2, false), (3, false), (4, false), (5, false), (6, false), (7, false), (8, false), (9, false), (10, false), (11, false), (12, false), (13, false), (14, false), (15, false), (16, false)] [0, 1, 0, 7, 15, 0, 63, 127, 0, 256, 0, 1792, 3840, 0, 16128, 32512, 65535])
 (.cond (.seq (rA 1)
 (.leaf))
 (.leaf))))
 (rA 3))))))))
 (rA 3))))))
 (.seq (rA 1)
 (.leaf))))

theorem s8_ok {Ψ : AVal → Heap → Prop} {a_Leq : AVal} {b_Leq : AVal} {h : Heap} (H : s8 Ψ a_Leq b_Leq h) : ACalls prog 8 [(.agg [a_Leq]), (.agg [b_Leq])] h Ψ :=
 calls_of_evF func8 (by kernel_rfl) (by kernel_rfl) (by kernel_rfl)
 (Eq.mpr (by as_aux_lemma => kernel_rfl : oblF prog f8 (s8_A Ψ) Ψ = ((True) ∧ ((otP 13) ∧ (((True) ∧ ((NK s8l1_K (s8l1 Ψ 0)) ∧ (∀ n1 : Nat, (QK s8l1_K (s8l1 Ψ (n1 + 1))) ∧ ((otP 5) ∧ (((otP 13) ∧ ((True) ∧ ((NK s8l2_K (s8l2 Ψ (s8l1_G (s8l1 Ψ n1)) 0)) ∧ (∀ n2 : Nat, (QK s8l2_K (s8l2 Ψ (s8l1_G (s8l1 Ψ n1)) (n2 + 1))) ∧ (otP 1739))))) ∧ (True)))))) ∧ (otP 1))))) (⟨trivial, ⟨otP_ok 13, ⟨⟨trivial, ⟨fun _ _ _ _ H => H, fun _ => ⟨oI, ⟨otP_ok 5, ⟨⟨otP_ok 13, ⟨trivial, ⟨fun _ _ _ _ _ H => H, fun _ => ⟨oI, otP_ok 1739⟩⟩⟩⟩, trivial⟩⟩⟩⟩⟩, otP_ok 1⟩⟩⟩))
 (Eq.mpr (by as_aux_lemma => kernel_rfl : evF prog f8 (s8_A Ψ) Ψ [(.agg [a_Leq]), (.agg [b_Leq])] h = s8 Ψ a_Leq b_Leq h) H)

/- 10 dictum/heyting.Atoms -/
abbrev s10l1_T := AVal → AVal → AVal → AVal → Int → Int → Heap → Prop
abbrev s10l1_K : List Kd := [.any, .any, .any, .any, .int .i64, .int .i64]
def s10l1_G (F : s10l1_T) : s10l1_T := GK s10l1_K F
def s10l1_E (F : Nat → s10l1_T) : s10l1_T := EK s10l1_K F
theorem s10l1_go {F : s10l1_T} {x0 x1 x2 x3 : AVal} {x4 x5 : Int} {h : Heap} (H : F x0 x1 x2 x3 x4 x5 h) : s10l1_G F x0 x1 x2 x3 x4 x5 h := gJ_plain rfl H
theorem s10l1_in {F : Nat → s10l1_T} {x0 x1 x2 x3 : AVal} {x4 x5 : Int} {h : Heap} (n : Nat) (H : F n x0 x1 x2 x3 x4 x5 h) : s10l1_E F x0 x1 x2 x3 x4 x5 h := gJ_plain rfl ⟨n, H⟩

abbrev s10l2_T := AVal → AVal → AVal → Int → AVal → Int → Int → AVal → Int → Int → Heap → Prop
abbrev s10l2_K : List Kd := [.any, .any, .any, .int .i64, .any, .int .i64, .int .i64, .any, .int .i64, .int .i64]
def s10l2_G (F : s10l2_T) : s10l2_T := GK s10l2_K F
def s10l2_E (F : Nat → s10l2_T) : s10l2_T := EK s10l2_K F
theorem s10l2_go {F : s10l2_T} {x0 x1 x2 : AVal} {x3 : Int} {x4 : AVal} {x5 x6 : Int} {x7 : AVal} {x8 x9 : Int} {h : Heap} (H : F x0 x1 x2 x3 x4 x5 x6 x7 x8 x9 h) : s10l2_G F x0 x1 x2 x3 x4 x5 x6 x7 x8 x9 h := gJ_plain rfl H
theorem s10l2_in {F : Nat → s10l2_T} {x0 x1 x2 : AVal} {x3 : Int} {x4 : AVal} {x5 x6 : Int} {x7 : AVal} {x8 x9 : Int} {h : Heap} (n : Nat) (H : F n x0 x1 x2 x3 x4 x5 x6 x7 x8 x9 h) : s10l2_E F x0 x1 x2 x3 x4 x5 x6 x7 x8 x9 h := gJ_plain rfl ⟨n, H⟩

def s10l2 (Ψ : AVal → Heap → Prop) (L1 : s10l1_T) : Nat → s10l2_T
 | 0, _, _, _, _, _, _, _, _, _, _, _ => False
 | n3 + 1, m1, l_4, on1, w, t26_1, t27_1, t28_1, t33, t34, t35, h =>
 ifT (decide (t35 < t34)) (
 ixS 1 t33 t35 fun p1 =>
 ld1 h p1 fun v5 =>
 tStr v5 fun v6 =>
 mapGet .nilsl h on1 (.str v6) fun v7 b =>
 appC 1 8 h v7 (.lsl 1 [(.int .i64 w)]) fun v8 h_2 =>
 mapPut h_2 on1 (.str v6) v8 fun h_3 =>
 rg (t35 + 1) (
 s10l2_G (s10l2 Ψ L1 n3) m1 l_4 on1 w t26_1 t27_1 t28_1 t33 t34 (t35 + 1) h_3)) (
 rg (t28_1 + 1) (
 L1 m1 l_4 on1 t26_1 t27_1 (t28_1 + 1) h))

abbrev s10l3_T := AVal → AVal → AVal → AVal → AVal → Heap → Prop
abbrev s10l3_K : List Kd := [.any, .any, .any, .any, .any]
def s10l3_G (F : s10l3_T) : s10l3_T := GK s10l3_K F
def s10l3_E (F : Nat → s10l3_T) : s10l3_T := EK s10l3_K F
theorem s10l3_go {F : s10l3_T} {x0 x1 x2 x3 x4 : AVal} {h : Heap} (H : F x0 x1 x2 x3 x4 h) : s10l3_G F x0 x1 x2 x3 x4 h := gJ_plain rfl H
theorem s10l3_in {F : Nat → s10l3_T} {x0 x1 x2 x3 x4 : AVal} {h : Heap} (n : Nat) (H : F n x0 x1 x2 x3 x4 h) : s10l3_E F x0 x1 x2 x3 x4 h := gJ_plain rfl ⟨n, H⟩

abbrev s10l4_T := AVal → AVal → AVal → AVal → AVal → Int → Int → Heap → Prop
abbrev s10l4_K : List Kd := [.any, .any, .any, .any, .any, .int .i64, .int .i64]
def s10l4_G (F : s10l4_T) : s10l4_T := GK s10l4_K F
def s10l4_E (F : Nat → s10l4_T) : s10l4_T := EK s10l4_K F
theorem s10l4_go {F : s10l4_T} {x0 x1 x2 x3 x4 : AVal} {x5 x6 : Int} {h : Heap} (H : F x0 x1 x2 x3 x4 x5 x6 h) : s10l4_G F x0 x1 x2 x3 x4 x5 x6 h := gJ_plain rfl H
theorem s10l4_in {F : Nat → s10l4_T} {x0 x1 x2 x3 x4 : AVal} {x5 x6 : Int} {h : Heap} (n : Nat) (H : F n x0 x1 x2 x3 x4 x5 x6 h) : s10l4_E F x0 x1 x2 x3 x4 x5 x6 h := gJ_plain rfl ⟨n, H⟩

def s10l4 (Ψ : AVal → Heap → Prop) : Nat → s10l4_T
 | 0, _, _, _, _, _, _, _, _ => False
 | n7 + 1, m3, l_6, on3, out, t61, t62, t63, h =>
 ifT (decide (t63 < t62)) (
 ixS 1 t61 t63 fun p2 =>
 ld1 h p2 fun v18 =>
 tStr v18 fun v19 =>
 addOff m3 0 fun p3 =>
 ld1 h p3 fun v20 =>
 lenN v20 fun n8 =>
 mapGet .nilsl h on3 (.str v19) fun v21 b1 =>
 mkS false 1 1 (.int .u8 0) h n8 n8 fun v22 h_8 =>
 (mapGet .nilsl h_8 on3 (.str v19) fun v23 b2 =>
 v23 = v21) ∧
 bStr h_8 v22 fun s =>
 callG prog 28 [(.str s), v21] h_8 fun v24 h_9 =>
 tStr v24 fun v25 =>
 callG prog 32 [l_6, (.str v25)] h_9 fun v26 h_10 =>
 tInt .i64 v26 fun v27 =>
 appC 2 24 h_10 out (.lsl 2 [(.agg [(.str v19), (.int .i64 v27)])]) fun v28 h_11 =>
 rg (t63 + 1) (
 s10l4_G (s10l4 Ψ n7) m3 l_6 on3 v28 t61 t62 (t63 + 1) h_11)) (
 retG (.tuple [out, (.int .i64 0)]) h Ψ)

def s10l3 (Ψ : AVal → Heap → Prop) : Nat → s10l3_T
 | 0, _, _, _, _, _, _ => False
 | n5 + 1, m2, l_5, on2, names, t50, h =>
 nextM h t50 fun v10 h_5 =>
 extractA v10 0 fun v11 =>
 tBool v11 fun v12 =>
 ifT v12 (
 entryA h_5 t50 fun v13 =>
 extractA v13 0 fun v14 =>
 tStr v14 fun v15 =>
 appC 1 16 h_5 names (.lsl 1 [(.str v15)]) fun v16 h_6 =>
 s10l3_G (s10l3 Ψ n5) m2 l_5 on2 v16 t50 h_6) (
 callG prog 31 [names] h_5 fun v17 h_7 =>
 lenN names fun n6 =>
 s10l4_E (s10l4 Ψ) m2 l_5 on2 .nilsl names n6 0 h_7)

def s10l1 (Ψ : AVal → Heap → Prop) : Nat → s10l1_T
 | 0, _, _, _, _, _, _, _ => False
 | n1 + 1, m, l_3, on, t26, t27, t28, h =>
 ifT (decide (t28 < t27)) (
 ixS 1 t26 t28 fun p =>
 ld1 h p fun v4 =>
 lenN v4 fun n2 =>
 s10l2_E (s10l2 Ψ (s10l1_G (s10l1 Ψ n1))) m l_3 on t28 t26 t27 t28 v4 n2 0 h) (
 rangeM h on fun v9 h_4 =>
 s10l3_E (s10l3 Ψ) m l_3 on .nilsl v9 h_4)

def s10 (Ψ : AVal → Heap → Prop) (m_Up : AVal) (m_Val : AVal) (h : Heap) : Prop :=
 callG prog 27 [(.agg [m_Up, m_Val])] h fun v h_ =>
 tTup v fun l_ =>
 tCons l_ fun v1 l_1 =>
 tCons l_1 fun v2 l_2 =>
 tInt .i64 v2 fun v3 =>
 tNil l_2 (
 ifT (v3 != 0) (
 retG (.tuple [.nilsl, (.int .i64 v3)]) h_ Ψ) (
 newMap h_ fun r h_1 =>
 lenN m_Val fun n =>
 s10l1_E (s10l1 Ψ) (.lptr [m_Up, m_Val]) v1 (.mapr r) m_Val n 0 h_1))

def s10_A (Ψ : AVal → Heap → Prop) : Ann :=
 .seq (.reg [⟨none, [(0, true), (1, false), (2, false)]⟩])
 (.seq (rA 7)
 (.seq (.seq (rA 2)
 (.cond (.seq (rA 3)
 (.leaf))
 (.leaf)))
 (.seq (rA 2)
 (.seq (.seq (rA 4)
 (.block (loopK [1, 4, 6, 26, 27, 28] s10l1_K (s10l1 Ψ) (fun L1 =>
 .seq (rA 1)
 (.seq (.cond (.leaf)
 (.leaf))
 (.seq (.block (.seq (rA 5)
 (.seq (rA 3)
 (.block (loopK [1, 4, 6, 7, 26, 27, 28, 33, 34, 35] s10l2_K (s10l2 Ψ (LK s10l1_K L1)) (fun L2 =>
 .seq (rA 1)
 (.seq (.cond (.leaf)
 (.leaf))
 (.seq (.block (.seq (rA 3)
 (.reg [⟨none, [(0, false), (1, false), (2, false), (3, false), (4, false), (5, false), (6, true), (7, false), (8, false)]⟩])))
 (rA 2)))))))))
 (rA 2)))))))
 (.seq (rA 1)
 (.seq (.seq (rA 2)
 (.block (loopK [1, 4, 6, 11, 50] s10l3_K (s10l3 Ψ) (fun L3 =>
 .seq (rA 2)
 (.seq (.cond (.leaf)
 (.leaf))
 (.block (.seq (rA 3)
 (.reg [⟨none, [(0, false), (1, false), (2, true), (3, false), (4, false)]⟩]))))))))
 (.seq (rA 2)
 (.seq (rA 1)
 (.seq (.seq (rA 3)
 (.block (loopK [1, 4, 6, 13, 61, 62, 63] s10l4_K (s10l4 Ψ) (fun L4 =>
 .seq (rA 1)
 (.seq (.cond (.leaf)
 (.leaf))
 (.seq (.block (.seq (rA 3)
 (.draw [(0, false), (1, false), (2, false), (3, false), (4, false), (5, false), (8, false), (9, false), (10, false), (6, false), (7, false), (11, false), (12, false), (13, false), (14, true), (15, false), (16, false)] [0, 0, 0, 0, 8, 24, 56, 120, 0, 0, 768, 2040, 4092, 8190, 16382, 32767, 65535])))
 (rA 2)))))))
 (.seq (rA 3)
 (.leaf)))))))))))

theorem s10_ok {Ψ : AVal → Heap → Prop} {m_Up : AVal} {m_Val : AVal} {h : Heap} (H : s10 Ψ m_Up m_Val h) : ACalls prog 10 [(.agg [m_Up, m_Val])] h Ψ :=
 calls_of_evF func10 (by kernel_rfl) (by kernel_rfl) (by kernel_rfl)
 (Eq.mpr (by as_aux_lemma => kernel_rfl : oblF prog f10 (s10_A Ψ) Ψ = ((True) ∧ ((True) ∧ ((otP 13) ∧ ((True) ∧ (((True) ∧ ((NK s10l1_K (s10l1 Ψ 0)) ∧ (∀ n1 : Nat, (QK s10l1_K (s10l1 Ψ (n1 + 1))) ∧ ((True) ∧ ((otP 1) ∧ (((True) ∧ ((True) ∧ ((NK s10l2_K (s10l2 Ψ (s10l1_G (s10l1 Ψ n1)) 0)) ∧ (∀ n2 : Nat, (QK s10l2_K (s10l2 Ψ (s10l1_G (s10l1 Ψ n1)) (n2 + 1))) ∧ (otP 205))))) ∧ (True))))))) ∧ ((True) ∧ (((True) ∧ ((NK s10l3_K (s10l3 Ψ 0)) ∧ (∀ n3 : Nat, (QK s10l3_K (s10l3 Ψ (n3 + 1))) ∧ (otP 77)))) ∧ ((True) ∧ ((True) ∧ (((True) ∧ ((NK s10l4_K (s10l4 Ψ 0)) ∧ (∀ n4 : Nat, (QK s10l4_K (s10l4 Ψ (n4 + 1))) ∧ (otP 205)))) ∧ (otP 1)))))))))))) (⟨trivial, ⟨trivial, ⟨otP_ok 13, ⟨trivial, ⟨⟨trivial, ⟨fun _ _ _ _ _ _ _ H => H, fun _ => ⟨oI, ⟨trivial, ⟨otP_ok 1, ⟨⟨trivial, ⟨trivial, ⟨fun _ _ _ _ _ _ _ _ _ _ _ H => H, fun _ => ⟨oI, otP_ok 205⟩⟩⟩⟩, trivial⟩⟩⟩⟩⟩⟩, ⟨trivial, ⟨⟨trivial, ⟨fun _ _ _ _ _ _ H => H, fun _ => ⟨oI, otP_ok 77⟩⟩⟩, ⟨trivial, ⟨trivial, ⟨⟨trivial, ⟨fun _ _ _ _ _ _ _ _ H => H, fun _ => ⟨oI, otP_ok 205⟩⟩⟩, otP_ok 1⟩⟩⟩⟩⟩⟩⟩⟩⟩⟩))
 (Eq.mpr (by as_aux_lemma => kernel_rfl : evF prog f10 (s10_A Ψ) Ψ [(.agg [m_Up, m_Val])] h = s10 Ψ m_Up m_Val h) H)

/- 12 dictum/dictumlaw23.hyps -/
abbrev s12l1_T := AVal → AVal → Int → Heap → Prop
abbrev s12l1_K : List Kd := [.any, .any, .int .i64]
def s12l1_G (F : s12l1_T) : s12l1_T := GK s12l1_K F
def s12l1_E (F : Nat → s12l1_T) : s12l1_T := EK s12l1_K F
theorem s12l1_go {F : s12l1_T} {x0 x1 : AVal} {x2 : Int} {h : Heap} (H : F x0 x1 x2 h) : s12l1_G F x0 x1 x2 h := gJ_plain rfl H
theorem s12l1_in {F : Nat → s12l1_T} {x0 x1 : AVal} {x2 : Int} {h : Heap} (n : Nat) (H : F n x0 x1 x2 h) : s12l1_E F x0 x1 x2 h := gJ_plain rfl ⟨n, H⟩

def s12l1 (Ψ : AVal → Heap → Prop) : Nat → s12l1_T
 | 0, _, _, _, _ => False
 | n2 + 1, a1, b1, i, h =>
 lenN a1 fun n3 =>
 ifT (decide (i < n3)) (
 ixS 2 a1 i fun p =>
 ldN 2 h p fun l_ =>
 tCons l_ fun v l_1 =>
 tStr v fun v1 =>
 tCons l_1 fun v2 l_2 =>
 tInt .i64 v2 fun v3 =>
 tNil l_2 (
 ixS 2 b1 i fun p1 =>
 ldN 2 h p1 fun l_3 =>
 tCons l_3 fun v4 l_4 =>
 tStr v4 fun v5 =>
 tCons l_4 fun v6 l_5 =>
 tInt .i64 v6 fun v7 =>
 tNil l_5 (
 eqQ prog 73 (.agg [(.str v1), (.int .i64 v3)]) (.agg [(.str v5), (.int .i64 v7)]) fun b2 =>
 ifT (!b2) (
 retG (.bool false) h Ψ) (
 rg (i + 1) (
 s12l1_G (s12l1 Ψ n2) a1 b1 (i + 1) h))))) (
 retG (.bool true) h Ψ)

def s12 (Ψ : AVal → Heap → Prop) (a : AVal) (b : AVal) (h : Heap) : Prop :=
 lenN a fun n =>
 lenN b fun n1 =>
 ifT (n != n1) (
 retG (.bool false) h Ψ) (
 s12l1_E (s12l1 Ψ) a b 0 h)

def s12_A (Ψ : AVal → Heap → Prop) : Ann :=
 .seq (rA 1)
 (.seq (.seq (rA 5)
 (.cond (.seq (rA 1)
 (.leaf))
 (.leaf)))
 (.seq (.seq (rA 1)
 (.block (loopK [0, 1, 5] s12l1_K (s12l1 Ψ) (fun L1 =>
 .seq (.seq (rA 4)
 (.cond (.leaf)
 (.leaf)))
 (.seq (.block (.seq (.draw [(0, false), (1, false), (2, false), (3, false), (4, false), (5, false), (6, false), (7, false), (8, false)] [0, 0, 3, 7, 0, 0, 48, 112, 255])
 (.cond (.seq (rA 1)
 (.leaf))
 (.leaf))))
 (rA 3))))))
 (.seq (rA 1)
 (.leaf))))

theorem s12_ok {Ψ : AVal → Heap → Prop} {a : AVal} {b : AVal} {h : Heap} (H : s12 Ψ a b h) : ACalls prog 12 [a, b] h Ψ :=
 calls_of_evF func12 (by kernel_rfl) (by kernel_rfl) (by kernel_rfl)
 (Eq.mpr (by as_aux_lemma => kernel_rfl : oblF prog f12 (s12_A Ψ) Ψ = ((True) ∧ ((otP 13) ∧ (((True) ∧ ((NK s12l1_K (s12l1 Ψ 0)) ∧ (∀ n1 : Nat, (QK s12l1_K (s12l1 Ψ (n1 + 1))) ∧ (otP 1739)))) ∧ (otP 1))))) (⟨trivial, ⟨otP_ok 13, ⟨⟨trivial, ⟨fun _ _ _ _ H => H, fun _ => ⟨oI, otP_ok 1739⟩⟩⟩, otP_ok 1⟩⟩⟩))
 (Eq.mpr (by as_aux_lemma => kernel_rfl : evF prog f12 (s12_A Ψ) Ψ [a, b] h = s12 Ψ a b h) H)

/- 14 dictum/dictumref23.Primes -/
abbrev s14l1_T := AVal → AVal → Int → AVal → Int → Heap → Prop
abbrev s14l1_K : List Kd := [.any, .any, .int .i64, .any, .int .i64]
def s14l1_G (F : s14l1_T) : s14l1_T := GK s14l1_K F
def s14l1_E (F : Nat → s14l1_T) : s14l1_T := EK s14l1_K F
theorem s14l1_go {F : s14l1_T} {x0 x1 : AVal} {x2 : Int} {x3 : AVal} {x4 : Int} {h : Heap} (H : F x0 x1 x2 x3 x4 h) : s14l1_G F x0 x1 x2 x3 x4 h := gJ_plain rfl H
theorem s14l1_in {F : Nat → s14l1_T} {x0 x1 : AVal} {x2 : Int} {x3 : AVal} {x4 : Int} {h : Heap} (n : Nat) (H : F n x0 x1 x2 x3 x4 h) : s14l1_E F x0 x1 x2 x3 x4 h := gJ_plain rfl ⟨n, H⟩

abbrev s14c2_K : List Kd := [.any, .any, .int .i64, .any, .int .i64]
def s14c2 (Ψ : AVal → Heap → Prop) (L1 : s14l1_T) (t2_1 h_5 : AVal) (low1 : Int) (l_10 : AVal) (x1 : Int) (h : Heap) : Prop :=
 rg (x1 + 1) (
 L1 t2_1 h_5 low1 l_10 (x1 + 1) h)

abbrev s14l3_T := AVal → AVal → Int → AVal → Int → Bool → Int → Heap → Prop
abbrev s14l3_K : List Kd := [.any, .any, .int .i64, .any, .int .i64, .bool, .int .i64]
def s14l3_G (F : s14l3_T) : s14l3_T := GK s14l3_K F
def s14l3_E (F : Nat → s14l3_T) : s14l3_T := EK s14l3_K F
theorem s14l3_go {F : s14l3_T} {x0 x1 : AVal} {x2 : Int} {x3 : AVal} {x4 : Int} {x5 : Bool} {x6 : Int} {h : Heap} (H : F x0 x1 x2 x3 x4 x5 x6 h) : s14l3_G F x0 x1 x2 x3 x4 x5 x6 h := gJ_plain rfl H
theorem s14l3_in {F : Nat → s14l3_T} {x0 x1 : AVal} {x2 : Int} {x3 : AVal} {x4 : Int} {x5 : Bool} {x6 : Int} {h : Heap} (n : Nat) (H : F n x0 x1 x2 x3 x4 x5 x6 h) : s14l3_E F x0 x1 x2 x3 x4 x5 x6 h := gJ_plain rfl ⟨n, H⟩

abbrev s14l4_T := AVal → AVal → Int → AVal → Int → Bool → Int → Int → Heap → Prop
abbrev s14l4_K : List Kd := [.any, .any, .int .i64, .any, .int .i64, .bool, .int .i64, .int .i64]
def s14l4_G (F : s14l4_T) : s14l4_T := GK s14l4_K F
def s14l4_E (F : Nat → s14l4_T) : s14l4_T := EK s14l4_K F
theorem s14l4_go {F : s14l4_T} {x0 x1 : AVal} {x2 : Int} {x3 : AVal} {x4 : Int} {x5 : Bool} {x6 x7 : Int} {h : Heap} (H : F x0 x1 x2 x3 x4 x5 x6 x7 h) : s14l4_G F x0 x1 x2 x3 x4 x5 x6 x7 h := gJ_plain rfl H
theorem s14l4_in {F : Nat → s14l4_T} {x0 x1 : AVal} {x2 : Int} {x3 : AVal} {x4 : Int} {x5 : Bool} {x6 x7 : Int} {h : Heap} (n : Nat) (H : F n x0 x1 x2 x3 x4 x5 x6 x7 h) : s14l4_E F x0 x1 x2 x3 x4 x5 x6 x7 h := gJ_plain rfl ⟨n, H⟩

abbrev s14c5_K : List Kd := [.any, .any, .int .i64, .any, .int .i64, .bool, .int .i64, .int .i64]
def s14c5 (Ψ : AVal → Heap → Prop) (L1 : s14l1_T) (L3 : s14l3_T) (L4 : s14l4_T) (t2_4 h_8 : AVal) (low4 : Int) (l_13 : AVal) (x4 : Int) (is2 : Bool) (y2 z1 : Int) (h : Heap) : Prop :=
 rg (z1 + 1) (
 L4 t2_4 h_8 low4 l_13 x4 is2 y2 (z1 + 1) h)

abbrev s14c6_K : List Kd := [.any, .any, .int .i64, .any, .int .i64, .bool, .int .i64, .int .i64, .bool]
def s14c6 (Ψ : AVal → Heap → Prop) (L1 : s14l1_T) (L3 : s14l3_T) (L4 : s14l4_T) (t2_5 h_9 : AVal) (low5 : Int) (l_14 : AVal) (x5 : Int) (is3 : Bool) (y3 z2 : Int) (t84 : Bool) (h : Heap) : Prop :=
 ifT t84 (
 s14c5 Ψ L1 L3 L4 t2_5 h_9 low5 l_14 x5 false y3 z2 h) (
 s14c5 Ψ L1 L3 L4 t2_5 h_9 low5 l_14 x5 is3 y3 z2 h)

def s14l4 (Ψ : AVal → Heap → Prop) (L1 : s14l1_T) (L3 : s14l3_T) : Nat → s14l4_T
 | 0, _, _, _, _, _, _, _, _, _ => False
 | n4 + 1, t2_3, h_7, low3, l_12, x3, is1, y1, z, h =>
 nilCheckA h_7 fun p4 =>
 addOff p4 0 fun p5 =>
 ld1 h p5 fun v13 =>
 lenN v13 fun n5 =>
 ifT (decide (z < n5)) (
 ifT (y1 != x3) (
 ifT (z != x3) (
 nilCheckA h_7 fun p6 =>
 addOff p6 2 fun p7 =>
 ld1 h p7 fun v14 =>
 ixS 1 v14 y1 fun p8 =>
 ld1 h p8 fun v15 =>
 ixS 1 v15 z fun p9 =>
 ld1 h p9 fun v16 =>
 tInt .i64 v16 fun v17 =>
 s14c6 Ψ L1 L3 (s14l4_G (s14l4 Ψ L1 L3 n4)) t2_3 h_7 low3 l_12 x3 is1 y1 z (v17 == x3) h) (
 s14c6 Ψ L1 L3 (s14l4_G (s14l4 Ψ L1 L3 n4)) t2_3 h_7 low3 l_12 x3 is1 y1 z false h)) (
 s14c6 Ψ L1 L3 (s14l4_G (s14l4 Ψ L1 L3 n4)) t2_3 h_7 low3 l_12 x3 is1 y1 z false h)) (
 rg (y1 + 1) (
 L3 t2_3 h_7 low3 l_12 x3 is1 (y1 + 1) h))

def s14l3 (Ψ : AVal → Heap → Prop) (L1 : s14l1_T) : Nat → s14l3_T
 | 0, _, _, _, _, _, _, _, _ => False
 | n2 + 1, t2_2, h_6, low2, l_11, x2, is, y, h =>
 nilCheckA h_6 fun p2 =>
 addOff p2 0 fun p3 =>
 ld1 h p3 fun v12 =>
 lenN v12 fun n3 =>
 ifT (decide (y < n3)) (
 s14l4_E (s14l4 Ψ L1 (s14l3_G (s14l3 Ψ L1 n2))) t2_2 h_6 low2 l_11 x2 is y 0 h) (
 ifT is (
 appC 1 8 h l_11 (.lsl 1 [(.int .i64 x2)]) fun v18 h_10 =>
 s14c2 Ψ L1 t2_2 h_6 low2 v18 x2 h_10) (
 s14c2 Ψ L1 t2_2 h_6 low2 l_11 x2 h))

abbrev s14l7_T := AVal → AVal → AVal → AVal → Int → Heap → Prop
abbrev s14l7_K : List Kd := [.any, .any, .any, .any, .int .i64]
def s14l7_G (F : s14l7_T) : s14l7_T := GK s14l7_K F
def s14l7_E (F : Nat → s14l7_T) : s14l7_T := EK s14l7_K F
abbrev s14l8_T := AVal → AVal → AVal → AVal → Int → AVal → Int → Heap → Prop
abbrev s14l8_K : List Kd := [.any, .any, .any, .any, .int .i64, .any, .int .i64]
def s14l8_G (F : s14l8_T) : s14l8_T := GK s14l8_K F
def s14l8_E (F : Nat → s14l8_T) : s14l8_T := EK s14l8_K F
theorem s14l8_go {F : s14l8_T} {x0 x1 x2 x3 : AVal} {x4 : Int} {x5 : AVal} {x6 : Int} {h : Heap} (H : F x0 x1 x2 x3 x4 x5 x6 h) : s14l8_G F x0 x1 x2 x3 x4 x5 x6 h := gJ_plain rfl H
theorem s14l8_in {F : Nat → s14l8_T} {x0 x1 x2 x3 : AVal} {x4 : Int} {x5 : AVal} {x6 : Int} {h : Heap} (n : Nat) (H : F n x0 x1 x2 x3 x4 x5 x6 h) : s14l8_E F x0 x1 x2 x3 x4 x5 x6 h := gJ_plain rfl ⟨n, H⟩

abbrev s14c9_K : List Kd := [.any, .any, .any, .any, .int .i64, .any, .int .i64]
def s14c9 (Ψ : AVal → Heap → Prop) (L7 : s14l7_T) (L8 : s14l8_T) (t2_8 h_16 l_20 m2 : AVal) (w2 : Int) (row1 : AVal) (v22 : Int) (h : Heap) : Prop :=
 rg (v22 + 1) (
 L8 t2_8 h_16 l_20 m2 w2 row1 (v22 + 1) h)

def s14l8 (Ψ : AVal → Heap → Prop) (L7 : s14l7_T) : Nat → s14l8_T
 | 0, _, _, _, _, _, _, _, _ => False
 | n11 + 1, t2_7, h_15, l_19, m1, w1, row, v21, h =>
 lenN l_19 fun n12 =>
 ifT (decide (v21 < n12)) (
 nilCheckA h_15 fun p10 =>
 addOff p10 0 fun p11 =>
 ld1 h p11 fun v23 =>
 ixS 1 l_19 v21 fun p12 =>
 ld1 h p12 fun v24 =>
 tInt .i64 v24 fun v25 =>
 ixS 1 v23 v25 fun p13 =>
 ld1 h p13 fun v26 =>
 ixS 1 l_19 w1 fun p14 =>
 ld1 h p14 fun v27 =>
 tInt .i64 v27 fun v28 =>
 ixS 1 v26 v28 fun p15 =>
 ld1 h p15 fun v29 =>
 tBool v29 fun v30 =>
 ifT v30 (
 appC 1 8 h row (.lsl 1 [(.int .i64 v21)]) fun v31 h_17 =>
 s14c9 Ψ L7 (s14l8_G (s14l8 Ψ L7 n11)) t2_7 h_15 l_19 m1 w1 v31 v21 h_17) (
 s14c9 Ψ L7 (s14l8_G (s14l8 Ψ L7 n11)) t2_7 h_15 l_19 m1 w1 row v21 h)) (
 addOff m1 0 fun p16 =>
 ld1 h p16 fun v32 =>
 chk (sc row) (
 appC 1 24 h v32 (.lsl 1 [row]) fun v33 h_18 =>
 addOff m1 0 fun p17 =>
 chk (sc v33) (
 st true h_18 p17 [v33] fun h_19 =>
 addOff m1 1 fun p18 =>
 ld1 h_19 p18 fun v34 =>
 appC 1 24 h_19 v34 (.lsl 1 [.nilsl]) fun v35 h_20 =>
 addOff m1 1 fun p19 =>
 chk (sc v35) (
 st true h_20 p19 [v35] fun h_21 =>
 rg (w1 + 1) (
 L7 t2_7 h_15 l_19 m1 (w1 + 1) h_21)))))

def s14l7 (Ψ : AVal → Heap → Prop) : Nat → s14l7_T
 | 0, _, _, _, _, _, _ => False
 | n9 + 1, t2_6, h_14, l_18, m, w, h =>
 lenN l_18 fun n10 =>
 ifT (decide (w < n10)) (
 s14l8_E (s14l8 Ψ (s14l7_G (s14l7 Ψ n9))) t2_6 h_14 l_18 m w .nilsl 0 h) (
 ldN 2 h m fun l_21 =>
 tCons l_21 fun v36 l_22 =>
 tCons l_22 fun v37 l_23 =>
 tNil l_23 (
 callG prog 41 [(.agg [v36, v37])] h fun v38 h_22 =>
 tTup v38 fun l_24 =>
 tCons l_24 fun v39 l_25 =>
 tCons l_25 fun v40 l_26 =>
 tInt .i64 v40 fun v41 =>
 tNil l_26 (
 tAgg v39 fun l_27 =>
 tCons l_27 fun v42 l_28 =>
 tCons l_28 fun v43 l_29 =>
 tNil l_29 (
 Sym.newRow 2 [(.agg [.nilsl, .nilsl])] h_22 fun r2 h_23 =>
 st false h_23 (.ptr r2 0 0) [v42, v43] fun h_24 =>
 ldN 2 h_24 (.ptr r2 0 0) fun l_30 =>
 tCons l_30 fun v44 l_31 =>
 tCons l_31 fun v45 l_32 =>
 tNil l_32 (
 st false h_24 t2_6 [v44, v45] fun h_25 =>
 ldN 2 h_25 t2_6 fun l_33 =>
 tCons l_33 fun v46 l_34 =>
 tCons l_34 fun v47 l_35 =>
 tNil l_35 (
 retG (.tuple [(.agg [v46, v47]), l_18, (.int .i64 0)]) h_25 Ψ))))))

def s14l1 (Ψ : AVal → Heap → Prop) : Nat → s14l1_T
 | 0, _, _, _, _, _, _ => False
 | n + 1, t2, h_4, low, l_9, x, h =>
 nilCheckA h_4 fun p =>
 addOff p 0 fun p1 =>
 ld1 h p1 fun v11 =>
 lenN v11 fun n1 =>
 ifT (decide (x < n1)) (
 s14l3_E (s14l3 Ψ (s14l1_G (s14l1 Ψ n))) t2 h_4 low l_9 x (x != low) 0 h) (
 lenN l_9 fun n8 =>
 ifT (n8 == 0) (
 st false h t2 [.nilsl, .nilsl] fun h_11 =>
 ldN 2 h_11 t2 fun l_15 =>
 tCons l_15 fun v19 l_16 =>
 tCons l_16 fun v20 l_17 =>
 tNil l_17 (
 retG (.tuple [(.agg [v19, v20]), .nilsl, (.int .i64 231)]) h_11 Ψ)) (
 Sym.newRow 2 [(.agg [.nilsl, .nilsl])] h fun r1 h_12 =>
 st false h_12 (.ptr r1 0 0) [.nilsl, .nilsl] fun h_13 =>
 s14l7_E (s14l7 Ψ) t2 h_4 l_9 (.ptr r1 0 0) 0 h_13))

def s14 (Ψ : AVal → Heap → Prop) (a_Leq : AVal) (h : Heap) : Prop :=
 Sym.newRow 2 [(.agg [.nilsl, .nilsl])] h fun r h_ =>
 callG prog 39 [(.agg [a_Leq])] h_ fun v h_1 =>
 tTup v fun l_ =>
 tCons l_ fun v1 l_1 =>
 tCons l_1 fun v2 l_2 =>
 tBool v2 fun v3 =>
 tNil l_2 (
 ifT (!v3) (
 st false h_1 (.ptr r 0 0) [.nilsl, .nilsl] fun h_2 =>
 ldN 2 h_2 (.ptr r 0 0) fun l_3 =>
 tCons l_3 fun v4 l_4 =>
 tCons l_4 fun v5 l_5 =>
 tNil l_5 (
 retG (.tuple [(.agg [v4, v5]), .nilsl, (.int .i64 230)]) h_2 Ψ)) (
 callG prog 40 [v1] h_1 fun v6 h_3 =>
 tTup v6 fun l_6 =>
 tCons l_6 fun v7 l_7 =>
 tInt .i64 v7 fun v8 =>
 tCons l_7 fun v9 l_8 =>
 tInt .i64 v9 fun v10 =>
 tNil l_8 (
 s14l1_E (s14l1 Ψ) (.ptr r 0 0) v1 v8 .nilsl 0 h_3)))

def s14_A (Ψ : AVal → Heap → Prop) : Ann :=
 .seq (.reg [⟨none, [(0, true), (1, false), (2, false), (3, false)]⟩])
 (.seq (rA 7)
 (.seq (.seq (rA 2)
 (.cond (.seq (rA 4)
 (.leaf))
 (.leaf)))
 (.seq (rA 7)
 (.seq (rA 1)
 (.seq (.seq (rA 1)
 (.block (loopK [2, 5, 7, 9, 10] s14l1_K (s14l1 Ψ) (fun L1 =>
 .seq (.seq (rA 7)
 (.cond (.leaf)
 (.leaf)))
 (cutK [2, 5, 7, 9, 10] s14c2_K (s14c2 Ψ (LK s14l1_K L1)) (.block (.seq (rA 4)
 (.seq (.seq (rA 1)
 (.block (loopK [2, 5, 7, 9, 10, 11, 12] s14l3_K (s14l3 Ψ (LK s14l1_K L1)) (fun L3 =>
 .seq (.seq (rA 7)
 (.cond (.leaf)
 (.leaf)))
 (.seq (.block (.seq (rA 1)
 (.block (loopK [2, 5, 7, 9, 10, 11, 12, 13] s14l4_K (s14l4 Ψ (LK s14l1_K L1) (LK s14l3_K L3)) (fun L4 =>
 .seq (.seq (rA 7)
 (.cond (.leaf)
 (.leaf)))
 (cutK [2, 5, 7, 9, 10, 11, 12, 13] s14c5_K (s14c5 Ψ (LK s14l1_K L1) (LK s14l3_K L3) (LK s14l4_K L4)) (.block (cutK [2, 5, 7, 9, 10, 11, 12, 13, 84] s14c6_K (s14c6 Ψ (LK s14l1_K L1) (LK s14l3_K L3) (LK s14l4_K L4)) (.reg [⟨none, [(0, false), (1, false), (2, false), (3, false)]⟩, ⟨some (66, true), [(4, false), (5, false), (6, false)]⟩, ⟨none, [(7, false), (8, false)]⟩, ⟨some (71, true), [(9, false), (10, false), (11, false), (12, false), (13, false), (14, false), (15, false), (16, false), (17, false), (18, false), (19, false), (20, false)]⟩, ⟨none, [(21, false)]⟩])
 (.cond (rA 1)
 (.leaf))))
 (rA 3)))))))
 (rA 3))))))
 (.seq (rA 1)
 (.cond (.reg [⟨none, [(0, false), (1, false), (2, true), (3, false), (4, false)]⟩])
 (.leaf))))))
 (rA 3))))))
 (.seq (.seq (rA 3)
 (.cond (.seq (rA 4)
 (.leaf))
 (.leaf)))
 (.seq (rA 3)
 (.seq (.seq (rA 1)
 (.block (loopK [2, 5, 9, 14, 15] s14l7_K (s14l7 Ψ) (fun L7 =>
 .seq (.seq (rA 4)
 (.cond (.leaf)
 (.leaf)))
 (.seq (.block (.seq (rA 1)
 (.seq (.seq (rA 1)
 (.block (loopK [2, 5, 9, 14, 15, 16, 17] s14l8_K (s14l8 Ψ (LK s14l7_K L7)) (fun L8 =>
 .seq (.seq (rA 4)
 (.cond (.leaf)
 (.leaf)))
 (cutK [2, 5, 9, 14, 15, 16, 17] s14c9_K (s14c9 Ψ (LK s14l7_K L7) (LK s14l8_K L8)) (.block (.seq (.draw [(0, false), (1, false), (2, false), (3, false), (4, false), (5, false), (6, false), (7, false), (8, false), (9, false), (10, false), (11, false), (12, false), (13, false), (14, false), (15, false)] [0, 1, 3, 7, 0, 0, 48, 112, 255, 511, 0, 0, 3072, 7168, 16383, 32767])
 (.cond (.reg [⟨none, [(0, false), (1, false), (2, true), (3, false), (4, false)]⟩])
 (.leaf))))
 (rA 3))))))
 (.seq (.reg [⟨none, [(0, false), (1, false), (2, false), (3, true), (4, false), (5, false), (6, false)]⟩])
 (.reg [⟨none, [(0, false), (1, false), (2, true), (3, false), (4, false), (5, false)]⟩])))))
 (rA 3))))))
 (.seq (rA 8)
 (.seq (rA 5)
 (.leaf)))))))))))

theorem s14_ok {Ψ : AVal → Heap → Prop} {a_Leq : AVal} {h : Heap} (H : s14 Ψ a_Leq h) : ACalls prog 14 [(.agg [a_Leq])] h Ψ :=
 calls_of_evF func14 (by kernel_rfl) (by kernel_rfl) (by kernel_rfl)
 (Eq.mpr (by as_aux_lemma => kernel_rfl : oblF prog f14 (s14_A Ψ) Ψ = ((True) ∧ ((True) ∧ ((otP 13) ∧ ((True) ∧ ((True) ∧ (((True) ∧ ((NK s14l1_K (s14l1 Ψ 0)) ∧ (∀ n1 : Nat, (QK s14l1_K (s14l1 Ψ (n1 + 1))) ∧ ((otP 5) ∧ (((True) ∧ (((True) ∧ ((NK s14l3_K (s14l3 Ψ (s14l1_G (s14l1 Ψ n1)) 0)) ∧ (∀ n3 : Nat, (QK s14l3_K (s14l3 Ψ (s14l1_G (s14l1 Ψ n1)) (n3 + 1))) ∧ ((otP 5) ∧ (((True) ∧ ((NK s14l4_K (s14l4 Ψ (s14l1_G (s14l1 Ψ n1)) (s14l3_G (s14l3 Ψ (s14l1_G (s14l1 Ψ n1)) n3)) 0)) ∧ (∀ n4 : Nat, (QK s14l4_K (s14l4 Ψ (s14l1_G (s14l1 Ψ n1)) (s14l3_G (s14l3 Ψ (s14l1_G (s14l1 Ψ n1)) n3)) (n4 + 1))) ∧ ((otP 5) ∧ (((True) ∧ ((QK s14c6_K (s14c6 Ψ (s14l1_G (s14l1 Ψ n1)) (s14l3_G (s14l3 Ψ (s14l1_G (s14l1 Ψ n1)) n3)) (s14l4_G (s14l4 Ψ (s14l1_G (s14l1 Ψ n1)) (s14l3_G (s14l3 Ψ (s14l1_G (s14l1 Ψ n1)) n3)) n4)))) ∧ (otP 1))) ∧ ((QK s14c5_K (s14c5 Ψ (s14l1_G (s14l1 Ψ n1)) (s14l3_G (s14l3 Ψ (s14l1_G (s14l1 Ψ n1)) n3)) (s14l4_G (s14l4 Ψ (s14l1_G (s14l1 Ψ n1)) (s14l3_G (s14l3 Ψ (s14l1_G (s14l1 Ψ n1)) n3)) n4)))) ∧ (True))))))) ∧ (True)))))) ∧ (otP 5))) ∧ ((QK s14c2_K (s14c2 Ψ (s14l1_G (s14l1 Ψ n1)))) ∧ (True))))))) ∧ ((otP 13) ∧ ((True) ∧ (((True) ∧ ((NK s14l7_K (s14l7 Ψ 0)) ∧ (∀ n7 : Nat, (QK s14l7_K (s14l7 Ψ (n7 + 1))) ∧ ((otP 5) ∧ (((True) ∧ (((True) ∧ ((NK s14l8_K (s14l8 Ψ (s14l7_G (s14l7 Ψ n7)) 0)) ∧ (∀ n8 : Nat, (QK s14l8_K (s14l8 Ψ (s14l7_G (s14l7 Ψ n7)) (n8 + 1))) ∧ ((otP 5) ∧ ((otP 5) ∧ ((QK s14c9_K (s14c9 Ψ (s14l7_G (s14l7 Ψ n7)) (s14l8_G (s14l8 Ψ (s14l7_G (s14l7 Ψ n7)) n8)))) ∧ (True))))))) ∧ (otP 1))) ∧ (True)))))) ∧ (otP 5))))))))))) (⟨trivial, ⟨trivial, ⟨otP_ok 13, ⟨trivial, ⟨trivial, ⟨⟨trivial, ⟨fun _ _ _ _ _ _ H => H, fun _ => ⟨oI, ⟨otP_ok 5, ⟨⟨trivial, ⟨⟨trivial, ⟨fun _ _ _ _ _ _ _ _ H => H, fun _ => ⟨oI, ⟨otP_ok 5, ⟨⟨trivial, ⟨fun _ _ _ _ _ _ _ _ _ H => H, fun _ => ⟨oI, ⟨otP_ok 5, ⟨⟨trivial, ⟨oI, otP_ok 1⟩⟩, ⟨oI, trivial⟩⟩⟩⟩⟩⟩, trivial⟩⟩⟩⟩⟩, otP_ok 5⟩⟩, ⟨oI, trivial⟩⟩⟩⟩⟩⟩, ⟨otP_ok 13, ⟨trivial, ⟨⟨trivial, ⟨fun _ _ _ _ _ _ H => H, fun _ => ⟨oI, ⟨otP_ok 5, ⟨⟨trivial, ⟨⟨trivial, ⟨fun _ _ _ _ _ _ _ _ H => H, fun _ => ⟨oI, ⟨otP_ok 5, ⟨otP_ok 5, ⟨oI, trivial⟩⟩⟩⟩⟩⟩, otP_ok 1⟩⟩, trivial⟩⟩⟩⟩⟩, otP_ok 5⟩⟩⟩⟩⟩⟩⟩⟩⟩))
 (Eq.mpr (by as_aux_lemma => kernel_rfl : evF prog f14 (s14_A Ψ) Ψ [(.agg [a_Leq])] h = s14 Ψ a_Leq h) H)

/- 16 dictum/dictumref23.Chain -/
abbrev s16l2_T := Int → AVal → AVal → Int → Heap → Prop
abbrev s16l2_K : List Kd := [.int .i64, .any, .any, .int .i64]
def s16l2_G (F : s16l2_T) : s16l2_T := GK s16l2_K F
def s16l2_E (F : Nat → s16l2_T) : s16l2_T := EK s16l2_K F
theorem s16l2_in {F : Nat → s16l2_T} {x0 : Int} {x1 x2 : AVal} {x3 : Int} {h : Heap} (n : Nat) (H : F n x0 x1 x2 x3 h) : s16l2_E F x0 x1 x2 x3 h := gJ_plain rfl ⟨n, H⟩

abbrev s16l3_T := Int → AVal → AVal → Int → AVal → Int → Heap → Prop
abbrev s16l3_K : List Kd := [.int .i64, .any, .any, .int .i64, .any, .int .i64]
def s16l3_G (F : s16l3_T) : s16l3_T := GK s16l3_K F
def s16l3_E (F : Nat → s16l3_T) : s16l3_T := EK s16l3_K F
theorem s16l3_go {F : s16l3_T} {x0 : Int} {x1 x2 : AVal} {x3 : Int} {x4 : AVal} {x5 : Int} {h : Heap} (H : F x0 x1 x2 x3 x4 x5 h) : s16l3_G F x0 x1 x2 x3 x4 x5 h := gJ_plain rfl H
theorem s16l3_in {F : Nat → s16l3_T} {x0 : Int} {x1 x2 : AVal} {x3 : Int} {x4 : AVal} {x5 : Int} {h : Heap} (n : Nat) (H : F n x0 x1 x2 x3 x4 x5 h) : s16l3_E F x0 x1 x2 x3 x4 x5 h := gJ_plain rfl ⟨n, H⟩

def s16l3 (Ψ : AVal → Heap → Prop) (L2 : s16l2_T) : Nat → s16l3_T
 | 0, _, _, _, _, _, _, _ => False
 | n5 + 1, n4, t2_2, a1, x1, row, y, h =>
 ifT (decide (y < n4)) (
 appC 1 1 h row (.lsl 1 [(.bool (decide (x1 ≤ y)))]) fun v1 h_4 =>
 rg (y + 1) (
 s16l3_G (s16l3 Ψ L2 n5) n4 t2_2 a1 x1 v1 (y + 1) h_4)) (
 addOff a1 0 fun p =>
 ld1 h p fun v2 =>
 chk (sc row) (
 appC 1 24 h v2 (.lsl 1 [row]) fun v3 h_5 =>
 addOff a1 0 fun p1 =>
 chk (sc v3) (
 st true h_5 p1 [v3] fun h_6 =>
 rg (x1 + 1) (
 L2 n4 t2_2 a1 (x1 + 1) h_6))))

def s16l2 (Ψ : AVal → Heap → Prop) : Nat → s16l2_T
 | 0, _, _, _, _, _ => False
 | n3 + 1, n2, t2_1, a, x, h =>
 ifT (decide (x < n2)) (
 s16l3_E (s16l3 Ψ (s16l2_G (s16l2 Ψ n3))) n2 t2_1 a x .nilsl 0 h) (
 ldN 1 h a fun l_2 =>
 tCons l_2 fun v4 l_3 =>
 tNil l_3 (
 st false h t2_1 [v4] fun h_7 =>
 ldN 1 h_7 t2_1 fun l_4 =>
 tCons l_4 fun v5 l_5 =>
 tNil l_5 (
 retG (.tuple [(.agg [v5]), (.int .i64 0)]) h_7 Ψ)))

abbrev s16c1_K : List Kd := [.int .i64, .any, .bool]
def s16c1 (Ψ : AVal → Heap → Prop) (n1 : Int) (t2 : AVal) (t13 : Bool) (h : Heap) : Prop :=
 ifT t13 (
 st false h t2 [.nilsl] fun h_1 =>
 ldN 1 h_1 t2 fun l_ =>
 tCons l_ fun v l_1 =>
 tNil l_1 (
 retG (.tuple [(.agg [v]), (.int .i64 2)]) h_1 Ψ)) (
 Sym.newRow 1 [(.agg [.nilsl])] h fun r1 h_2 =>
 st false h_2 (.ptr r1 0 0) [.nilsl] fun h_3 =>
 s16l2_E (s16l2 Ψ) n1 t2 (.ptr r1 0 0) 0 h_3)

def s16 (Ψ : AVal → Heap → Prop) (n : Int) (h : Heap) : Prop :=
 Sym.newRow 1 [(.agg [.nilsl])] h fun r h_ =>
 ifT (decide (n < 1)) (
 s16c1 Ψ n (.ptr r 0 0) true h_) (
 s16c1 Ψ n (.ptr r 0 0) (decide (64 < n)) h_)

def s16_A (Ψ : AVal → Heap → Prop) : Ann :=
 .seq (rA 2)
 (.seq (cutK [0, 2, 13] s16c1_K (s16c1 Ψ) (.reg [⟨none, [(0, false), (1, false), (2, false)]⟩, ⟨some (10, false), [(3, false), (4, false)]⟩, ⟨none, [(5, false)]⟩])
 (.cond (.seq (rA 3)
 (.leaf))
 (.leaf)))
 (.seq (rA 3)
 (.seq (.seq (rA 1)
 (.block (loopK [0, 2, 4, 5] s16l2_K (s16l2 Ψ) (fun L2 =>
 .seq (.seq (rA 3)
 (.cond (.leaf)
 (.leaf)))
 (.seq (.block (.seq (rA 1)
 (.seq (.seq (rA 1)
 (.block (loopK [0, 2, 4, 5, 6, 7] s16l3_K (s16l3 Ψ (LK s16l2_K L2)) (fun L3 =>
 .seq (.seq (rA 3)
 (.cond (.leaf)
 (.leaf)))
 (.seq (.block (.reg [⟨none, [(0, false), (1, false), (2, false), (3, false), (4, true), (5, false), (6, false)]⟩]))
 (rA 3))))))
 (.reg [⟨none, [(0, false), (1, false), (2, false), (3, true), (4, false), (5, false), (6, false)]⟩]))))
 (rA 3))))))
 (.seq (rA 3)
 (.leaf)))))

theorem s16_ok {Ψ : AVal → Heap → Prop} {n : Int} {h : Heap} (H : s16 Ψ n h) : ACalls prog 16 [(.int .i64 n)] h Ψ :=
 calls_of_evF func16 (by kernel_rfl) (by kernel_rfl) (by kernel_rfl)
 (Eq.mpr (by as_aux_lemma => kernel_rfl : oblF prog f16 (s16_A Ψ) Ψ = ((True) ∧ (((True) ∧ ((QK s16c1_K (s16c1 Ψ)) ∧ (otP 3))) ∧ ((True) ∧ (((True) ∧ ((NK s16l2_K (s16l2 Ψ 0)) ∧ (∀ n2 : Nat, (QK s16l2_K (s16l2 Ψ (n2 + 1))) ∧ ((otP 5) ∧ (((True) ∧ (((True) ∧ ((NK s16l3_K (s16l3 Ψ (s16l2_G (s16l2 Ψ n2)) 0)) ∧ (∀ n3 : Nat, (QK s16l3_K (s16l3 Ψ (s16l2_G (s16l2 Ψ n2)) (n3 + 1))) ∧ (otP 75)))) ∧ (True))) ∧ (True)))))) ∧ (otP 1)))))) (⟨trivial, ⟨⟨trivial, ⟨oI, otP_ok 3⟩⟩, ⟨trivial, ⟨⟨trivial, ⟨fun _ _ _ _ _ H => H, fun _ => ⟨oI, ⟨otP_ok 5, ⟨⟨trivial, ⟨⟨trivial, ⟨fun _ _ _ _ _ _ _ H => H, fun _ => ⟨oI, otP_ok 75⟩⟩⟩, trivial⟩⟩, trivial⟩⟩⟩⟩⟩, otP_ok 1⟩⟩⟩⟩))
 (Eq.mpr (by as_aux_lemma => kernel_rfl : evF prog f16 (s16_A Ψ) Ψ [(.int .i64 n)] h = s16 Ψ n h) H)

/- 18 dictum/dictumref03.Ints -/
abbrev s18l1_T := AVal → AVal → Int → Heap → Prop
abbrev s18l1_K : List Kd := [.any, .any, .int .i64]
def s18l1_G (F : s18l1_T) : s18l1_T := GK s18l1_K F
def s18l1_E (F : Nat → s18l1_T) : s18l1_T := EK s18l1_K F
theorem s18l1_go {F : s18l1_T} {x0 x1 : AVal} {x2 : Int} {h : Heap} (H : F x0 x1 x2 h) : s18l1_G F x0 x1 x2 h := gJ_plain rfl H
theorem s18l1_in {F : Nat → s18l1_T} {x0 x1 : AVal} {x2 : Int} {h : Heap} (n : Nat) (H : F n x0 x1 x2 h) : s18l1_E F x0 x1 x2 h := gJ_plain rfl ⟨n, H⟩

def s18l1 (Ψ : AVal → Heap → Prop) : Nat → s18l1_T
 | 0, _, _, _, _ => False
 | n2 + 1, a1, b1, i, h =>
 lenN a1 fun n3 =>
 ifT (decide (i < n3)) (
 ixS 1 a1 i fun p =>
 ld1 h p fun v =>
 tInt .i64 v fun v1 =>
 ixS 1 b1 i fun p1 =>
 ld1 h p1 fun v2 =>
 tInt .i64 v2 fun v3 =>
 ifT (v1 != v3) (
 retG (.bool false) h Ψ) (
 rg (i + 1) (
 s18l1_G (s18l1 Ψ n2) a1 b1 (i + 1) h))) (
 retG (.bool true) h Ψ)

def s18 (Ψ : AVal → Heap → Prop) (a : AVal) (b : AVal) (h : Heap) : Prop :=
 lenN a fun n =>
 lenN b fun n1 =>
 ifT (n != n1) (
 retG (.bool false) h Ψ) (
 s18l1_E (s18l1 Ψ) a b 0 h)

def s18_A (Ψ : AVal → Heap → Prop) : Ann :=
 .seq (rA 1)
 (.seq (.seq (rA 5)
 (.cond (.seq (rA 1)
 (.leaf))
 (.leaf)))
 (.seq (.seq (rA 1)
 (.block (loopK [0, 1, 5] s18l1_K (s18l1 Ψ) (fun L1 =>
 .seq (.seq (rA 4)
 (.cond (.leaf)
 (.leaf)))
 (.seq (.block (.seq (.draw [(0, false), (1, false), (2, false), (3, false), (4, false), (5, false), (6, false), (7, false), (8, false)] [0, 0, 3, 7, 0, 0, 48, 112, 255])
 (.cond (.seq (rA 1)
 (.leaf))
 (.leaf))))
 (rA 3))))))
 (.seq (rA 1)
 (.leaf))))

theorem s18_ok {Ψ : AVal → Heap → Prop} {a : AVal} {b : AVal} {h : Heap} (H : s18 Ψ a b h) : ACalls prog 18 [a, b] h Ψ :=
 calls_of_evF func18 (by kernel_rfl) (by kernel_rfl) (by kernel_rfl)
 (Eq.mpr (by as_aux_lemma => kernel_rfl : oblF prog f18 (s18_A Ψ) Ψ = ((True) ∧ ((otP 13) ∧ (((True) ∧ ((NK s18l1_K (s18l1 Ψ 0)) ∧ (∀ n1 : Nat, (QK s18l1_K (s18l1 Ψ (n1 + 1))) ∧ (otP 1739)))) ∧ (otP 1))))) (⟨trivial, ⟨otP_ok 13, ⟨⟨trivial, ⟨fun _ _ _ _ H => H, fun _ => ⟨oI, otP_ok 1739⟩⟩⟩, otP_ok 1⟩⟩⟩))
 (Eq.mpr (by as_aux_lemma => kernel_rfl : evF prog f18 (s18_A Ψ) Ψ [a, b] h = s18 Ψ a b h) H)

/- 27 dictum/heyting.upsets -/
abbrev s27l1_T := AVal → AVal → Int → Int → Heap → Prop
abbrev s27l1_K : List Kd := [.any, .any, .int .i64, .int .i64]
def s27l1_G (F : s27l1_T) : s27l1_T := GK s27l1_K F
def s27l1_E (F : Nat → s27l1_T) : s27l1_T := EK s27l1_K F
theorem s27l1_go {F : s27l1_T} {x0 x1 : AVal} {x2 x3 : Int} {h : Heap} (H : F x0 x1 x2 x3 h) : s27l1_G F x0 x1 x2 x3 h := gJ_plain rfl H
theorem s27l1_in {F : Nat → s27l1_T} {x0 x1 : AVal} {x2 x3 : Int} {h : Heap} (n : Nat) (H : F n x0 x1 x2 x3 h) : s27l1_E F x0 x1 x2 x3 h := gJ_plain rfl ⟨n, H⟩

abbrev s27l2_T := AVal → AVal → AVal → Int → Heap → Prop
abbrev s27l2_K : List Kd := [.any, .any, .any, .int .i64]
def s27l2_G (F : s27l2_T) : s27l2_T := GK s27l2_K F
def s27l2_E (F : Nat → s27l2_T) : s27l2_T := EK s27l2_K F
theorem s27l2_go {F : s27l2_T} {x0 x1 x2 : AVal} {x3 : Int} {h : Heap} (H : F x0 x1 x2 x3 h) : s27l2_G F x0 x1 x2 x3 h := gJ_plain rfl H
abbrev s27l3_T := AVal → AVal → AVal → Int → AVal → Int → Int → Heap → Prop
abbrev s27l3_K : List Kd := [.any, .any, .any, .int .i64, .any, .int .i64, .int .i64]
def s27l3_G (F : s27l3_T) : s27l3_T := GK s27l3_K F
def s27l3_E (F : Nat → s27l3_T) : s27l3_T := EK s27l3_K F
theorem s27l3_go {F : s27l3_T} {x0 x1 x2 : AVal} {x3 : Int} {x4 : AVal} {x5 x6 : Int} {h : Heap} (H : F x0 x1 x2 x3 x4 x5 x6 h) : s27l3_G F x0 x1 x2 x3 x4 x5 x6 h := gJ_plain rfl H
theorem s27l3_in {F : Nat → s27l3_T} {x0 x1 x2 : AVal} {x3 : Int} {x4 : AVal} {x5 x6 : Int} {h : Heap} (n : Nat) (H : F n x0 x1 x2 x3 x4 x5 x6 h) : s27l3_E F x0 x1 x2 x3 x4 x5 x6 h := gJ_plain rfl ⟨n, H⟩

abbrev s27c4_K : List Kd := [.any, .any, .any, .int .i64, .any, .int .i64, .int .i64]
def s27c4 (Ψ : AVal → Heap → Prop) (L2 : s27l2_T) (L3 : s27l3_T) (cones3 l_8 seen2 : AVal) (i2 : Int) (t54_1 : AVal) (t55_1 t56_1 : Int) (h : Heap) : Prop :=
 rg (t56_1 + 1) (
 L3 cones3 l_8 seen2 i2 t54_1 t55_1 (t56_1 + 1) h)

def s27l3 (Ψ : AVal → Heap → Prop) (L2 : s27l2_T) : Nat → s27l3_T
 | 0, _, _, _, _, _, _, _, _ => False
 | n6 + 1, cones2, l_7, seen1, i1, t54, t55, t56, h =>
 ifT (decide (t56 < t55)) (
 ixS 1 t54 t56 fun p2 =>
 ld1 h p2 fun v13 =>
 ixS 1 l_7 i1 fun p3 =>
 ld1 h p3 fun v14 =>
 tStr v14 fun v15 =>
 callG prog 28 [(.str v15), v13] h fun v16 h_7 =>
 tStr v16 fun v17 =>
 mapGet (.int .i64 0) h_7 seen1 (.str v17) fun v18 b =>
 tInt .i64 v18 fun v19 =>
 ifT (decide (0 < v19)) (
 s27c4 Ψ L2 (s27l3_G (s27l3 Ψ L2 n6)) cones2 l_7 seen1 i1 t54 t55 t56 h_7) (
 lenN l_7 fun n7 =>
 ifT (n7 == 64) (
 retG (.tuple [.nilsl, (.int .i64 231)]) h_7 Ψ) (
 mapPut h_7 seen1 (.str v17) (.int .i64 1) fun h_8 =>
 appC 1 16 h_8 l_7 (.lsl 1 [(.str v17)]) fun v20 h_9 =>
 s27c4 Ψ L2 (s27l3_G (s27l3 Ψ L2 n6)) cones2 v20 seen1 i1 t54 t55 t56 h_9))) (
 rg (i1 + 1) (
 L2 cones2 l_7 seen1 (i1 + 1) h))

def s27l2 (Ψ : AVal → Heap → Prop) : Nat → s27l2_T
 | 0, _, _, _, _, _ => False
 | n3 + 1, cones1, l_6, seen, i, h =>
 lenN l_6 fun n4 =>
 ifT (decide (i < n4)) (
 lenN cones1 fun n5 =>
 s27l3_E (s27l3 Ψ (s27l2_G (s27l2 Ψ n3))) cones1 l_6 seen i cones1 n5 0 h) (
 callG prog 61 [l_6, (.func (.func 62) [] [])] h fun v21 h_10 =>
 retG (.tuple [l_6, (.int .i64 0)]) h_10 Ψ)

def s27l1 (Ψ : AVal → Heap → Prop) : Nat → s27l1_T
 | 0, _, _, _, _, _ => False
 | n1 + 1, m, cones, t22, t23, h =>
 ifT (decide (t23 < t22)) (
 ldN 2 h m fun l_ =>
 tCons l_ fun v2 l_1 =>
 tCons l_1 fun v3 l_2 =>
 tNil l_2 (
 callG prog 60 [(.agg [v2, v3]), (.int .i64 t23)] h fun v4 h_1 =>
 tTup v4 fun l_3 =>
 tCons l_3 fun v5 l_4 =>
 tCons l_4 fun v6 l_5 =>
 tInt .i64 v6 fun v7 =>
 tNil l_5 (
 chk (sc v5) (
 appC 1 24 h_1 cones (.lsl 1 [v5]) fun v8 h_2 =>
 rg (t23 + 1) (
 s27l1_G (s27l1 Ψ n1) m v8 t22 (t23 + 1) h_2))))) (
 addOff m 0 fun p =>
 ld1 h p fun v9 =>
 lenN v9 fun n2 =>
 mkS false 1 1 (.int .u8 0) h n2 n2 fun v10 h_3 =>
 bStr h_3 v10 fun s =>
 Sym.newRow 1 [(.str s)] h_3 fun r h_4 =>
 newMap h_4 fun r1 h_5 =>
 ixS 1 (.sl r 1 0 1) 0 fun p1 =>
 ld1 h_5 p1 fun v11 =>
 tStr v11 fun v12 =>
 mapPut h_5 (.mapr r1) (.str v12) (.int .i64 1) fun h_6 =>
 s27l2_E (s27l2 Ψ) cones (.sl r 1 0 1) (.mapr r1) 0 h_6)

def s27 (Ψ : AVal → Heap → Prop) (m_Up : AVal) (m_Val : AVal) (h : Heap) : Prop :=
 callG prog 59 [(.agg [m_Up, m_Val])] h fun v h_ =>
 tInt .i64 v fun v1 =>
 ifT (v1 != 0) (
 retG (.tuple [.nilsl, (.int .i64 v1)]) h_ Ψ) (
 lenN m_Up fun n =>
 s27l1_E (s27l1 Ψ) (.lptr [m_Up, m_Val]) .nilsl n 0 h_)

def s27_A (Ψ : AVal → Heap → Prop) : Ann :=
 .seq (.reg [⟨none, [(0, true), (1, false), (2, false)]⟩])
 (.seq (.seq (rA 3)
 (.seq (rA 2)
 (.cond (.seq (rA 3)
 (.leaf))
 (.leaf))))
 (.seq (rA 1)
 (.seq (.seq (rA 4)
 (.block (loopK [1, 5, 22, 23] s27l1_K (s27l1 Ψ) (fun L1 =>
 .seq (rA 1)
 (.seq (.cond (.leaf)
 (.leaf))
 (.seq (.block (.seq (rA 2)
 (.seq (rA 8)
 (.reg [⟨none, [(0, false), (1, false), (2, true), (3, false), (4, false)]⟩]))))
 (rA 2)))))))
 (.seq (rA 7)
 (.seq (rA 7)
 (.seq (.seq (rA 1)
 (.block (loopK [5, 9, 10, 11] s27l2_K (s27l2 Ψ) (fun L2 =>
 .seq (.seq (rA 4)
 (.cond (.leaf)
 (.leaf)))
 (.seq (.block (.seq (rA 3)
 (.block (loopK [5, 9, 10, 11, 54, 55, 56] s27l3_K (s27l3 Ψ (LK s27l2_K L2)) (fun L3 =>
 .seq (rA 1)
 (.seq (.cond (.leaf)
 (.leaf))
 (cutK [5, 9, 10, 11, 54, 55, 56] s27c4_K (s27c4 Ψ (LK s27l2_K L2) (LK s27l3_K L3)) (.block (.seq (rA 3)
 (.seq (rA 7)
 (.seq (.seq (rA 4)
 (.cond (.leaf)
 (.leaf)))
 (.seq (.seq (rA 3)
 (.cond (.seq (rA 2)
 (.leaf))
 (.leaf)))
 (.seq (rA 3)
 (.reg [⟨none, [(0, false), (1, false), (2, true), (3, false), (4, false)]⟩])))))))
 (rA 2))))))))
 (rA 3))))))
 (.seq (rA 2)
 (.seq (rA 3)
 (.leaf)))))))))

theorem s27_ok {Ψ : AVal → Heap → Prop} {m_Up : AVal} {m_Val : AVal} {h : Heap} (H : s27 Ψ m_Up m_Val h) : ACalls prog 27 [(.agg [m_Up, m_Val])] h Ψ :=
 calls_of_evF func27 (by kernel_rfl) (by kernel_rfl) (by kernel_rfl)
 (Eq.mpr (by as_aux_lemma => kernel_rfl : oblF prog f27 (s27_A Ψ) Ψ = ((True) ∧ ((otP 53) ∧ ((True) ∧ (((True) ∧ ((NK s27l1_K (s27l1 Ψ 0)) ∧ (∀ n1 : Nat, (QK s27l1_K (s27l1 Ψ (n1 + 1))) ∧ (otP 717)))) ∧ ((True) ∧ ((True) ∧ (((True) ∧ ((NK s27l2_K (s27l2 Ψ 0)) ∧ (∀ n2 : Nat, (QK s27l2_K (s27l2 Ψ (n2 + 1))) ∧ ((otP 5) ∧ (((True) ∧ ((NK s27l3_K (s27l3 Ψ (s27l2_G (s27l2 Ψ n2)) 0)) ∧ (∀ n3 : Nat, (QK s27l3_K (s27l3 Ψ (s27l2_G (s27l2 Ψ n2)) (n3 + 1))) ∧ ((True) ∧ ((otP 1) ∧ ((otP 289973) ∧ ((QK s27c4_K (s27c4 Ψ (s27l2_G (s27l2 Ψ n2)) (s27l3_G (s27l3 Ψ (s27l2_G (s27l2 Ψ n2)) n3)))) ∧ (True)))))))) ∧ (True)))))) ∧ (otP 5))))))))) (⟨trivial, ⟨otP_ok 53, ⟨trivial, ⟨⟨trivial, ⟨fun _ _ _ _ _ H => H, fun _ => ⟨oI, otP_ok 717⟩⟩⟩, ⟨trivial, ⟨trivial, ⟨⟨trivial, ⟨fun _ _ _ _ _ H => H, fun _ => ⟨oI, ⟨otP_ok 5, ⟨⟨trivial, ⟨fun _ _ _ _ _ _ _ _ H => H, fun _ => ⟨oI, ⟨trivial, ⟨otP_ok 1, ⟨otP_ok 289973, ⟨oI, trivial⟩⟩⟩⟩⟩⟩⟩, trivial⟩⟩⟩⟩⟩, otP_ok 5⟩⟩⟩⟩⟩⟩⟩))
 (Eq.mpr (by as_aux_lemma => kernel_rfl : evF prog f27 (s27_A Ψ) Ψ [(.agg [m_Up, m_Val])] h = s27 Ψ m_Up m_Val h) H)

/- 29 dictum/dictumref17.Right -/
abbrev s29l2_T := AVal → Int → AVal → Int → Heap → Prop
abbrev s29l2_K : List Kd := [.any, .int .i64, .any, .int .i64]
def s29l2_G (F : s29l2_T) : s29l2_T := GK s29l2_K F
def s29l2_E (F : Nat → s29l2_T) : s29l2_T := EK s29l2_K F
theorem s29l2_go {F : s29l2_T} {x0 : AVal} {x1 : Int} {x2 : AVal} {x3 : Int} {h : Heap} (H : F x0 x1 x2 x3 h) : s29l2_G F x0 x1 x2 x3 h := gJ_plain rfl H
theorem s29l2_in {F : Nat → s29l2_T} {x0 : AVal} {x1 : Int} {x2 : AVal} {x3 : Int} {h : Heap} (n : Nat) (H : F n x0 x1 x2 x3 h) : s29l2_E F x0 x1 x2 x3 h := gJ_plain rfl ⟨n, H⟩

abbrev s29l3_T := AVal → Int → AVal → Int → Heap → Prop
abbrev s29l3_K : List Kd := [.any, .int .i64, .any, .int .i64]
def s29l3_G (F : s29l3_T) : s29l3_T := GK s29l3_K F
def s29l3_E (F : Nat → s29l3_T) : s29l3_T := EK s29l3_K F
theorem s29l3_go {F : s29l3_T} {x0 : AVal} {x1 : Int} {x2 : AVal} {x3 : Int} {h : Heap} (H : F x0 x1 x2 x3 h) : s29l3_G F x0 x1 x2 x3 h := gJ_plain rfl H
theorem s29l3_in {F : Nat → s29l3_T} {x0 : AVal} {x1 : Int} {x2 : AVal} {x3 : Int} {h : Heap} (n : Nat) (H : F n x0 x1 x2 x3 h) : s29l3_E F x0 x1 x2 x3 h := gJ_plain rfl ⟨n, H⟩

abbrev s29l4_T := AVal → Int → AVal → Int → Int → Heap → Prop
abbrev s29l4_K : List Kd := [.any, .int .i64, .any, .int .i64, .int .i64]
def s29l4_G (F : s29l4_T) : s29l4_T := GK s29l4_K F
def s29l4_E (F : Nat → s29l4_T) : s29l4_T := EK s29l4_K F
theorem s29l4_go {F : s29l4_T} {x0 : AVal} {x1 : Int} {x2 : AVal} {x3 x4 : Int} {h : Heap} (H : F x0 x1 x2 x3 x4 h) : s29l4_G F x0 x1 x2 x3 x4 h := gJ_plain rfl H
theorem s29l4_in {F : Nat → s29l4_T} {x0 : AVal} {x1 : Int} {x2 : AVal} {x3 x4 : Int} {h : Heap} (n : Nat) (H : F n x0 x1 x2 x3 x4 h) : s29l4_E F x0 x1 x2 x3 x4 h := gJ_plain rfl ⟨n, H⟩

abbrev s29c5_K : List Kd := [.any, .int .i64, .any, .int .i64, .int .i64]
def s29c5 (Ψ : AVal → Heap → Prop) (L3 : s29l3_T) (L4 : s29l4_T) (m4 : AVal) (n8 : Int) (o3 : AVal) (a3 b1 : Int) (h : Heap) : Prop :=
 rg (b1 + 1) (
 L4 m4 n8 o3 a3 (b1 + 1) h)

abbrev s29l7_T := AVal → Int → AVal → Int → Int → Int → Heap → Prop
abbrev s29l7_K : List Kd := [.any, .int .i64, .any, .int .i64, .int .i64, .int .i64]
def s29l7_G (F : s29l7_T) : s29l7_T := GK s29l7_K F
def s29l7_E (F : Nat → s29l7_T) : s29l7_T := EK s29l7_K F
theorem s29l7_go {F : s29l7_T} {x0 : AVal} {x1 : Int} {x2 : AVal} {x3 x4 x5 : Int} {h : Heap} (H : F x0 x1 x2 x3 x4 x5 h) : s29l7_G F x0 x1 x2 x3 x4 x5 h := gJ_plain rfl H
theorem s29l7_in {F : Nat → s29l7_T} {x0 : AVal} {x1 : Int} {x2 : AVal} {x3 x4 x5 : Int} {h : Heap} (n : Nat) (H : F n x0 x1 x2 x3 x4 x5 h) : s29l7_E F x0 x1 x2 x3 x4 x5 h := gJ_plain rfl ⟨n, H⟩

def s29l7 (Ψ : AVal → Heap → Prop) (L3 : s29l3_T) (L4 : s29l4_T) : Nat → s29l7_T
 | 0, _, _, _, _, _, _, _ => False
 | n11 + 1, m6, n10, o5, a5, b3, k, h =>
 addOff m6 1 fun p4 =>
 ld1 h p4 fun v13 =>
 ixS 1 v13 a5 fun p5 =>
 ld1 h p5 fun v14 =>
 lenN v14 fun n12 =>
 ifT (decide (k < n12)) (
 addOff m6 1 fun p6 =>
 ld1 h p6 fun v15 =>
 ixS 1 v15 b3 fun p7 =>
 ld1 h p7 fun v16 =>
 addOff m6 1 fun p8 =>
 ld1 h p8 fun v17 =>
 ixS 1 v17 a5 fun p9 =>
 ld1 h p9 fun v18 =>
 ixS 1 v18 k fun p10 =>
 ld1 h p10 fun v19 =>
 tStr v19 fun v20 =>
 callG prog 65 [v16, (.str v20)] h fun v21 h_2 =>
 tBool v21 fun v22 =>
 ifT (!v22) (
 retG (.tuple [.nilsl, (.bool false)]) h_2 Ψ) (
 rg (k + 1) (
 s29l7_G (s29l7 Ψ L3 L4 n11) m6 n10 o5 a5 b3 (k + 1) h_2))) (
 s29c5 Ψ L3 L4 m6 n10 o5 a5 b3 h)

abbrev s29c6_K : List Kd := [.any, .int .i64, .any, .int .i64, .int .i64, .bool]
def s29c6 (Ψ : AVal → Heap → Prop) (L3 : s29l3_T) (L4 : s29l4_T) (m5 : AVal) (n9 : Int) (o4 : AVal) (a4 b2 : Int) (t68 : Bool) (h : Heap) : Prop :=
 ifT t68 (
 s29c5 Ψ L3 L4 m5 n9 o4 a4 b2 h) (
 ixS 1 o4 b2 fun p2 =>
 ld1 h p2 fun v10 =>
 ixS 1 v10 a4 fun p3 =>
 ld1 h p3 fun v11 =>
 tBool v11 fun v12 =>
 ifT v12 (
 retG (.tuple [.nilsl, (.bool false)]) h Ψ) (
 s29l7_E (s29l7 Ψ L3 L4) m5 n9 o4 a4 b2 0 h))

def s29l4 (Ψ : AVal → Heap → Prop) (L3 : s29l3_T) : Nat → s29l4_T
 | 0, _, _, _, _, _, _ => False
 | n7 + 1, m3, n6, o2, a2, b, h =>
 ifT (decide (b < n6)) (
 ixS 1 o2 a2 fun p11 =>
 ld1 h p11 fun v23 =>
 ixS 1 v23 b fun p12 =>
 ld1 h p12 fun v24 =>
 tBool v24 fun v25 =>
 ifT (!v25) (
 s29c6 Ψ L3 (s29l4_G (s29l4 Ψ L3 n7)) m3 n6 o2 a2 b true h) (
 s29c6 Ψ L3 (s29l4_G (s29l4 Ψ L3 n7)) m3 n6 o2 a2 b (a2 == b) h)) (
 rg (a2 + 1) (
 L3 m3 n6 o2 (a2 + 1) h))

def s29l3 (Ψ : AVal → Heap → Prop) : Nat → s29l3_T
 | 0, _, _, _, _, _ => False
 | n5 + 1, m2, n4, o1, a1, h =>
 ifT (decide (a1 < n4)) (
 s29l4_E (s29l4 Ψ (s29l3_G (s29l3 Ψ n5))) m2 n4 o1 a1 0 h) (
 retG (.tuple [o1, (.bool true)]) h Ψ)

def s29l2 (Ψ : AVal → Heap → Prop) : Nat → s29l2_T
 | 0, _, _, _, _, _ => False
 | n3 + 1, m1, n2, o, a, h =>
 ifT (decide (a < n2)) (
 addOff m1 1 fun p =>
 ld1 h p fun v6 =>
 ixS 1 v6 a fun p1 =>
 ld1 h p1 fun v7 =>
 callG prog 64 [v7] h fun v8 h_1 =>
 tBool v8 fun v9 =>
 ifT (!v9) (
 retG (.tuple [.nilsl, (.bool false)]) h_1 Ψ) (
 rg (a + 1) (
 s29l2_G (s29l2 Ψ n3) m1 n2 o (a + 1) h_1))) (
 s29l3_E (s29l3 Ψ) m1 n2 o 0 h)

abbrev s29c1_K : List Kd := [.any, .int .i64, .bool]
def s29c1 (Ψ : AVal → Heap → Prop) (m : AVal) (n1 : Int) (t26 : Bool) (h : Heap) : Prop :=
 ifT t26 (
 retG (.tuple [.nilsl, (.bool false)]) h Ψ) (
 ldN 2 h m fun l_ =>
 tCons l_ fun v l_1 =>
 tCons l_1 fun v1 l_2 =>
 tNil l_2 (
 callG prog 63 [(.agg [v, v1])] h fun v2 h_ =>
 tTup v2 fun l_3 =>
 tCons l_3 fun v3 l_4 =>
 tCons l_4 fun v4 l_5 =>
 tBool v4 fun v5 =>
 tNil l_5 (
 ifT (!v5) (
 retG (.tuple [.nilsl, (.bool false)]) h_ Ψ) (
 s29l2_E (s29l2 Ψ) m n1 v3 0 h_))))

def s29 (Ψ : AVal → Heap → Prop) (m_Up : AVal) (m_Val : AVal) (h : Heap) : Prop :=
 lenN m_Up fun n =>
 ifT (decide (n < 1)) (
 s29c1 Ψ (.lptr [m_Up, m_Val]) n true h) (
 ifT (decide (512 < n)) (
 s29c1 Ψ (.lptr [m_Up, m_Val]) n true h) (
 lenN m_Val fun n17 =>
 s29c1 Ψ (.lptr [m_Up, m_Val]) n (n17 != n) h))

def s29_A (Ψ : AVal → Heap → Prop) : Ann :=
 .seq (.reg [⟨none, [(0, true), (1, false), (2, false)]⟩])
 (.seq (rA 4)
 (.seq (cutK [1, 4, 26] s29c1_K (s29c1 Ψ) (.reg [⟨none, [(0, false), (1, false), (2, false)]⟩, ⟨some (16, false), [(3, false), (4, false)]⟩, ⟨none, [(5, false), (6, false)]⟩, ⟨some (20, false), [(7, false), (8, false), (9, false), (10, false), (11, false)]⟩, ⟨none, [(12, false)]⟩])
 (.cond (.seq (rA 2)
 (.leaf))
 (.leaf)))
 (.seq (rA 7)
 (.seq (.seq (rA 2)
 (.cond (.seq (rA 2)
 (.leaf))
 (.leaf)))
 (.seq (.seq (rA 1)
 (.block (loopK [1, 4, 5, 7] s29l2_K (s29l2 Ψ) (fun L2 =>
 .seq (.seq (rA 3)
 (.cond (.leaf)
 (.leaf)))
 (.seq (.block (.seq (rA 7)
 (.cond (.seq (rA 2)
 (.leaf))
 (.leaf))))
 (rA 3))))))
 (.seq (.seq (rA 1)
 (.block (loopK [1, 4, 5, 8] s29l3_K (s29l3 Ψ) (fun L3 =>
 .seq (.seq (rA 3)
 (.cond (.leaf)
 (.leaf)))
 (.seq (.block (.seq (rA 1)
 (.block (loopK [1, 4, 5, 8, 9] s29l4_K (s29l4 Ψ (LK s29l3_K L3)) (fun L4 =>
 .seq (.seq (rA 3)
 (.cond (.leaf)
 (.leaf)))
 (cutK [1, 4, 5, 8, 9] s29c5_K (s29c5 Ψ (LK s29l3_K L3) (LK s29l4_K L4)) (.block (.seq (cutK [1, 4, 5, 8, 9, 68] s29c6_K (s29c6 Ψ (LK s29l3_K L3) (LK s29l4_K L4)) (.reg [⟨none, [(0, false), (1, false), (2, false), (3, false), (4, false), (5, false), (6, false), (7, false), (8, false)]⟩, ⟨some (64, false), [(9, false), (10, false), (11, false)]⟩, ⟨none, [(12, false)]⟩])
 (.cond (.leaf)
 (.leaf)))
 (.seq (.seq (rA 7)
 (.cond (.seq (rA 2)
 (.leaf))
 (.leaf)))
 (.seq (rA 1)
 (.block (loopK [1, 4, 5, 8, 9, 10] s29l7_K (s29l7 Ψ (LK s29l3_K L3) (LK s29l4_K L4)) (fun L7 =>
 .seq (.seq (rA 8)
 (.cond (.leaf)
 (.leaf)))
 (.seq (.block (.seq (.draw [(0, false), (1, false), (2, false), (3, false), (4, false), (5, false), (6, false), (7, false), (8, false), (9, false), (10, false), (11, false), (12, false), (13, false), (14, false)] [0, 1, 0, 7, 15, 0, 32, 0, 224, 480, 0, 2016, 4064, 8191, 16383])
 (.cond (.seq (rA 2)
 (.leaf))
 (.leaf))))
 (rA 3)))))))))
 (rA 3)))))))
 (rA 3))))))
 (.seq (rA 3)
 (.leaf))))))))

theorem s29_ok {Ψ : AVal → Heap → Prop} {m_Up : AVal} {m_Val : AVal} {h : Heap} (H : s29 Ψ m_Up m_Val h) : ACalls prog 29 [(.agg [m_Up, m_Val])] h Ψ :=
 calls_of_evF func29 (by kernel_rfl) (by kernel_rfl) (by kernel_rfl)
 (Eq.mpr (by as_aux_lemma => kernel_rfl : oblF prog f29 (s29_A Ψ) Ψ = ((True) ∧ ((True) ∧ (((True) ∧ ((QK s29c1_K (s29c1 Ψ)) ∧ (otP 3))) ∧ ((True) ∧ ((otP 13) ∧ (((True) ∧ ((NK s29l2_K (s29l2 Ψ 0)) ∧ (∀ n2 : Nat, (QK s29l2_K (s29l2 Ψ (n2 + 1))) ∧ (otP 1739)))) ∧ (((True) ∧ ((NK s29l3_K (s29l3 Ψ 0)) ∧ (∀ n3 : Nat, (QK s29l3_K (s29l3 Ψ (n3 + 1))) ∧ ((otP 5) ∧ (((True) ∧ ((NK s29l4_K (s29l4 Ψ (s29l3_G (s29l3 Ψ n3)) 0)) ∧ (∀ n4 : Nat, (QK s29l4_K (s29l4 Ψ (s29l3_G (s29l3 Ψ n3)) (n4 + 1))) ∧ ((otP 5) ∧ ((((True) ∧ ((QK s29c6_K (s29c6 Ψ (s29l3_G (s29l3 Ψ n3)) (s29l4_G (s29l4 Ψ (s29l3_G (s29l3 Ψ n3)) n4)))) ∧ (otP 1))) ∧ ((otP 13) ∧ ((True) ∧ ((NK s29l7_K (s29l7 Ψ (s29l3_G (s29l3 Ψ n3)) (s29l4_G (s29l4 Ψ (s29l3_G (s29l3 Ψ n3)) n4)) 0)) ∧ (∀ n7 : Nat, (QK s29l7_K (s29l7 Ψ (s29l3_G (s29l3 Ψ n3)) (s29l4_G (s29l4 Ψ (s29l3_G (s29l3 Ψ n3)) n4)) (n7 + 1))) ∧ (otP 1739)))))) ∧ ((QK s29c5_K (s29c5 Ψ (s29l3_G (s29l3 Ψ n3)) (s29l4_G (s29l4 Ψ (s29l3_G (s29l3 Ψ n3)) n4)))) ∧ (True))))))) ∧ (True)))))) ∧ (otP 1))))))))) (⟨trivial, ⟨trivial, ⟨⟨trivial, ⟨oI, otP_ok 3⟩⟩, ⟨trivial, ⟨otP_ok 13, ⟨⟨trivial, ⟨fun _ _ _ _ _ H => H, fun _ => ⟨oI, otP_ok 1739⟩⟩⟩, ⟨⟨trivial, ⟨fun _ _ _ _ _ H => H, fun _ => ⟨oI, ⟨otP_ok 5, ⟨⟨trivial, ⟨fun _ _ _ _ _ _ H => H, fun _ => ⟨oI, ⟨otP_ok 5, ⟨⟨⟨trivial, ⟨oI, otP_ok 1⟩⟩, ⟨otP_ok 13, ⟨trivial, ⟨fun _ _ _ _ _ _ _ H => H, fun _ => ⟨oI, otP_ok 1739⟩⟩⟩⟩⟩, ⟨oI, trivial⟩⟩⟩⟩⟩⟩, trivial⟩⟩⟩⟩⟩, otP_ok 1⟩⟩⟩⟩⟩⟩⟩))
 (Eq.mpr (by as_aux_lemma => kernel_rfl : evF prog f29 (s29_A Ψ) Ψ [(.agg [m_Up, m_Val])] h = s29 Ψ m_Up m_Val h) H)

/- 31 slices.Sort[[]string,string] -/
def s31 (Ψ : AVal → Heap → Prop) (x : AVal) (h : Heap) : Prop :=
 lenN x fun n =>
 callG prog 67 [(.int .u64 (IntKind.u64.wrap n))] h fun v h_ =>
 tInt .i64 v fun v1 =>
 callG prog 66 [x, (.int .i64 0), (.int .i64 n), (.int .i64 v1)] h_ fun v2 h_1 =>
 retG (.tuple []) h_1 Ψ

def s31_A (Ψ : AVal → Heap → Prop) : Ann :=
 .seq (rA 3)
 (rA 6)

theorem s31_ok {Ψ : AVal → Heap → Prop} {x : AVal} {h : Heap} (H : s31 Ψ x h) : ACalls prog 31 [x] h Ψ :=
 calls_of_evF func31 (by kernel_rfl) (by kernel_rfl) (by kernel_rfl)
 (Eq.mpr (by as_aux_lemma => kernel_rfl : oblF prog f31 (s31_A Ψ) Ψ = (otP 1)) (otP_ok 1))
 (Eq.mpr (by as_aux_lemma => kernel_rfl : evF prog f31 (s31_A Ψ) Ψ [x] h = s31 Ψ x h) H)

/- 33 dictum/dictumref23.put -/
abbrev s33l1_T := AVal → ByteArray → AVal → Bool → Int → Heap → Prop
abbrev s33l1_K : List Kd := [.any, .str, .any, .bool, .int .i64]
def s33l1_G (F : s33l1_T) : s33l1_T := GK s33l1_K F
def s33l1_E (F : Nat → s33l1_T) : s33l1_T := EK s33l1_K F
theorem s33l1_go {F : s33l1_T} {x0 : AVal} {x1 : ByteArray} {x2 : AVal} {x3 : Bool} {x4 : Int} {h : Heap} (H : F x0 x1 x2 x3 x4 h) : s33l1_G F x0 x1 x2 x3 x4 h := gJ_plain rfl H
theorem s33l1_in {F : Nat → s33l1_T} {x0 : AVal} {x1 : ByteArray} {x2 : AVal} {x3 : Bool} {x4 : Int} {h : Heap} (n : Nat) (H : F n x0 x1 x2 x3 x4 h) : s33l1_E F x0 x1 x2 x3 x4 h := gJ_plain rfl ⟨n, H⟩

abbrev s33c2_K : List Kd := [.any, .str, .any, .bool, .int .i64]
def s33c2 (Ψ : AVal → Heap → Prop) (L1 : s33l1_T) (l_2 : AVal) (s2 : ByteArray) (out1 : AVal) (in_1 : Bool) (i1 : Int) (h : Heap) : Prop :=
 ixS 1 l_2 i1 fun p =>
 ld1 h p fun v =>
 tStr v fun v1 =>
 appC 1 16 h out1 (.lsl 1 [(.str v1)]) fun v2 h_ =>
 rg (i1 + 1) (
 L1 l_2 s2 v2 in_1 (i1 + 1) h_)

abbrev s33c4_K : List Kd := [.any, .str, .any, .int .i64]
def s33c4 (Ψ : AVal → Heap → Prop) (L1 : s33l1_T) (l_4 : AVal) (s4 : ByteArray) (out3 : AVal) (i3 : Int) (h : Heap) : Prop :=
 s33c2 Ψ L1 l_4 s4 out3 true i3 h

abbrev s33c3_K : List Kd := [.any, .str, .any, .bool, .int .i64, .bool]
def s33c3 (Ψ : AVal → Heap → Prop) (L1 : s33l1_T) (l_3 : AVal) (s3 : ByteArray) (out2 : AVal) (in_2 : Bool) (i2 : Int) (t23 : Bool) (h : Heap) : Prop :=
 ifT t23 (
 ixS 1 l_3 i2 fun p1 =>
 ld1 h p1 fun v3 =>
 tStr v3 fun v4 =>
 ifT (strLt s3 v4) (
 appC 1 16 h out2 (.lsl 1 [(.str s3)]) fun v5 h_1 =>
 s33c4 Ψ L1 l_3 s3 v5 i2 h_1) (
 s33c4 Ψ L1 l_3 s3 out2 i2 h)) (
 s33c2 Ψ L1 l_3 s3 out2 in_2 i2 h)

abbrev s33c5_K : List Kd := [.any]
def s33c5 (Ψ : AVal → Heap → Prop) (out4 : AVal) (h : Heap) : Prop :=
 retG out4 h Ψ

def s33l1 (Ψ : AVal → Heap → Prop) : Nat → s33l1_T
 | 0, _, _, _, _, _, _ => False
 | n + 1, l_1, s1, out, in_, i, h =>
 lenN l_1 fun n1 =>
 ifT (decide (i < n1)) (
 ifT (!in_) (
 ixS 1 l_1 i fun p2 =>
 ld1 h p2 fun v6 =>
 tStr v6 fun v7 =>
 s33c3 Ψ (s33l1_G (s33l1 Ψ n)) l_1 s1 out in_ i (strLt s1 v7 || strEq s1 v7) h) (
 s33c3 Ψ (s33l1_G (s33l1 Ψ n)) l_1 s1 out in_ i false h)) (
 ifT (!in_) (
 appC 1 16 h out (.lsl 1 [(.str s1)]) fun v8 h_2 =>
 s33c5 Ψ v8 h_2) (
 s33c5 Ψ out h))

def s33 (Ψ : AVal → Heap → Prop) (l_ : AVal) (s : ByteArray) (h : Heap) : Prop :=
 s33l1_E (s33l1 Ψ) l_ s .nilsl false 0 h

def s33_A (Ψ : AVal → Heap → Prop) : Ann :=
 .seq (rA 1)
 (.seq (rA 1)
 (.seq (rA 1)
 (.seq (.seq (rA 1)
 (.block (loopK [0, 1, 5, 6, 7] s33l1_K (s33l1 Ψ) (fun L1 =>
 .seq (.seq (rA 4)
 (.cond (.leaf)
 (.leaf)))
 (.seq (.block (cutK [0, 1, 5, 6, 7] s33c2_K (s33c2 Ψ (LK s33l1_K L1)) (cutK [0, 1, 5, 6, 7, 23] s33c3_K (s33c3 Ψ (LK s33l1_K L1)) (.reg [⟨none, [(0, false), (1, false), (2, false)]⟩, ⟨some (16, true), [(3, false), (4, false), (5, false), (6, false), (7, false), (8, false)]⟩, ⟨none, [(9, false)]⟩])
 (.cond (cutK [0, 1, 5, 7] s33c4_K (s33c4 Ψ (LK s33l1_K L1)) (.seq (rA 6)
 (.cond (.reg [⟨none, [(0, false), (1, false), (2, true), (3, false), (4, false)]⟩])
 (.leaf)))
 (rA 1))
 (.leaf)))
 (.reg [⟨none, [(0, false), (1, false), (2, false), (3, false), (4, false), (5, true), (6, false), (7, false)]⟩])))
 (rA 3))))))
 (cutK [5] s33c5_K (s33c5 Ψ) (.seq (rA 2)
 (.cond (.reg [⟨none, [(0, false), (1, false), (2, true), (3, false), (4, false)]⟩])
 (.leaf)))
 (.seq (rA 2)
 (.leaf))))))

theorem s33_ok {Ψ : AVal → Heap → Prop} {l_ : AVal} {s : ByteArray} {h : Heap} (H : s33 Ψ l_ s h) : ACalls prog 33 [l_, (.str s)] h Ψ :=
 calls_of_evF func33 (by kernel_rfl) (by kernel_rfl) (by kernel_rfl)
 (Eq.mpr (by as_aux_lemma => kernel_rfl : oblF prog f33 (s33_A Ψ) Ψ = ((True) ∧ ((True) ∧ ((True) ∧ (((True) ∧ ((NK s33l1_K (s33l1 Ψ 0)) ∧ (∀ n1 : Nat, (QK s33l1_K (s33l1 Ψ (n1 + 1))) ∧ ((otP 5) ∧ ((((True) ∧ ((QK s33c3_K (s33c3 Ψ (s33l1_G (s33l1 Ψ n1)))) ∧ (((otP 5) ∧ ((QK s33c4_K (s33c4 Ψ (s33l1_G (s33l1 Ψ n1)))) ∧ (True))) ∧ (True)))) ∧ ((QK s33c2_K (s33c2 Ψ (s33l1_G (s33l1 Ψ n1)))) ∧ (True))) ∧ (True)))))) ∧ ((otP 5) ∧ ((QK s33c5_K (s33c5 Ψ)) ∧ (otP 1)))))))) (⟨trivial, ⟨trivial, ⟨trivial, ⟨⟨trivial, ⟨fun _ _ _ _ _ _ H => H, fun _ => ⟨oI, ⟨otP_ok 5, ⟨⟨⟨trivial, ⟨oI, ⟨⟨otP_ok 5, ⟨oI, trivial⟩⟩, trivial⟩⟩⟩, ⟨oI, trivial⟩⟩, trivial⟩⟩⟩⟩⟩, ⟨otP_ok 5, ⟨oI, otP_ok 1⟩⟩⟩⟩⟩⟩))
 (Eq.mpr (by as_aux_lemma => kernel_rfl : evF prog f33 (s33_A Ψ) Ψ [l_, (.str s)] h = s33 Ψ l_ s h) H)

/- 35 dictum/heyting.look -/
abbrev s35l2_T := AVal → AVal → AVal → AVal → AVal → AVal → Int → Int → Heap → Prop
abbrev s35l2_K : List Kd := [.any, .any, .any, .any, .any, .any, .int .i64, .int .i64]
def s35l2_G (F : s35l2_T) : s35l2_T := GK s35l2_K F
def s35l2_E (F : Nat → s35l2_T) : s35l2_T := EK s35l2_K F
theorem s35l2_go {F : s35l2_T} {x0 x1 x2 x3 x4 x5 : AVal} {x6 x7 : Int} {h : Heap} (H : F x0 x1 x2 x3 x4 x5 x6 x7 h) : s35l2_G F x0 x1 x2 x3 x4 x5 x6 x7 h := gJ_plain rfl H
theorem s35l2_in {F : Nat → s35l2_T} {x0 x1 x2 x3 x4 x5 : AVal} {x6 x7 : Int} {h : Heap} (n : Nat) (H : F n x0 x1 x2 x3 x4 x5 x6 x7 h) : s35l2_E F x0 x1 x2 x3 x4 x5 x6 x7 h := gJ_plain rfl ⟨n, H⟩

abbrev s35l3_T := AVal → AVal → AVal → AVal → AVal → AVal → Int → Int → Int → Int → Int → Heap → Prop
abbrev s35l3_K : List Kd := [.any, .any, .any, .any, .any, .any, .int .i64, .int .i64, .int .i64, .int .i64, .int .i64]
def s35l3_G (F : s35l3_T) : s35l3_T := GK s35l3_K F
def s35l3_E (F : Nat → s35l3_T) : s35l3_T := EK s35l3_K F
theorem s35l3_go {F : s35l3_T} {x0 x1 x2 x3 x4 x5 : AVal} {x6 x7 x8 x9 x10 : Int} {h : Heap} (H : F x0 x1 x2 x3 x4 x5 x6 x7 x8 x9 x10 h) : s35l3_G F x0 x1 x2 x3 x4 x5 x6 x7 x8 x9 x10 h := gJ_plain rfl H
theorem s35l3_in {F : Nat → s35l3_T} {x0 x1 x2 x3 x4 x5 : AVal} {x6 x7 x8 x9 x10 : Int} {h : Heap} (n : Nat) (H : F n x0 x1 x2 x3 x4 x5 x6 x7 x8 x9 x10 h) : s35l3_E F x0 x1 x2 x3 x4 x5 x6 x7 x8 x9 x10 h := gJ_plain rfl ⟨n, H⟩

abbrev s35l4_T := AVal → AVal → AVal → AVal → AVal → AVal → Int → Int → Int → Int → Int → Int → Int → Int → Heap → Prop
abbrev s35l4_K : List Kd := [.any, .any, .any, .any, .any, .any, .int .i64, .int .i64, .int .i64, .int .i64, .int .i64, .int .i64, .int .i64, .int .i64]
def s35l4_G (F : s35l4_T) : s35l4_T := GK s35l4_K F
def s35l4_E (F : Nat → s35l4_T) : s35l4_T := EK s35l4_K F
theorem s35l4_go {F : s35l4_T} {x0 x1 x2 x3 x4 x5 : AVal} {x6 x7 x8 x9 x10 x11 x12 x13 : Int} {h : Heap} (H : F x0 x1 x2 x3 x4 x5 x6 x7 x8 x9 x10 x11 x12 x13 h) : s35l4_G F x0 x1 x2 x3 x4 x5 x6 x7 x8 x9 x10 x11 x12 x13 h := gJ_plain rfl H
theorem s35l4_in {F : Nat → s35l4_T} {x0 x1 x2 x3 x4 x5 : AVal} {x6 x7 x8 x9 x10 x11 x12 x13 : Int} {h : Heap} (n : Nat) (H : F n x0 x1 x2 x3 x4 x5 x6 x7 x8 x9 x10 x11 x12 x13 h) : s35l4_E F x0 x1 x2 x3 x4 x5 x6 x7 x8 x9 x10 x11 x12 x13 h := gJ_plain rfl ⟨n, H⟩

def s35l4 (Ψ : AVal → Heap → Prop) (L2 : s35l2_T) (L3 : s35l3_T) : Nat → s35l4_T
 | 0, _, _, _, _, _, _, _, _, _, _, _, _, _, _, _ => False
 | n7 + 1, elems4, t4_3, n6, l_22, meets2, joins2, x1, y, t49_2, t50_2, t53_1, t54_1, t57, t58, h =>
 ifT (decide (t58 < t57)) (
 ixS 1 meets2 x1 fun p =>
 ld1 h p fun v28 =>
 ixS 1 joins2 y fun p1 =>
 ld1 h p1 fun v29 =>
 ixS 1 v29 t58 fun p2 =>
 ld1 h p2 fun v30 =>
 tInt .i64 v30 fun v31 =>
 ixS 1 v28 v31 fun p3 =>
 ld1 h p3 fun v32 =>
 tInt .i64 v32 fun v33 =>
 ixS 1 meets2 x1 fun p4 =>
 ld1 h p4 fun v34 =>
 ixS 1 v34 y fun p5 =>
 ld1 h p5 fun v35 =>
 tInt .i64 v35 fun v36 =>
 ixS 1 joins2 v36 fun p6 =>
 ld1 h p6 fun v37 =>
 ixS 1 meets2 x1 fun p7 =>
 ld1 h p7 fun v38 =>
 ixS 1 v38 t58 fun p8 =>
 ld1 h p8 fun v39 =>
 tInt .i64 v39 fun v40 =>
 ixS 1 v37 v40 fun p9 =>
 ld1 h p9 fun v41 =>
 tInt .i64 v41 fun v42 =>
 ifT (v33 != v42) (
 ldN 2 h l_22 fun l_23 =>
 tCons l_23 fun v43 l_24 =>
 tInt .i64 v43 fun v44 =>
 tCons l_24 fun v45 l_25 =>
 tNil l_25 (
 st false h t4_3 [(.int .i64 v44), v45] fun h_8 =>
 ldN 2 h_8 t4_3 fun l_26 =>
 tCons l_26 fun v46 l_27 =>
 tInt .i64 v46 fun v47 =>
 tCons l_27 fun v48 l_28 =>
 tNil l_28 (
 retG (.tuple [(.agg [(.int .i64 v47), v48]), (.int .i64 230)]) h_8 Ψ))) (
 rg (t58 + 1) (
 s35l4_G (s35l4 Ψ L2 L3 n7) elems4 t4_3 n6 l_22 meets2 joins2 x1 y t49_2 t50_2 t53_1 t54_1 t57 (t58 + 1) h))) (
 rg (t54_1 + 1) (
 L3 elems4 t4_3 n6 l_22 meets2 joins2 x1 t49_2 t50_2 t53_1 (t54_1 + 1) h))

def s35l3 (Ψ : AVal → Heap → Prop) (L2 : s35l2_T) : Nat → s35l3_T
 | 0, _, _, _, _, _, _, _, _, _, _, _, _ => False
 | n5 + 1, elems3, t4_2, n4, l_21, meets1, joins1, x, t49_1, t50_1, t53, t54, h =>
 ifT (decide (t54 < t53)) (
 ld1 h n4 fun v26 =>
 tInt .i64 v26 fun v27 =>
 s35l4_E (s35l4 Ψ L2 (s35l3_G (s35l3 Ψ L2 n5))) elems3 t4_2 n4 l_21 meets1 joins1 x t54 t49_1 t50_1 t53 t54 v27 0 h) (
 rg (t50_1 + 1) (
 L2 elems3 t4_2 n4 l_21 meets1 joins1 t49_1 (t50_1 + 1) h))

abbrev s35l5_T := AVal → AVal → AVal → AVal → Int → Int → Heap → Prop
abbrev s35l5_K : List Kd := [.any, .any, .any, .any, .int .i64, .int .i64]
def s35l5_G (F : s35l5_T) : s35l5_T := GK s35l5_K F
def s35l5_E (F : Nat → s35l5_T) : s35l5_T := EK s35l5_K F
theorem s35l5_go {F : s35l5_T} {x0 x1 x2 x3 : AVal} {x4 x5 : Int} {h : Heap} (H : F x0 x1 x2 x3 x4 x5 h) : s35l5_G F x0 x1 x2 x3 x4 x5 h := gJ_plain rfl H
theorem s35l5_in {F : Nat → s35l5_T} {x0 x1 x2 x3 : AVal} {x4 x5 : Int} {h : Heap} (n : Nat) (H : F n x0 x1 x2 x3 x4 x5 h) : s35l5_E F x0 x1 x2 x3 x4 x5 h := gJ_plain rfl ⟨n, H⟩

abbrev s35c6_K : List Kd := [.any, .any, .any, .any, .int .i64, .int .i64, .bool]
def s35c6 (Ψ : AVal → Heap → Prop) (L5 : s35l5_T) (t4_5 n13 l_30 t98_1 : AVal) (t99_1 t100_1 : Int) (t110 : Bool) (h : Heap) : Prop :=
 ifT t110 (
 ldN 2 h l_30 fun l_31 =>
 tCons l_31 fun v51 l_32 =>
 tInt .i64 v51 fun v52 =>
 tCons l_32 fun v53 l_33 =>
 tNil l_33 (
 st false h t4_5 [(.int .i64 v52), v53] fun h_9 =>
 ldN 2 h_9 t4_5 fun l_34 =>
 tCons l_34 fun v54 l_35 =>
 tInt .i64 v54 fun v55 =>
 tCons l_35 fun v56 l_36 =>
 tNil l_36 (
 retG (.tuple [(.agg [(.int .i64 v55), v56]), (.int .i64 2)]) h_9 Ψ))) (
 rg (t100_1 + 1) (
 L5 t4_5 n13 l_30 t98_1 t99_1 (t100_1 + 1) h))

def s35l5 (Ψ : AVal → Heap → Prop) : Nat → s35l5_T
 | 0, _, _, _, _, _, _, _ => False
 | n12 + 1, t4_4, n11, l_29, t98, t99, t100, h =>
 ifT (decide (t100 < t99)) (
 ixS 1 t98 t100 fun p10 =>
 ld1 h p10 fun v49 =>
 tInt .i64 v49 fun v50 =>
 ifT (decide (v50 < 0)) (
 s35c6 Ψ (s35l5_G (s35l5 Ψ n12)) t4_4 n11 l_29 t98 t99 t100 true h) (
 ld1 h n11 fun v57 =>
 tInt .i64 v57 fun v58 =>
 s35c6 Ψ (s35l5_G (s35l5 Ψ n12)) t4_4 n11 l_29 t98 t99 t100 (decide (v58 ≤ v50)) h)) (
 ldN 2 h l_29 fun l_37 =>
 tCons l_37 fun v59 l_38 =>
 tInt .i64 v59 fun v60 =>
 tCons l_38 fun v61 l_39 =>
 tNil l_39 (
 st false h t4_4 [(.int .i64 v60), v61] fun h_10 =>
 ldN 2 h_10 t4_4 fun l_40 =>
 tCons l_40 fun v62 l_41 =>
 tInt .i64 v62 fun v63 =>
 tCons l_41 fun v64 l_42 =>
 tNil l_42 (
 retG (.tuple [(.agg [(.int .i64 v63), v64]), (.int .i64 0)]) h_10 Ψ)))

def s35l2 (Ψ : AVal → Heap → Prop) : Nat → s35l2_T
 | 0, _, _, _, _, _, _, _, _, _ => False
 | n3 + 1, elems2, t4_1, n2, l_20, meets, joins, t49, t50, h =>
 ifT (decide (t50 < t49)) (
 ld1 h n2 fun v24 =>
 tInt .i64 v24 fun v25 =>
 s35l3_E (s35l3 Ψ (s35l2_G (s35l2 Ψ n3))) elems2 t4_1 n2 l_20 meets joins t50 t49 t50 v25 0 h) (
 lenN elems2 fun n10 =>
 s35l5_E (s35l5 Ψ) t4_1 n2 l_20 elems2 n10 0 h)

abbrev s35c1_K : List Kd := [.any, .any, .any, .any, .bool]
def s35c1 (Ψ : AVal → Heap → Prop) (elems1 t4 n1 l_ : AVal) (t38 : Bool) (h : Heap) : Prop :=
 ifT t38 (
 ldN 2 h l_ fun l_1 =>
 tCons l_1 fun v2 l_2 =>
 tInt .i64 v2 fun v3 =>
 tCons l_2 fun v4 l_3 =>
 tNil l_3 (
 st false h t4 [(.int .i64 v3), v4] fun h_5 =>
 ldN 2 h_5 t4 fun l_4 =>
 tCons l_4 fun v5 l_5 =>
 tInt .i64 v5 fun v6 =>
 tCons l_5 fun v7 l_6 =>
 tNil l_6 (
 retG (.tuple [(.agg [(.int .i64 v6), v7]), (.int .i64 230)]) h_5 Ψ))) (
 ldN 2 h l_ fun l_7 =>
 tCons l_7 fun v8 l_8 =>
 tInt .i64 v8 fun v9 =>
 tCons l_8 fun v10 l_9 =>
 tNil l_9 (
 callG prog 73 [(.agg [(.int .i64 v9), v10])] h fun v11 h_6 =>
 tTup v11 fun l_10 =>
 tCons l_10 fun v12 l_11 =>
 tCons l_11 fun v13 l_12 =>
 tCons l_12 fun v14 l_13 =>
 tBool v14 fun v15 =>
 tNil l_13 (
 ifT (!v15) (
 ldN 2 h_6 l_ fun l_14 =>
 tCons l_14 fun v16 l_15 =>
 tInt .i64 v16 fun v17 =>
 tCons l_15 fun v18 l_16 =>
 tNil l_16 (
 st false h_6 t4 [(.int .i64 v17), v18] fun h_7 =>
 ldN 2 h_7 t4 fun l_17 =>
 tCons l_17 fun v19 l_18 =>
 tInt .i64 v19 fun v20 =>
 tCons l_18 fun v21 l_19 =>
 tNil l_19 (
 retG (.tuple [(.agg [(.int .i64 v20), v21]), (.int .i64 230)]) h_7 Ψ))) (
 ld1 h_6 n1 fun v22 =>
 tInt .i64 v22 fun v23 =>
 s35l2_E (s35l2 Ψ) elems1 t4 n1 l_ v12 v13 v23 0 h_6))))

def s35 (Ψ : AVal → Heap → Prop) (a_Leq : AVal) (elems : AVal) (h : Heap) : Prop :=
 Sym.newRow 2 [(.agg [(.int .i64 0), .nilfunc])] h fun r h_ =>
 lenN a_Leq fun n =>
 Sym.newRow 1 [(.int .i64 0)] h_ fun r1 h_1 =>
 st true h_1 (.ptr r1 0 0) [(.int .i64 n)] fun h_2 =>
 ld1 h_2 (.ptr r1 0 0) fun v =>
 tInt .i64 v fun v1 =>
 Sym.newRow 2 [(.agg [(.int .i64 0), .nilfunc])] h_2 fun r2 h_3 =>
 st false h_3 (.ptr r2 0 0) [(.int .i64 v1), (.func (.func 69) [] [(.lptr [a_Leq])])] fun h_4 =>
 ld1 h_4 (.ptr r1 0 0) fun v65 =>
 tInt .i64 v65 fun v66 =>
 ifT (decide (v66 < 1)) (
 s35c1 Ψ elems (.ptr r 0 0) (.ptr r1 0 0) (.ptr r2 0 0) true h_4) (
 ld1 h_4 (.ptr r1 0 0) fun v67 =>
 tInt .i64 v67 fun v68 =>
 ifT (decide (64 < v68)) (
 s35c1 Ψ elems (.ptr r 0 0) (.ptr r1 0 0) (.ptr r2 0 0) true h_4) (
 callG prog 70 [a_Leq, (.func (.func 71) [] [(.ptr r1 0 0)])] h_4 fun v69 h_11 =>
 tBool v69 fun v70 =>
 ifT v70 (
 s35c1 Ψ elems (.ptr r 0 0) (.ptr r1 0 0) (.ptr r2 0 0) true h_11) (
 ldN 2 h_11 (.ptr r2 0 0) fun l_43 =>
 tCons l_43 fun v71 l_44 =>
 tInt .i64 v71 fun v72 =>
 tCons l_44 fun v73 l_45 =>
 tNil l_45 (
 callG prog 72 [(.agg [(.int .i64 v72), v73])] h_11 fun v74 h_12 =>
 tBool v74 fun v75 =>
 s35c1 Ψ elems (.ptr r 0 0) (.ptr r1 0 0) (.ptr r2 0 0) (!v75) h_12))))

def s35_A (Ψ : AVal → Heap → Prop) : Ann :=
 .seq (.reg [⟨none, [(0, true), (1, false), (2, false)]⟩])
 (.seq (rA 5)
 (.seq (rA 5)
 (.seq (cutK [1, 4, 6, 7, 38] s35c1_K (s35c1 Ψ) (.reg [⟨none, [(0, false), (1, false), (2, false)]⟩, ⟨some (24, false), [(3, false), (4, false)]⟩, ⟨none, [(5, false), (6, false)]⟩, ⟨some (28, false), [(7, false), (8, false), (9, false), (10, false)]⟩, ⟨none, [(11, false), (12, false)]⟩, ⟨some (34, false), [(13, false), (14, false), (15, false)]⟩, ⟨none, [(16, false)]⟩])
 (.cond (.seq (rA 3)
 (.leaf))
 (.leaf)))
 (.seq (rA 9)
 (.seq (.seq (rA 2)
 (.cond (.seq (rA 3)
 (.leaf))
 (.leaf)))
 (.seq (.seq (rA 2)
 (.block (loopK [1, 4, 6, 7, 8, 9, 49, 50] s35l2_K (s35l2 Ψ) (fun L2 =>
 .seq (rA 1)
 (.seq (.cond (.leaf)
 (.leaf))
 (.seq (.block (.seq (rA 2)
 (.seq (rA 2)
 (.block (loopK [1, 4, 6, 7, 8, 9, 11, 49, 50, 53, 54] s35l3_K (s35l3 Ψ (LK s35l2_K L2)) (fun L3 =>
 .seq (rA 1)
 (.seq (.cond (.leaf)
 (.leaf))
 (.seq (.block (.seq (rA 2)
 (.seq (rA 2)
 (.block (loopK [1, 4, 6, 7, 8, 9, 11, 12, 49, 50, 53, 54, 57, 58] s35l4_K (s35l4 Ψ (LK s35l2_K L2) (LK s35l3_K L3)) (fun L4 =>
 .seq (rA 1)
 (.seq (.cond (.leaf)
 (.leaf))
 (.seq (.block (.seq (rA 2)
 (.seq (.draw [(0, false), (1, false), (2, false), (3, false), (4, false), (5, false), (6, false), (7, false), (8, false), (9, false), (10, false), (11, false), (12, false), (13, false), (14, false), (15, false), (16, false), (17, false), (18, false), (19, false), (20, false), (21, false), (22, false), (23, false), (24, false), (25, false), (26, false), (27, false), (28, false), (29, false), (30, false), (31, false), (32, false)] [0, 0, 3, 7, 0, 0, 48, 112, 0, 496, 1008, 2047, 4095, 0, 0, 0, 49152, 114688, 0, 507904, 1032192, 2088960, 4186112, 0, 0, 25165824, 58720256, 0, 260046848, 528482304, 1073733632, 2147475456, 4294967295])
 (.cond (.seq (rA 3)
 (.leaf))
 (.leaf)))))
 (rA 2)))))))))
 (rA 2)))))))))
 (rA 2)))))))
 (.seq (.seq (rA 3)
 (.block (loopK [4, 6, 7, 98, 99, 100] s35l5_K (s35l5 Ψ) (fun L5 =>
 .seq (rA 1)
 (.seq (.cond (.leaf)
 (.leaf))
 (.seq (.block (.seq (rA 3)
 (cutK [4, 6, 7, 98, 99, 100, 110] s35c6_K (s35c6 Ψ (LK s35l5_K L5)) (.reg [⟨none, [(0, false), (1, false), (2, false)]⟩, ⟨some (106, false), [(3, false), (4, false), (5, false)]⟩, ⟨none, [(6, false)]⟩])
 (.cond (.seq (rA 3)
 (.leaf))
 (.leaf)))))
 (rA 2)))))))
 (.seq (rA 3)
 (.leaf)))))))))

theorem s35_ok {Ψ : AVal → Heap → Prop} {a_Leq : AVal} {elems : AVal} {h : Heap} (H : s35 Ψ a_Leq elems h) : ACalls prog 35 [(.agg [a_Leq]), elems] h Ψ :=
 calls_of_evF func35 (by kernel_rfl) (by kernel_rfl) (by kernel_rfl)
 (Eq.mpr (by as_aux_lemma => kernel_rfl : oblF prog f35 (s35_A Ψ) Ψ = ((True) ∧ ((True) ∧ ((True) ∧ (((True) ∧ ((QK s35c1_K (s35c1 Ψ)) ∧ (otP 3))) ∧ ((True) ∧ ((otP 13) ∧ (((True) ∧ ((NK s35l2_K (s35l2 Ψ 0)) ∧ (∀ n2 : Nat, (QK s35l2_K (s35l2 Ψ (n2 + 1))) ∧ ((True) ∧ ((otP 1) ∧ (((True) ∧ ((True) ∧ ((NK s35l3_K (s35l3 Ψ (s35l2_G (s35l2 Ψ n2)) 0)) ∧ (∀ n3 : Nat, (QK s35l3_K (s35l3 Ψ (s35l2_G (s35l2 Ψ n2)) (n3 + 1))) ∧ ((True) ∧ ((otP 1) ∧ (((True) ∧ ((True) ∧ ((NK s35l4_K (s35l4 Ψ (s35l2_G (s35l2 Ψ n2)) (s35l3_G (s35l3 Ψ (s35l2_G (s35l2 Ψ n2)) n3)) 0)) ∧ (∀ n4 : Nat, (QK s35l4_K (s35l4 Ψ (s35l2_G (s35l2 Ψ n2)) (s35l3_G (s35l3 Ψ (s35l2_G (s35l2 Ψ n2)) n3)) (n4 + 1))) ∧ (otP 6861))))) ∧ (True)))))))) ∧ (True))))))) ∧ (((True) ∧ ((NK s35l5_K (s35l5 Ψ 0)) ∧ (∀ n5 : Nat, (QK s35l5_K (s35l5 Ψ (n5 + 1))) ∧ ((True) ∧ ((otP 1) ∧ (((True) ∧ ((True) ∧ ((QK s35c6_K (s35c6 Ψ (s35l5_G (s35l5 Ψ n5)))) ∧ (otP 3)))) ∧ (True))))))) ∧ (otP 1)))))))))) (⟨trivial, ⟨trivial, ⟨trivial, ⟨⟨trivial, ⟨oI, otP_ok 3⟩⟩, ⟨trivial, ⟨otP_ok 13, ⟨⟨trivial, ⟨fun _ _ _ _ _ _ _ _ _ H => H, fun _ => ⟨oI, ⟨trivial, ⟨otP_ok 1, ⟨⟨trivial, ⟨trivial, ⟨fun _ _ _ _ _ _ _ _ _ _ _ _ H => H, fun _ => ⟨oI, ⟨trivial, ⟨otP_ok 1, ⟨⟨trivial, ⟨trivial, ⟨fun _ _ _ _ _ _ _ _ _ _ _ _ _ _ _ H => H, fun _ => ⟨oI, otP_ok 6861⟩⟩⟩⟩, trivial⟩⟩⟩⟩⟩⟩⟩, trivial⟩⟩⟩⟩⟩⟩, ⟨⟨trivial, ⟨fun _ _ _ _ _ _ _ H => H, fun _ => ⟨oI, ⟨trivial, ⟨otP_ok 1, ⟨⟨trivial, ⟨trivial, ⟨oI, otP_ok 3⟩⟩⟩, trivial⟩⟩⟩⟩⟩⟩, otP_ok 1⟩⟩⟩⟩⟩⟩⟩⟩))
 (Eq.mpr (by as_aux_lemma => kernel_rfl : evF prog f35 (s35_A Ψ) Ψ [(.agg [a_Leq]), elems] h = s35 Ψ a_Leq elems h) H)

/- 37 (dictum/heyting.lattice).join -/
def s37 (Ψ : AVal → Heap → Prop) (l_n : Int) (l_leq : AVal) (x : Int) (y : Int) (h : Heap) : Prop :=
 callG prog 75 [(.int .i64 l_n), (.func (.func 78) [] [(.lptr [(.int .i64 l_n), l_leq]), (.lptr [(.int .i64 x)]), (.lptr [(.int .i64 y)])]), (.func (.func 76) [(.agg [(.int .i64 l_n), l_leq])] [])] h fun v h_ =>
 tTup v fun l_ =>
 tCons l_ fun v1 l_1 =>
 tInt .i64 v1 fun v2 =>
 tCons l_1 fun v3 l_2 =>
 tBool v3 fun v4 =>
 tNil l_2 (
 retG (.tuple [(.int .i64 v2), (.bool v4)]) h_ Ψ)

def s37_A (Ψ : AVal → Heap → Prop) : Ann :=
 .seq (.reg [⟨none, [(0, true), (1, true), (2, true), (3, false), (4, false)]⟩])
 (.seq (rA 10)
 (.leaf))

theorem s37_ok {Ψ : AVal → Heap → Prop} {l_n : Int} {l_leq : AVal} {x : Int} {y : Int} {h : Heap} (H : s37 Ψ l_n l_leq x y h) : ACalls prog 37 [(.agg [(.int .i64 l_n), l_leq]), (.int .i64 x), (.int .i64 y)] h Ψ :=
 calls_of_evF func37 (by kernel_rfl) (by kernel_rfl) (by kernel_rfl)
 (Eq.mpr (by as_aux_lemma => kernel_rfl : oblF prog f37 (s37_A Ψ) Ψ = (otP 5)) (otP_ok 5))
 (Eq.mpr (by as_aux_lemma => kernel_rfl : evF prog f37 (s37_A Ψ) Ψ [(.agg [(.int .i64 l_n), l_leq]), (.int .i64 x), (.int .i64 y)] h = s37 Ψ l_n l_leq x y h) H)

/- 39 dictum/dictumref23.Of -/
abbrev s39l1_T := AVal → Int → AVal → Int → Heap → Prop
abbrev s39l1_K : List Kd := [.any, .int .i64, .any, .int .i64]
def s39l1_G (F : s39l1_T) : s39l1_T := GK s39l1_K F
def s39l1_E (F : Nat → s39l1_T) : s39l1_T := EK s39l1_K F
theorem s39l1_in {F : Nat → s39l1_T} {x0 : AVal} {x1 : Int} {x2 : AVal} {x3 : Int} {h : Heap} (n : Nat) (H : F n x0 x1 x2 x3 h) : s39l1_E F x0 x1 x2 x3 h := gJ_plain rfl ⟨n, H⟩

abbrev s39l2_T := AVal → Int → AVal → Int → AVal → AVal → Int → Heap → Prop
abbrev s39l2_K : List Kd := [.any, .int .i64, .any, .int .i64, .any, .any, .int .i64]
def s39l2_G (F : s39l2_T) : s39l2_T := GK s39l2_K F
def s39l2_E (F : Nat → s39l2_T) : s39l2_T := EK s39l2_K F
theorem s39l2_go {F : s39l2_T} {x0 : AVal} {x1 : Int} {x2 : AVal} {x3 : Int} {x4 x5 : AVal} {x6 : Int} {h : Heap} (H : F x0 x1 x2 x3 x4 x5 x6 h) : s39l2_G F x0 x1 x2 x3 x4 x5 x6 h := gJ_plain rfl H
theorem s39l2_in {F : Nat → s39l2_T} {x0 : AVal} {x1 : Int} {x2 : AVal} {x3 : Int} {x4 x5 : AVal} {x6 : Int} {h : Heap} (n : Nat) (H : F n x0 x1 x2 x3 x4 x5 x6 h) : s39l2_E F x0 x1 x2 x3 x4 x5 x6 h := gJ_plain rfl ⟨n, H⟩

abbrev s39c3_K : List Kd := [.any, .int .i64, .any, .int .i64, .any, .any, .int .i64, .int .i64, .int .i64, .bool]
def s39c3 (Ψ : AVal → Heap → Prop) (L1 : s39l1_T) (L2 : s39l2_T) (l_2 : AVal) (n5 : Int) (h_6 : AVal) (x2 : Int) (met1 join1 : AVal) (y1 m j : Int) (t49 : Bool) (h : Heap) : Prop :=
 ifT t49 (
 retG (.tuple [.nilptr, (.bool false)]) h Ψ) (
 appC 1 8 h met1 (.lsl 1 [(.int .i64 m)]) fun v6 h_7 =>
 appC 1 8 h_7 join1 (.lsl 1 [(.int .i64 j)]) fun v7 h_8 =>
 rg (y1 + 1) (
 L2 l_2 n5 h_6 x2 v6 v7 (y1 + 1) h_8))

def s39l2 (Ψ : AVal → Heap → Prop) (L1 : s39l1_T) : Nat → s39l2_T
 | 0, _, _, _, _, _, _, _, _ => False
 | n4 + 1, l_1, n3, h_3, x1, met, join, y, h =>
 ifT (decide (y < n3)) (
 callG prog 87 [l_1, (.int .i64 x1), (.int .i64 y), (.bool true)] h fun v2 h_4 =>
 tInt .i64 v2 fun v3 =>
 callG prog 87 [l_1, (.int .i64 x1), (.int .i64 y), (.bool false)] h_4 fun v4 h_5 =>
 tInt .i64 v4 fun v5 =>
 ifT (decide (v3 < 0)) (
 s39c3 Ψ L1 (s39l2_G (s39l2 Ψ L1 n4)) l_1 n3 h_3 x1 met join y v3 v5 true h_5) (
 s39c3 Ψ L1 (s39l2_G (s39l2 Ψ L1 n4)) l_1 n3 h_3 x1 met join y v3 v5 (decide (v5 < 0)) h_5)) (
 nilCheckA h_3 fun p =>
 addOff p 1 fun p1 =>
 ld1 h p1 fun v8 =>
 chk (sc met) (
 appC 1 24 h v8 (.lsl 1 [met]) fun v9 h_9 =>
 nilCheckA h_3 fun p2 =>
 addOff p2 1 fun p3 =>
 chk (sc v9) (
 st true h_9 p3 [v9] fun h_10 =>
 nilCheckA h_3 fun p4 =>
 addOff p4 2 fun p5 =>
 ld1 h_10 p5 fun v10 =>
 chk (sc join) (
 appC 1 24 h_10 v10 (.lsl 1 [join]) fun v11 h_11 =>
 nilCheckA h_3 fun p6 =>
 addOff p6 2 fun p7 =>
 chk (sc v11) (
 st true h_11 p7 [v11] fun h_12 =>
 rg (x1 + 1) (
 L1 l_1 n3 h_3 (x1 + 1) h_12))))))

abbrev s39l4_T := Int → AVal → Int → Heap → Prop
abbrev s39l4_K : List Kd := [.int .i64, .any, .int .i64]
def s39l4_G (F : s39l4_T) : s39l4_T := GK s39l4_K F
def s39l4_E (F : Nat → s39l4_T) : s39l4_T := EK s39l4_K F
theorem s39l4_go {F : s39l4_T} {x0 : Int} {x1 : AVal} {x2 : Int} {h : Heap} (H : F x0 x1 x2 h) : s39l4_G F x0 x1 x2 h := gJ_plain rfl H
abbrev s39l5_T := Int → AVal → Int → Int → Heap → Prop
abbrev s39l5_K : List Kd := [.int .i64, .any, .int .i64, .int .i64]
def s39l5_G (F : s39l5_T) : s39l5_T := GK s39l5_K F
def s39l5_E (F : Nat → s39l5_T) : s39l5_T := EK s39l5_K F
theorem s39l5_go {F : s39l5_T} {x0 : Int} {x1 : AVal} {x2 x3 : Int} {h : Heap} (H : F x0 x1 x2 x3 h) : s39l5_G F x0 x1 x2 x3 h := gJ_plain rfl H
theorem s39l5_in {F : Nat → s39l5_T} {x0 : Int} {x1 : AVal} {x2 x3 : Int} {h : Heap} (n : Nat) (H : F n x0 x1 x2 x3 h) : s39l5_E F x0 x1 x2 x3 h := gJ_plain rfl ⟨n, H⟩

abbrev s39l6_T := Int → AVal → Int → Int → Int → Heap → Prop
abbrev s39l6_K : List Kd := [.int .i64, .any, .int .i64, .int .i64, .int .i64]
def s39l6_G (F : s39l6_T) : s39l6_T := GK s39l6_K F
def s39l6_E (F : Nat → s39l6_T) : s39l6_T := EK s39l6_K F
theorem s39l6_go {F : s39l6_T} {x0 : Int} {x1 : AVal} {x2 x3 x4 : Int} {h : Heap} (H : F x0 x1 x2 x3 x4 h) : s39l6_G F x0 x1 x2 x3 x4 h := gJ_plain rfl H
theorem s39l6_in {F : Nat → s39l6_T} {x0 : Int} {x1 : AVal} {x2 x3 x4 : Int} {h : Heap} (n : Nat) (H : F n x0 x1 x2 x3 x4 h) : s39l6_E F x0 x1 x2 x3 x4 h := gJ_plain rfl ⟨n, H⟩

def s39l6 (Ψ : AVal → Heap → Prop) (L4 : s39l4_T) (L5 : s39l5_T) : Nat → s39l6_T
 | 0, _, _, _, _, _, _ => False
 | n12 + 1, n11, h_15, x5, y3, z, h =>
 ifT (decide (z < n11)) (
 nilCheckA h_15 fun p8 =>
 addOff p8 1 fun p9 =>
 ld1 h p9 fun v12 =>
 ixS 1 v12 x5 fun p10 =>
 ld1 h p10 fun v13 =>
 nilCheckA h_15 fun p11 =>
 addOff p11 2 fun p12 =>
 ld1 h p12 fun v14 =>
 ixS 1 v14 y3 fun p13 =>
 ld1 h p13 fun v15 =>
 ixS 1 v15 z fun p14 =>
 ld1 h p14 fun v16 =>
 tInt .i64 v16 fun v17 =>
 ixS 1 v13 v17 fun p15 =>
 ld1 h p15 fun v18 =>
 tInt .i64 v18 fun v19 =>
 nilCheckA h_15 fun p16 =>
 addOff p16 2 fun p17 =>
 ld1 h p17 fun v20 =>
 nilCheckA h_15 fun p18 =>
 addOff p18 1 fun p19 =>
 ld1 h p19 fun v21 =>
 ixS 1 v21 x5 fun p20 =>
 ld1 h p20 fun v22 =>
 ixS 1 v22 y3 fun p21 =>
 ld1 h p21 fun v23 =>
 tInt .i64 v23 fun v24 =>
 ixS 1 v20 v24 fun p22 =>
 ld1 h p22 fun v25 =>
 nilCheckA h_15 fun p23 =>
 addOff p23 1 fun p24 =>
 ld1 h p24 fun v26 =>
 ixS 1 v26 x5 fun p25 =>
 ld1 h p25 fun v27 =>
 ixS 1 v27 z fun p26 =>
 ld1 h p26 fun v28 =>
 tInt .i64 v28 fun v29 =>
 ixS 1 v25 v29 fun p27 =>
 ld1 h p27 fun v30 =>
 tInt .i64 v30 fun v31 =>
 ifT (v19 != v31) (
 retG (.tuple [.nilptr, (.bool false)]) h Ψ) (
 rg (z + 1) (
 s39l6_G (s39l6 Ψ L4 L5 n12) n11 h_15 x5 y3 (z + 1) h))) (
 rg (y3 + 1) (
 L5 n11 h_15 x5 (y3 + 1) h))

def s39l5 (Ψ : AVal → Heap → Prop) (L4 : s39l4_T) : Nat → s39l5_T
 | 0, _, _, _, _, _ => False
 | n10 + 1, n9, h_14, x4, y2, h =>
 ifT (decide (y2 < n9)) (
 s39l6_E (s39l6 Ψ L4 (s39l5_G (s39l5 Ψ L4 n10))) n9 h_14 x4 y2 0 h) (
 rg (x4 + 1) (
 L4 n9 h_14 (x4 + 1) h))

def s39l4 (Ψ : AVal → Heap → Prop) : Nat → s39l4_T
 | 0, _, _, _, _ => False
 | n8 + 1, n7, h_13, x3, h =>
 ifT (decide (x3 < n7)) (
 s39l5_E (s39l5 Ψ (s39l4_G (s39l4 Ψ n8))) n7 h_13 x3 0 h) (
 retG (.tuple [h_13, (.bool true)]) h Ψ)

def s39l1 (Ψ : AVal → Heap → Prop) : Nat → s39l1_T
 | 0, _, _, _, _, _ => False
 | n2 + 1, l_, n1, h_2, x, h =>
 ifT (decide (x < n1)) (
 s39l2_E (s39l2 Ψ (s39l1_G (s39l1 Ψ n2))) l_ n1 h_2 x .nilsl .nilsl 0 h) (
 s39l4_E (s39l4 Ψ) n1 h_2 0 h)

def s39 (Ψ : AVal → Heap → Prop) (a_Leq : AVal) (h : Heap) : Prop :=
 callG prog 86 [a_Leq] h fun v h_ =>
 tBool v fun v1 =>
 ifT (!v1) (
 retG (.tuple [.nilptr, (.bool false)]) h_ Ψ) (
 lenN a_Leq fun n =>
 chk (sc a_Leq) (
 Sym.newRow 3 [(.agg [a_Leq, .nilsl, .nilsl])] h_ fun r h_1 =>
 s39l1_E (s39l1 Ψ) a_Leq n (.ptr r 0 0) 0 h_1))

def s39_A (Ψ : AVal → Heap → Prop) : Ann :=
 .seq (.reg [⟨none, [(0, true), (1, false), (2, false)]⟩])
 (.seq (rA 3)
 (.seq (.seq (rA 3)
 (.cond (.seq (rA 2)
 (.leaf))
 (.leaf)))
 (.seq (rA 3)
 (.seq (rA 4)
 (.seq (.seq (rA 1)
 (.block (loopK [4, 5, 6, 7] s39l1_K (s39l1 Ψ) (fun L1 =>
 .seq (.seq (rA 3)
 (.cond (.leaf)
 (.leaf)))
 (.seq (.block (.seq (rA 2)
 (.seq (.seq (rA 1)
 (.block (loopK [4, 5, 6, 7, 8, 9, 10] s39l2_K (s39l2 Ψ (LK s39l1_K L1)) (fun L2 =>
 .seq (.seq (rA 3)
 (.cond (.leaf)
 (.leaf)))
 (.seq (.block (.seq (rA 5)
 (.seq (rA 5)
 (.seq (cutK [4, 5, 6, 7, 8, 9, 10, 11, 12, 49] s39c3_K (s39c3 Ψ (LK s39l1_K L1) (LK s39l2_K L2)) (.reg [⟨none, [(0, false), (1, false), (2, false)]⟩, ⟨some (46, false), [(3, false), (4, false)]⟩, ⟨none, [(5, false)]⟩])
 (.cond (.seq (rA 2)
 (.leaf))
 (.leaf)))
 (.seq (.reg [⟨none, [(0, false), (1, false), (2, true), (3, false), (4, false)]⟩])
 (.reg [⟨none, [(0, false), (1, false), (2, true), (3, false), (4, false)]⟩]))))))
 (rA 3))))))
 (.seq (.reg [⟨none, [(0, false), (1, false), (2, false), (3, false), (4, false), (5, false), (6, true), (7, false), (8, false), (9, false), (10, false)]⟩])
 (.reg [⟨none, [(0, false), (1, false), (2, false), (3, false), (4, false), (5, false), (6, true), (7, false), (8, false), (9, false), (10, false)]⟩])))))
 (rA 3))))))
 (.seq (.seq (rA 1)
 (.block (loopK [5, 6, 13] s39l4_K (s39l4 Ψ) (fun L4 =>
 .seq (.seq (rA 3)
 (.cond (.leaf)
 (.leaf)))
 (.seq (.block (.seq (rA 1)
 (.block (loopK [5, 6, 13, 14] s39l5_K (s39l5 Ψ (LK s39l4_K L4)) (fun L5 =>
 .seq (.seq (rA 3)
 (.cond (.leaf)
 (.leaf)))
 (.seq (.block (.seq (rA 1)
 (.block (loopK [5, 6, 13, 14, 15] s39l6_K (s39l6 Ψ (LK s39l4_K L4) (LK s39l5_K L5)) (fun L6 =>
 .seq (.seq (rA 3)
 (.cond (.leaf)
 (.leaf)))
 (.seq (.block (.seq (.draw [(0, false), (1, false), (2, false), (3, false), (4, false), (5, false), (6, false), (7, false), (8, false), (9, false), (10, false), (11, false), (12, false), (13, false), (14, false), (15, false), (16, false), (17, false), (18, false), (19, false), (20, false), (21, false), (22, false), (23, false), (24, false), (25, false), (26, false), (27, false), (28, false), (29, false), (30, false), (31, false), (32, false), (33, false), (34, false), (35, false), (36, false), (37, false), (38, false), (39, false), (40, false), (41, false), (42, false), (43, false), (44, false), (45, false), (46, false), (47, false)] [0, 1, 3, 7, 0, 31, 63, 0, 128, 384, 896, 0, 3968, 8064, 0, 32640, 65408, 131071, 262143, 0, 524288, 1572864, 3670016, 0, 8388608, 25165824, 58720256, 0, 260046848, 528482304, 0, 2139095040, 4286578688, 8589410304, 17179344896, 0, 34359738368, 103079215104, 240518168576, 0, 1065151889408, 2164663517184, 0, 8761733283840, 17557826306048, 35184371564544, 70368743653376, 140737488355327])
 (.cond (.seq (rA 2)
 (.leaf))
 (.leaf))))
 (rA 3)))))))
 (rA 3)))))))
 (rA 3))))))
 (.seq (rA 3)
 (.leaf))))))))

theorem s39_ok {Ψ : AVal → Heap → Prop} {a_Leq : AVal} {h : Heap} (H : s39 Ψ a_Leq h) : ACalls prog 39 [(.agg [a_Leq])] h Ψ :=
 calls_of_evF func39 (by kernel_rfl) (by kernel_rfl) (by kernel_rfl)
 (Eq.mpr (by as_aux_lemma => kernel_rfl : oblF prog f39 (s39_A Ψ) Ψ = ((True) ∧ ((True) ∧ ((otP 13) ∧ ((True) ∧ ((True) ∧ (((True) ∧ ((NK s39l1_K (s39l1 Ψ 0)) ∧ (∀ n1 : Nat, (QK s39l1_K (s39l1 Ψ (n1 + 1))) ∧ ((otP 5) ∧ (((True) ∧ (((True) ∧ ((NK s39l2_K (s39l2 Ψ (s39l1_G (s39l1 Ψ n1)) 0)) ∧ (∀ n2 : Nat, (QK s39l2_K (s39l2 Ψ (s39l1_G (s39l1 Ψ n1)) (n2 + 1))) ∧ ((otP 5) ∧ (((True) ∧ ((True) ∧ (((True) ∧ ((QK s39c3_K (s39c3 Ψ (s39l1_G (s39l1 Ψ n1)) (s39l2_G (s39l2 Ψ (s39l1_G (s39l1 Ψ n1)) n2)))) ∧ (otP 3))) ∧ (otP 1)))) ∧ (True)))))) ∧ (otP 1))) ∧ (True)))))) ∧ (((True) ∧ ((NK s39l4_K (s39l4 Ψ 0)) ∧ (∀ n4 : Nat, (QK s39l4_K (s39l4 Ψ (n4 + 1))) ∧ ((otP 5) ∧ (((True) ∧ ((NK s39l5_K (s39l5 Ψ (s39l4_G (s39l4 Ψ n4)) 0)) ∧ (∀ n5 : Nat, (QK s39l5_K (s39l5 Ψ (s39l4_G (s39l4 Ψ n4)) (n5 + 1))) ∧ ((otP 5) ∧ (((True) ∧ ((NK s39l6_K (s39l6 Ψ (s39l4_G (s39l4 Ψ n4)) (s39l5_G (s39l5 Ψ (s39l4_G (s39l4 Ψ n4)) n5)) 0)) ∧ (∀ n6 : Nat, (QK s39l6_K (s39l6 Ψ (s39l4_G (s39l4 Ψ n4)) (s39l5_G (s39l5 Ψ (s39l4_G (s39l4 Ψ n4)) n5)) (n6 + 1))) ∧ (otP 1739)))) ∧ (True)))))) ∧ (True)))))) ∧ (otP 1))))))))) (⟨trivial, ⟨trivial, ⟨otP_ok 13, ⟨trivial, ⟨trivial, ⟨⟨trivial, ⟨fun _ _ _ _ _ H => H, fun _ => ⟨oI, ⟨otP_ok 5, ⟨⟨trivial, ⟨⟨trivial, ⟨fun _ _ _ _ _ _ _ _ H => H, fun _ => ⟨oI, ⟨otP_ok 5, ⟨⟨trivial, ⟨trivial, ⟨⟨trivial, ⟨oI, otP_ok 3⟩⟩, otP_ok 1⟩⟩⟩, trivial⟩⟩⟩⟩⟩, otP_ok 1⟩⟩, trivial⟩⟩⟩⟩⟩, ⟨⟨trivial, ⟨fun _ _ _ _ H => H, fun _ => ⟨oI, ⟨otP_ok 5, ⟨⟨trivial, ⟨fun _ _ _ _ _ H => H, fun _ => ⟨oI, ⟨otP_ok 5, ⟨⟨trivial, ⟨fun _ _ _ _ _ _ H => H, fun _ => ⟨oI, otP_ok 1739⟩⟩⟩, trivial⟩⟩⟩⟩⟩, trivial⟩⟩⟩⟩⟩, otP_ok 1⟩⟩⟩⟩⟩⟩⟩))
 (Eq.mpr (by as_aux_lemma => kernel_rfl : evF prog f39 (s39_A Ψ) Ψ [(.agg [a_Leq])] h = s39 Ψ a_Leq h) H)

/- 41 dictum/dictumref17.Tidy -/
abbrev s41l1_T := AVal → AVal → AVal → AVal → Int → Heap → Prop
abbrev s41l1_K : List Kd := [.any, .any, .any, .any, .int .i64]
def s41l1_G (F : s41l1_T) : s41l1_T := GK s41l1_K F
def s41l1_E (F : Nat → s41l1_T) : s41l1_T := EK s41l1_K F
theorem s41l1_in {F : Nat → s41l1_T} {x0 x1 x2 x3 : AVal} {x4 : Int} {h : Heap} (n : Nat) (H : F n x0 x1 x2 x3 x4 h) : s41l1_E F x0 x1 x2 x3 x4 h := gJ_plain rfl ⟨n, H⟩

abbrev s41l2_T := AVal → AVal → AVal → AVal → Int → AVal → Int → Heap → Prop
abbrev s41l2_K : List Kd := [.any, .any, .any, .any, .int .i64, .any, .int .i64]
def s41l2_G (F : s41l2_T) : s41l2_T := GK s41l2_K F
def s41l2_E (F : Nat → s41l2_T) : s41l2_T := EK s41l2_K F
theorem s41l2_go {F : s41l2_T} {x0 x1 x2 x3 : AVal} {x4 : Int} {x5 : AVal} {x6 : Int} {h : Heap} (H : F x0 x1 x2 x3 x4 x5 x6 h) : s41l2_G F x0 x1 x2 x3 x4 x5 x6 h := gJ_plain rfl H
theorem s41l2_in {F : Nat → s41l2_T} {x0 x1 x2 x3 : AVal} {x4 : Int} {x5 : AVal} {x6 : Int} {h : Heap} (n : Nat) (H : F n x0 x1 x2 x3 x4 x5 x6 h) : s41l2_E F x0 x1 x2 x3 x4 x5 x6 h := gJ_plain rfl ⟨n, H⟩

abbrev s41c3_K : List Kd := [.any, .any, .any, .any, .int .i64, .any, .int .i64]
def s41c3 (Ψ : AVal → Heap → Prop) (L1 : s41l1_T) (L2 : s41l2_T) (m2 t2_2 o2 out2 : AVal) (a2 : Int) (row1 : AVal) (b1 : Int) (h : Heap) : Prop :=
 rg (b1 + 1) (
 L2 m2 t2_2 o2 out2 a2 row1 (b1 + 1) h)

abbrev s41l5_T := AVal → AVal → AVal → AVal → Int → AVal → Int → Bool → Int → Heap → Prop
abbrev s41l5_K : List Kd := [.any, .any, .any, .any, .int .i64, .any, .int .i64, .bool, .int .i64]
def s41l5_G (F : s41l5_T) : s41l5_T := GK s41l5_K F
def s41l5_E (F : Nat → s41l5_T) : s41l5_T := EK s41l5_K F
theorem s41l5_go {F : s41l5_T} {x0 x1 x2 x3 : AVal} {x4 : Int} {x5 : AVal} {x6 : Int} {x7 : Bool} {x8 : Int} {h : Heap} (H : F x0 x1 x2 x3 x4 x5 x6 x7 x8 h) : s41l5_G F x0 x1 x2 x3 x4 x5 x6 x7 x8 h := gJ_plain rfl H
theorem s41l5_in {F : Nat → s41l5_T} {x0 x1 x2 x3 : AVal} {x4 : Int} {x5 : AVal} {x6 : Int} {x7 : Bool} {x8 : Int} {h : Heap} (n : Nat) (H : F n x0 x1 x2 x3 x4 x5 x6 x7 x8 h) : s41l5_E F x0 x1 x2 x3 x4 x5 x6 x7 x8 h := gJ_plain rfl ⟨n, H⟩

abbrev s41c7_K : List Kd := [.any, .any, .any, .any, .int .i64, .any, .int .i64, .bool, .int .i64]
def s41c7 (Ψ : AVal → Heap → Prop) (L1 : s41l1_T) (L2 : s41l2_T) (L5 : s41l5_T) (m6 t2_6 o6 out6 : AVal) (a6 : Int) (row5 : AVal) (b5 : Int) (next3 : Bool) (c2 : Int) (h : Heap) : Prop :=
 rg (c2 + 1) (
 L5 m6 t2_6 o6 out6 a6 row5 b5 next3 (c2 + 1) h)

abbrev s41c6_K : List Kd := [.any, .any, .any, .any, .int .i64, .any, .int .i64, .bool, .int .i64, .bool]
def s41c6 (Ψ : AVal → Heap → Prop) (L1 : s41l1_T) (L2 : s41l2_T) (L5 : s41l5_T) (m5 t2_5 o5 out5 : AVal) (a5 : Int) (row4 : AVal) (b4 : Int) (next2 : Bool) (c1 : Int) (t51 : Bool) (h : Heap) : Prop :=
 ifT t51 (
 ifT (c1 == a5) (
 s41c7 Ψ L1 L2 L5 m5 t2_5 o5 out5 a5 row4 b4 true c1 h) (
 ifT (c1 == b4) (
 s41c7 Ψ L1 L2 L5 m5 t2_5 o5 out5 a5 row4 b4 true c1 h) (
 ixS 1 o5 a5 fun p =>
 ld1 h p fun v6 =>
 ixS 1 v6 c1 fun p1 =>
 ld1 h p1 fun v7 =>
 tBool v7 fun v8 =>
 ifT (!v8) (
 s41c7 Ψ L1 L2 L5 m5 t2_5 o5 out5 a5 row4 b4 true c1 h) (
 ixS 1 o5 c1 fun p2 =>
 ld1 h p2 fun v9 =>
 ixS 1 v9 b4 fun p3 =>
 ld1 h p3 fun v10 =>
 tBool v10 fun v11 =>
 s41c7 Ψ L1 L2 L5 m5 t2_5 o5 out5 a5 row4 b4 (!v11) c1 h)))) (
 ifT next2 (
 appC 1 8 h row4 (.lsl 1 [(.int .i64 b4)]) fun v12 h_5 =>
 s41c3 Ψ L1 L2 m5 t2_5 o5 out5 a5 v12 b4 h_5) (
 s41c3 Ψ L1 L2 m5 t2_5 o5 out5 a5 row4 b4 h))

def s41l5 (Ψ : AVal → Heap → Prop) (L1 : s41l1_T) (L2 : s41l2_T) : Nat → s41l5_T
 | 0, _, _, _, _, _, _, _, _, _, _ => False
 | n4 + 1, m4, t2_4, o4, out4, a4, row3, b3, next1, c, h =>
 lenN o4 fun n5 =>
 ifT (decide (c < n5)) (
 s41c6 Ψ L1 L2 (s41l5_G (s41l5 Ψ L1 L2 n4)) m4 t2_4 o4 out4 a4 row3 b3 next1 c next1 h) (
 s41c6 Ψ L1 L2 (s41l5_G (s41l5 Ψ L1 L2 n4)) m4 t2_4 o4 out4 a4 row3 b3 next1 c false h)

abbrev s41c4_K : List Kd := [.any, .any, .any, .any, .int .i64, .any, .int .i64, .bool]
def s41c4 (Ψ : AVal → Heap → Prop) (L1 : s41l1_T) (L2 : s41l2_T) (m3 t2_3 o3 out3 : AVal) (a3 : Int) (row2 : AVal) (b2 : Int) (next : Bool) (h : Heap) : Prop :=
 s41l5_E (s41l5 Ψ L1 L2) m3 t2_3 o3 out3 a3 row2 b2 next 0 h

def s41l2 (Ψ : AVal → Heap → Prop) (L1 : s41l1_T) : Nat → s41l2_T
 | 0, _, _, _, _, _, _, _, _ => False
 | n2 + 1, m1, t2_1, o1, out1, a1, row, b, h =>
 lenN o1 fun n3 =>
 ifT (decide (b < n3)) (
 ifT (a1 != b) (
 ixS 1 o1 a1 fun p4 =>
 ld1 h p4 fun v13 =>
 ixS 1 v13 b fun p5 =>
 ld1 h p5 fun v14 =>
 tBool v14 fun v15 =>
 s41c4 Ψ L1 (s41l2_G (s41l2 Ψ L1 n2)) m1 t2_1 o1 out1 a1 row b v15 h) (
 s41c4 Ψ L1 (s41l2_G (s41l2 Ψ L1 n2)) m1 t2_1 o1 out1 a1 row b false h)) (
 addOff out1 0 fun p6 =>
 ld1 h p6 fun v16 =>
 chk (sc row) (
 appC 1 24 h v16 (.lsl 1 [row]) fun v17 h_6 =>
 addOff out1 0 fun p7 =>
 chk (sc v17) (
 st true h_6 p7 [v17] fun h_7 =>
 addOff out1 1 fun p8 =>
 ld1 h_7 p8 fun v18 =>
 addOff m1 1 fun p9 =>
 ld1 h_7 p9 fun v19 =>
 ixS 1 v19 a1 fun p10 =>
 ld1 h_7 p10 fun v20 =>
 Sym.newRow 1 [] h_7 fun r2 h_8 =>
 (ld1 h_8 p10 fun v21 =>
 v21 = v20) ∧
 (ld1 h_8 p9 fun v22 =>
 v22 = v19) ∧
 (ld1 h_8 p8 fun v23 =>
 v23 = v18) ∧
 appC 1 16 h_8 (.sl r2 1 0 0) v20 fun v24 h_9 =>
 (ld1 h_9 p8 fun v25 =>
 v25 = v18) ∧
 chk (sc v24) (
 (ld1 h_9 p8 fun v26 =>
 v26 = v18) ∧
 appC 1 24 h_9 v18 (.lsl 1 [v24]) fun v27 h_10 =>
 addOff out1 1 fun p11 =>
 chk (sc v27) (
 st true h_10 p11 [v27] fun h_11 =>
 rg (a1 + 1) (
 L1 m1 t2_1 o1 out1 (a1 + 1) h_11))))))

def s41l1 (Ψ : AVal → Heap → Prop) : Nat → s41l1_T
 | 0, _, _, _, _, _, _ => False
 | n + 1, m, t2, o, out, a, h =>
 lenN o fun n1 =>
 ifT (decide (a < n1)) (
 s41l2_E (s41l2 Ψ (s41l1_G (s41l1 Ψ n))) m t2 o out a .nilsl 0 h) (
 ldN 2 h out fun l_6 =>
 tCons l_6 fun v28 l_7 =>
 tCons l_7 fun v29 l_8 =>
 tNil l_8 (
 st false h t2 [v28, v29] fun h_12 =>
 ldN 2 h_12 t2 fun l_9 =>
 tCons l_9 fun v30 l_10 =>
 tCons l_10 fun v31 l_11 =>
 tNil l_11 (
 retG (.tuple [(.agg [v30, v31]), (.int .i64 0)]) h_12 Ψ)))

def s41 (Ψ : AVal → Heap → Prop) (m_Up : AVal) (m_Val : AVal) (h : Heap) : Prop :=
 Sym.newRow 2 [(.agg [.nilsl, .nilsl])] h fun r h_ =>
 callG prog 29 [(.agg [m_Up, m_Val])] h_ fun v h_1 =>
 tTup v fun l_ =>
 tCons l_ fun v1 l_1 =>
 tCons l_1 fun v2 l_2 =>
 tBool v2 fun v3 =>
 tNil l_2 (
 ifT (!v3) (
 st false h_1 (.ptr r 0 0) [.nilsl, .nilsl] fun h_2 =>
 ldN 2 h_2 (.ptr r 0 0) fun l_3 =>
 tCons l_3 fun v4 l_4 =>
 tCons l_4 fun v5 l_5 =>
 tNil l_5 (
 retG (.tuple [(.agg [v4, v5]), (.int .i64 170)]) h_2 Ψ)) (
 Sym.newRow 2 [(.agg [.nilsl, .nilsl])] h_1 fun r1 h_3 =>
 st false h_3 (.ptr r1 0 0) [.nilsl, .nilsl] fun h_4 =>
 s41l1_E (s41l1 Ψ) (.lptr [m_Up, m_Val]) (.ptr r 0 0) v1 (.ptr r1 0 0) 0 h_4))

def s41_A (Ψ : AVal → Heap → Prop) : Ann :=
 .seq (.reg [⟨none, [(0, true), (1, false), (2, false)]⟩])
 (.seq (rA 7)
 (.seq (.seq (rA 2)
 (.cond (.seq (rA 3)
 (.leaf))
 (.leaf)))
 (.seq (rA 3)
 (.seq (.seq (rA 1)
 (.block (loopK [1, 2, 4, 6, 7] s41l1_K (s41l1 Ψ) (fun L1 =>
 .seq (.seq (rA 4)
 (.cond (.leaf)
 (.leaf)))
 (.seq (.block (.seq (rA 1)
 (.seq (.seq (rA 1)
 (.block (loopK [1, 2, 4, 6, 7, 8, 9] s41l2_K (s41l2 Ψ (LK s41l1_K L1)) (fun L2 =>
 .seq (.seq (rA 4)
 (.cond (.leaf)
 (.leaf)))
 (cutK [1, 2, 4, 6, 7, 8, 9] s41c3_K (s41c3 Ψ (LK s41l1_K L1) (LK s41l2_K L2)) (.block (cutK [1, 2, 4, 6, 7, 8, 9, 10] s41c4_K (s41c4 Ψ (LK s41l1_K L1) (LK s41l2_K L2)) (.reg [⟨none, [(0, false), (1, false), (2, false), (3, false)]⟩, ⟨some (36, true), [(4, false), (5, false), (6, false), (7, false), (8, false), (9, false), (10, false)]⟩, ⟨none, [(11, false), (12, false)]⟩])
 (.seq (.seq (rA 1)
 (.block (loopK [1, 2, 4, 6, 7, 8, 9, 10, 11] s41l5_K (s41l5 Ψ (LK s41l1_K L1) (LK s41l2_K L2)) (fun L5 =>
 .seq (cutK [1, 2, 4, 6, 7, 8, 9, 10, 11, 51] s41c6_K (s41c6 Ψ (LK s41l1_K L1) (LK s41l2_K L2) (LK s41l5_K L5)) (.reg [⟨none, [(0, false), (1, false), (2, false), (3, false), (4, false)]⟩, ⟨some (49, true), [(5, false)]⟩, ⟨none, [(6, false)]⟩])
 (.cond (.leaf)
 (.leaf)))
 (cutK [1, 2, 4, 6, 7, 8, 9, 10, 11] s41c7_K (s41c7 Ψ (LK s41l1_K L1) (LK s41l2_K L2) (LK s41l5_K L5)) (.block (.reg [⟨none, [(0, false), (1, false), (2, false), (3, false)]⟩, ⟨some (57, false), [(4, false), (5, false), (6, false)]⟩, ⟨none, [(7, false), (8, false)]⟩, ⟨some (62, false), [(9, false), (10, false), (11, false), (12, false), (13, false), (14, false), (15, false), (16, false)]⟩, ⟨none, [(17, false), (18, false)]⟩, ⟨some (72, false), [(19, false), (20, false), (21, false), (22, false), (23, false), (24, false), (25, false), (26, false)]⟩, ⟨none, [(27, false), (28, false)]⟩]))
 (rA 3))))))
 (.seq (rA 1)
 (.cond (.reg [⟨none, [(0, false), (1, false), (2, true), (3, false), (4, false)]⟩])
 (.leaf))))))
 (rA 3))))))
 (.seq (.reg [⟨none, [(0, false), (1, false), (2, false), (3, true), (4, false), (5, false), (6, false)]⟩])
 (.draw [(0, false), (1, false), (3, false), (4, false), (5, false), (6, false), (7, false), (2, false), (8, false), (9, true), (10, false), (11, false), (12, false)] [0, 1, 0, 0, 8, 0, 56, 120, 252, 508, 1023, 2047, 4095])))))
 (rA 3))))))
 (.seq (rA 3)
 (.leaf))))))

theorem s41_ok {Ψ : AVal → Heap → Prop} {m_Up : AVal} {m_Val : AVal} {h : Heap} (H : s41 Ψ m_Up m_Val h) : ACalls prog 41 [(.agg [m_Up, m_Val])] h Ψ :=
 calls_of_evF func41 (by kernel_rfl) (by kernel_rfl) (by kernel_rfl)
 (Eq.mpr (by as_aux_lemma => kernel_rfl : oblF prog f41 (s41_A Ψ) Ψ = ((True) ∧ ((True) ∧ ((otP 13) ∧ ((True) ∧ (((True) ∧ ((NK s41l1_K (s41l1 Ψ 0)) ∧ (∀ n1 : Nat, (QK s41l1_K (s41l1 Ψ (n1 + 1))) ∧ ((otP 5) ∧ (((True) ∧ (((True) ∧ ((NK s41l2_K (s41l2 Ψ (s41l1_G (s41l1 Ψ n1)) 0)) ∧ (∀ n2 : Nat, (QK s41l2_K (s41l2 Ψ (s41l1_G (s41l1 Ψ n1)) (n2 + 1))) ∧ ((otP 5) ∧ (((True) ∧ ((QK s41c4_K (s41c4 Ψ (s41l1_G (s41l1 Ψ n1)) (s41l2_G (s41l2 Ψ (s41l1_G (s41l1 Ψ n1)) n2)))) ∧ (((True) ∧ ((NK s41l5_K (s41l5 Ψ (s41l1_G (s41l1 Ψ n1)) (s41l2_G (s41l2 Ψ (s41l1_G (s41l1 Ψ n1)) n2)) 0)) ∧ (∀ n5 : Nat, (QK s41l5_K (s41l5 Ψ (s41l1_G (s41l1 Ψ n1)) (s41l2_G (s41l2 Ψ (s41l1_G (s41l1 Ψ n1)) n2)) (n5 + 1))) ∧ (((True) ∧ ((QK s41c6_K (s41c6 Ψ (s41l1_G (s41l1 Ψ n1)) (s41l2_G (s41l2 Ψ (s41l1_G (s41l1 Ψ n1)) n2)) (s41l5_G (s41l5 Ψ (s41l1_G (s41l1 Ψ n1)) (s41l2_G (s41l2 Ψ (s41l1_G (s41l1 Ψ n1)) n2)) n5)))) ∧ (otP 1))) ∧ ((True) ∧ ((QK s41c7_K (s41c7 Ψ (s41l1_G (s41l1 Ψ n1)) (s41l2_G (s41l2 Ψ (s41l1_G (s41l1 Ψ n1)) n2)) (s41l5_G (s41l5 Ψ (s41l1_G (s41l1 Ψ n1)) (s41l2_G (s41l2 Ψ (s41l1_G (s41l1 Ψ n1)) n2)) n5)))) ∧ (True))))))) ∧ (otP 5)))) ∧ ((QK s41c3_K (s41c3 Ψ (s41l1_G (s41l1 Ψ n1)) (s41l2_G (s41l2 Ψ (s41l1_G (s41l1 Ψ n1)) n2)))) ∧ (True))))))) ∧ (otP 1))) ∧ (True)))))) ∧ (otP 1))))))) (⟨trivial, ⟨trivial, ⟨otP_ok 13, ⟨trivial, ⟨⟨trivial, ⟨fun _ _ _ _ _ _ H => H, fun _ => ⟨oI, ⟨otP_ok 5, ⟨⟨trivial, ⟨⟨trivial, ⟨fun _ _ _ _ _ _ _ _ H => H, fun _ => ⟨oI, ⟨otP_ok 5, ⟨⟨trivial, ⟨oI, ⟨⟨trivial, ⟨fun _ _ _ _ _ _ _ _ _ _ H => H, fun _ => ⟨oI, ⟨⟨trivial, ⟨oI, otP_ok 1⟩⟩, ⟨trivial, ⟨oI, trivial⟩⟩⟩⟩⟩⟩, otP_ok 5⟩⟩⟩, ⟨oI, trivial⟩⟩⟩⟩⟩⟩, otP_ok 1⟩⟩, trivial⟩⟩⟩⟩⟩, otP_ok 1⟩⟩⟩⟩⟩))
 (Eq.mpr (by as_aux_lemma => kernel_rfl : evF prog f41 (s41_A Ψ) Ψ [(.agg [m_Up, m_Val])] h = s41 Ψ m_Up m_Val h) H)

/- 43 dictum/heyting.Imp -/
def s43 (Ψ : AVal → Heap → Prop) (a_Leq : AVal) (x : Int) (y : Int) (h : Heap) : Prop :=
 callG prog 35 [(.agg [a_Leq]), (.lsl 1 [(.int .i64 x), (.int .i64 y)])] h fun v h_ =>
 tTup v fun l_ =>
 tCons l_ fun v1 l_1 =>
 tCons l_1 fun v2 l_2 =>
 tInt .i64 v2 fun v3 =>
 tNil l_2 (
 tAgg v1 fun l_3 =>
 tCons l_3 fun v4 l_4 =>
 tInt .i64 v4 fun v5 =>
 tCons l_4 fun v6 l_5 =>
 tNil l_5 (
 Sym.newRow 2 [(.agg [(.int .i64 0), .nilfunc])] h_ fun r h_1 =>
 st false h_1 (.ptr r 0 0) [(.int .i64 v5), v6] fun h_2 =>
 ifT (v3 != 0) (
 retG (.tuple [(.int .i64 0), (.int .i64 v3)]) h_2 Ψ) (
 ldN 2 h_2 (.ptr r 0 0) fun l_6 =>
 tCons l_6 fun v7 l_7 =>
 tInt .i64 v7 fun v8 =>
 tCons l_7 fun v9 l_8 =>
 tNil l_8 (
 callG prog 51 [(.agg [(.int .i64 v8), v9]), (.int .i64 x), (.int .i64 y)] h_2 fun v10 h_3 =>
 tInt .i64 v10 fun v11 =>
 retG (.tuple [(.int .i64 v11), (.int .i64 0)]) h_3 Ψ))))

def s43_A (Ψ : AVal → Heap → Prop) : Ann :=
 .seq (.reg [⟨none, [(0, true), (1, false), (2, false)]⟩])
 (.seq (.reg [⟨none, [(0, false), (1, false), (2, false), (3, true), (4, false), (5, false), (6, false), (7, false), (8, false), (9, false), (10, false)]⟩])
 (.seq (.seq (rA 2)
 (.cond (.seq (rA 3)
 (.leaf))
 (.leaf)))
 (.seq (rA 6)
 (.leaf))))

theorem s43_ok {Ψ : AVal → Heap → Prop} {a_Leq : AVal} {x : Int} {y : Int} {h : Heap} (H : s43 Ψ a_Leq x y h) : ACalls prog 43 [(.agg [a_Leq]), (.int .i64 x), (.int .i64 y)] h Ψ :=
 calls_of_evF func43 (by kernel_rfl) (by kernel_rfl) (by kernel_rfl)
 (Eq.mpr (by as_aux_lemma => kernel_rfl : oblF prog f43 (s43_A Ψ) Ψ = (otP 4533)) (otP_ok 4533))
 (Eq.mpr (by as_aux_lemma => kernel_rfl : evF prog f43 (s43_A Ψ) Ψ [(.agg [a_Leq]), (.int .i64 x), (.int .i64 y)] h = s43 Ψ a_Leq x y h) H)

/- 45 dictum/heyting.Check -/
def s45 (Ψ : AVal → Heap → Prop) (a_Leq : AVal) (h : Heap) : Prop :=
 callG prog 35 [(.agg [a_Leq]), .nilsl] h fun v h_ =>
 tTup v fun l_ =>
 tCons l_ fun v1 l_1 =>
 tCons l_1 fun v2 l_2 =>
 tInt .i64 v2 fun v3 =>
 tNil l_2 (
 tAgg v1 fun l_3 =>
 tCons l_3 fun v4 l_4 =>
 tInt .i64 v4 fun v5 =>
 tCons l_4 fun v6 l_5 =>
 tNil l_5 (
 Sym.newRow 2 [(.agg [(.int .i64 0), .nilfunc])] h_ fun r h_1 =>
 st false h_1 (.ptr r 0 0) [(.int .i64 v5), v6] fun h_2 =>
 retG (.int .i64 v3) h_2 Ψ))

def s45_A (Ψ : AVal → Heap → Prop) : Ann :=
 .seq (.reg [⟨none, [(0, true), (1, false)]⟩])
 (.seq (rA 8)
 (.seq (rA 2)
 (.leaf)))

theorem s45_ok {Ψ : AVal → Heap → Prop} {a_Leq : AVal} {h : Heap} (H : s45 Ψ a_Leq h) : ACalls prog 45 [(.agg [a_Leq])] h Ψ :=
 calls_of_evF func45 (by kernel_rfl) (by kernel_rfl) (by kernel_rfl)
 (Eq.mpr (by as_aux_lemma => kernel_rfl : oblF prog f45 (s45_A Ψ) Ψ = (otP 21)) (otP_ok 21))
 (Eq.mpr (by as_aux_lemma => kernel_rfl : evF prog f45 (s45_A Ψ) Ψ [(.agg [a_Leq])] h = s45 Ψ a_Leq h) H)

/- 50 (dictum/heyting.lattice).meet -/
def s50 (Ψ : AVal → Heap → Prop) (l_n : Int) (l_leq : AVal) (x : Int) (y : Int) (h : Heap) : Prop :=
 callG prog 75 [(.int .i64 l_n), (.func (.func 95) [] [(.lptr [(.int .i64 l_n), l_leq]), (.lptr [(.int .i64 x)]), (.lptr [(.int .i64 y)])]), (.func (.func 77) [(.agg [(.int .i64 l_n), l_leq])] [])] h fun v h_ =>
 tTup v fun l_ =>
 tCons l_ fun v1 l_1 =>
 tInt .i64 v1 fun v2 =>
 tCons l_1 fun v3 l_2 =>
 tBool v3 fun v4 =>
 tNil l_2 (
 retG (.tuple [(.int .i64 v2), (.bool v4)]) h_ Ψ)

def s50_A (Ψ : AVal → Heap → Prop) : Ann :=
 .seq (.reg [⟨none, [(0, true), (1, true), (2, true), (3, false), (4, false)]⟩])
 (.seq (rA 10)
 (.leaf))

theorem s50_ok {Ψ : AVal → Heap → Prop} {l_n : Int} {l_leq : AVal} {x : Int} {y : Int} {h : Heap} (H : s50 Ψ l_n l_leq x y h) : ACalls prog 50 [(.agg [(.int .i64 l_n), l_leq]), (.int .i64 x), (.int .i64 y)] h Ψ :=
 calls_of_evF func50 (by kernel_rfl) (by kernel_rfl) (by kernel_rfl)
 (Eq.mpr (by as_aux_lemma => kernel_rfl : oblF prog f50 (s50_A Ψ) Ψ = (otP 5)) (otP_ok 5))
 (Eq.mpr (by as_aux_lemma => kernel_rfl : evF prog f50 (s50_A Ψ) Ψ [(.agg [(.int .i64 l_n), l_leq]), (.int .i64 x), (.int .i64 y)] h = s50 Ψ l_n l_leq x y h) H)

/- 60 dictum/worlds.Above -/
def s60 (Ψ : AVal → Heap → Prop) (m_Up : AVal) (m_Val : AVal) (w : Int) (h : Heap) : Prop :=
 callG prog 79 [(.agg [m_Up, m_Val]), (.lsl 1 [(.int .i64 w)])] h fun v h_ =>
 tTup v fun l_ =>
 tCons l_ fun v1 l_1 =>
 tCons l_1 fun v2 l_2 =>
 tInt .i64 v2 fun v3 =>
 tNil l_2 (
 Sym.newRow 1 [.nilfunc] h_ fun r h_1 =>
 chk (sc v1) (
 st true h_1 (.ptr r 0 0) [v1] fun h_2 =>
 ifT (v3 != 0) (
 retG (.tuple [.nilsl, (.int .i64 v3)]) h_2 Ψ) (
 callG prog 80 [(.agg [m_Up, m_Val]), (.func (.func 101) [] [(.ptr r 0 0), (.lptr [(.int .i64 w)])])] h_2 fun v4 h_3 =>
 retG (.tuple [v4, (.int .i64 0)]) h_3 Ψ)))

def s60_A (Ψ : AVal → Heap → Prop) : Ann :=
 .seq (.reg [⟨none, [(0, true), (1, true), (2, false), (3, false)]⟩])
 (.seq (.reg [⟨none, [(0, false), (1, false), (2, true), (3, false), (4, false), (5, false), (6, false), (7, false), (8, false), (9, false)]⟩])
 (.seq (.seq (rA 2)
 (.cond (.seq (rA 3)
 (.leaf))
 (.leaf)))
 (.seq (rA 5)
 (.leaf))))

theorem s60_ok {Ψ : AVal → Heap → Prop} {m_Up : AVal} {m_Val : AVal} {w : Int} {h : Heap} (H : s60 Ψ m_Up m_Val w h) : ACalls prog 60 [(.agg [m_Up, m_Val]), (.int .i64 w)] h Ψ :=
 calls_of_evF func60 (by kernel_rfl) (by kernel_rfl) (by kernel_rfl)
 (Eq.mpr (by as_aux_lemma => kernel_rfl : oblF prog f60 (s60_A Ψ) Ψ = (otP 4533)) (otP_ok 4533))
 (Eq.mpr (by as_aux_lemma => kernel_rfl : evF prog f60 (s60_A Ψ) Ψ [(.agg [m_Up, m_Val]), (.int .i64 w)] h = s60 Ψ m_Up m_Val w h) H)

/- 63 dictum/dictumref17.Order -/
abbrev s63l1_T := AVal → Int → AVal → Int → Heap → Prop
abbrev s63l1_K : List Kd := [.any, .int .i64, .any, .int .i64]
def s63l1_G (F : s63l1_T) : s63l1_T := GK s63l1_K F
def s63l1_E (F : Nat → s63l1_T) : s63l1_T := EK s63l1_K F
theorem s63l1_in {F : Nat → s63l1_T} {x0 : AVal} {x1 : Int} {x2 : AVal} {x3 : Int} {h : Heap} (n : Nat) (H : F n x0 x1 x2 x3 h) : s63l1_E F x0 x1 x2 x3 h := gJ_plain rfl ⟨n, H⟩

abbrev s63l2_T := AVal → Int → AVal → Int → AVal → Int → Heap → Prop
abbrev s63l2_K : List Kd := [.any, .int .i64, .any, .int .i64, .any, .int .i64]
def s63l2_G (F : s63l2_T) : s63l2_T := GK s63l2_K F
def s63l2_E (F : Nat → s63l2_T) : s63l2_T := EK s63l2_K F
theorem s63l2_go {F : s63l2_T} {x0 : AVal} {x1 : Int} {x2 : AVal} {x3 : Int} {x4 : AVal} {x5 : Int} {h : Heap} (H : F x0 x1 x2 x3 x4 x5 h) : s63l2_G F x0 x1 x2 x3 x4 x5 h := gJ_plain rfl H
theorem s63l2_in {F : Nat → s63l2_T} {x0 : AVal} {x1 : Int} {x2 : AVal} {x3 : Int} {x4 : AVal} {x5 : Int} {h : Heap} (n : Nat) (H : F n x0 x1 x2 x3 x4 x5 h) : s63l2_E F x0 x1 x2 x3 x4 x5 h := gJ_plain rfl ⟨n, H⟩

abbrev s63l3_T := AVal → Int → AVal → Int → AVal → Int → AVal → Int → Heap → Prop
abbrev s63l3_K : List Kd := [.any, .int .i64, .any, .int .i64, .any, .int .i64, .any, .int .i64]
def s63l3_G (F : s63l3_T) : s63l3_T := GK s63l3_K F
def s63l3_E (F : Nat → s63l3_T) : s63l3_T := EK s63l3_K F
theorem s63l3_go {F : s63l3_T} {x0 : AVal} {x1 : Int} {x2 : AVal} {x3 : Int} {x4 : AVal} {x5 : Int} {x6 : AVal} {x7 : Int} {h : Heap} (H : F x0 x1 x2 x3 x4 x5 x6 x7 h) : s63l3_G F x0 x1 x2 x3 x4 x5 x6 x7 h := gJ_plain rfl H
theorem s63l3_in {F : Nat → s63l3_T} {x0 : AVal} {x1 : Int} {x2 : AVal} {x3 : Int} {x4 : AVal} {x5 : Int} {x6 : AVal} {x7 : Int} {h : Heap} (n : Nat) (H : F n x0 x1 x2 x3 x4 x5 x6 x7 h) : s63l3_E F x0 x1 x2 x3 x4 x5 x6 x7 h := gJ_plain rfl ⟨n, H⟩

abbrev s63c4_K : List Kd := [.any, .int .i64, .any, .int .i64, .any, .int .i64, .any, .int .i64]
def s63c4 (Ψ : AVal → Heap → Prop) (L1 : s63l1_T) (L2 : s63l2_T) (L3 : s63l3_T) (m3 : AVal) (n9 : Int) (out3 : AVal) (a3 : Int) (wait2 : AVal) (i2 : Int) (row1 : AVal) (k1 : Int) (h : Heap) : Prop :=
 rg (k1 + 1) (
 L3 m3 n9 out3 a3 wait2 i2 row1 (k1 + 1) h)

abbrev s63c5_K : List Kd := [.any, .int .i64, .any, .int .i64, .any, .int .i64, .any, .int .i64, .int .i64, .bool]
def s63c5 (Ψ : AVal → Heap → Prop) (L1 : s63l1_T) (L2 : s63l2_T) (L3 : s63l3_T) (m4 : AVal) (n10 : Int) (out4 : AVal) (a4 : Int) (wait3 : AVal) (i3 : Int) (row2 : AVal) (k2 b : Int) (t65 : Bool) (h : Heap) : Prop :=
 ifT t65 (
 retG (.tuple [.nilsl, (.bool false)]) h Ψ) (
 ixS 1 out4 a4 fun p7 =>
 ld1 h p7 fun v9 =>
 ixS 1 v9 b fun p8 =>
 ld1 h p8 fun v10 =>
 tBool v10 fun v11 =>
 ifT (!v11) (
 ixS 1 out4 a4 fun p9 =>
 ld1 h p9 fun v12 =>
 ixS 1 v12 b fun p10 =>
 st true h p10 [(.bool true)] fun h_5 =>
 appC 1 8 h_5 wait3 (.lsl 1 [(.int .i64 b)]) fun v13 h_6 =>
 s63c4 Ψ L1 L2 L3 m4 n10 out4 a4 v13 i3 row2 k2 h_6) (
 s63c4 Ψ L1 L2 L3 m4 n10 out4 a4 wait3 i3 row2 k2 h))

def s63l3 (Ψ : AVal → Heap → Prop) (L1 : s63l1_T) (L2 : s63l2_T) : Nat → s63l3_T
 | 0, _, _, _, _, _, _, _, _, _ => False
 | n7 + 1, m2, n6, out2, a2, wait1, i1, row, k, h =>
 lenN row fun n8 =>
 ifT (decide (k < n8)) (
 ixS 1 row k fun p6 =>
 ld1 h p6 fun v7 =>
 tInt .i64 v7 fun v8 =>
 ifT (decide (v8 < 0)) (
 s63c5 Ψ L1 L2 (s63l3_G (s63l3 Ψ L1 L2 n7)) m2 n6 out2 a2 wait1 i1 row k v8 true h) (
 s63c5 Ψ L1 L2 (s63l3_G (s63l3 Ψ L1 L2 n7)) m2 n6 out2 a2 wait1 i1 row k v8 (decide (n6 ≤ v8)) h)) (
 rg (i1 + 1) (
 L2 m2 n6 out2 a2 wait1 (i1 + 1) h))

def s63l2 (Ψ : AVal → Heap → Prop) (L1 : s63l1_T) : Nat → s63l2_T
 | 0, _, _, _, _, _, _, _ => False
 | n4 + 1, m1, n3, out1, a1, wait, i, h =>
 lenN wait fun n5 =>
 ifT (decide (i < n5)) (
 addOff m1 0 fun p3 =>
 ld1 h p3 fun v3 =>
 ixS 1 wait i fun p4 =>
 ld1 h p4 fun v4 =>
 tInt .i64 v4 fun v5 =>
 ixS 1 v3 v5 fun p5 =>
 ld1 h p5 fun v6 =>
 s63l3_E (s63l3 Ψ L1 (s63l2_G (s63l2 Ψ L1 n4))) m1 n3 out1 a1 wait i v6 0 h) (
 rg (a1 + 1) (
 L1 m1 n3 out1 (a1 + 1) h))

def s63l1 (Ψ : AVal → Heap → Prop) : Nat → s63l1_T
 | 0, _, _, _, _, _ => False
 | n2 + 1, m, n1, out, a, h =>
 ifT (decide (a < n1)) (
 mkS false 1 1 (.bool false) h n1 n1 fun v1 h_1 =>
 ixS 1 out a fun p =>
 chk (sc v1) (
 st true h_1 p [v1] fun h_2 =>
 ixS 1 out a fun p1 =>
 ld1 h_2 p1 fun v2 =>
 ixS 1 v2 a fun p2 =>
 st true h_2 p2 [(.bool true)] fun h_3 =>
 Sym.newRow 1 [(.int .i64 a)] h_3 fun r h_4 =>
 s63l2_E (s63l2 Ψ (s63l1_G (s63l1 Ψ n2))) m n1 out a (.sl r 1 0 1) 0 h_4)) (
 retG (.tuple [out, (.bool true)]) h Ψ)

def s63 (Ψ : AVal → Heap → Prop) (m_Up : AVal) (m_Val : AVal) (h : Heap) : Prop :=
 lenN m_Up fun n =>
 mkS false 1 24 .nilsl h n n fun v h_ =>
 s63l1_E (s63l1 Ψ) (.lptr [m_Up, m_Val]) n v 0 h_

def s63_A (Ψ : AVal → Heap → Prop) : Ann :=
 .seq (.reg [⟨none, [(0, true), (1, false), (2, false)]⟩])
 (.seq (rA 4)
 (.seq (rA 3)
 (.seq (.seq (rA 1)
 (.block (loopK [1, 4, 5, 6] s63l1_K (s63l1 Ψ) (fun L1 =>
 .seq (.seq (rA 3)
 (.cond (.leaf)
 (.leaf)))
 (.seq (.block (.seq (rA 6)
 (.seq (rA 7)
 (.seq (rA 3)
 (.seq (rA 1)
 (.block (loopK [1, 4, 5, 6, 7, 8] s63l2_K (s63l2 Ψ (LK s63l1_K L1)) (fun L2 =>
 .seq (.seq (rA 4)
 (.cond (.leaf)
 (.leaf)))
 (.seq (.block (.seq (.draw [(0, false), (1, false), (2, false), (3, false), (4, false), (5, false), (6, false), (7, false), (8, false)] [0, 1, 0, 0, 12, 28, 63, 127, 255])
 (.seq (rA 1)
 (.block (loopK [1, 4, 5, 6, 7, 8, 9, 10] s63l3_K (s63l3 Ψ (LK s63l1_K L1) (LK s63l2_K L2)) (fun L3 =>
 .seq (.seq (rA 4)
 (.cond (.leaf)
 (.leaf)))
 (cutK [1, 4, 5, 6, 7, 8, 9, 10] s63c4_K (s63c4 Ψ (LK s63l1_K L1) (LK s63l2_K L2) (LK s63l3_K L3)) (.block (.seq (rA 5)
 (.seq (cutK [1, 4, 5, 6, 7, 8, 9, 10, 11, 65] s63c5_K (s63c5 Ψ (LK s63l1_K L1) (LK s63l2_K L2) (LK s63l3_K L3)) (.reg [⟨none, [(0, false), (1, false), (2, false)]⟩, ⟨some (61, false), [(3, false), (4, false), (5, false)]⟩, ⟨none, [(6, false)]⟩])
 (.cond (.seq (rA 2)
 (.leaf))
 (.leaf)))
 (.seq (rA 8)
 (.cond (.seq (rA 7)
 (.reg [⟨none, [(0, false), (1, false), (2, true), (3, false), (4, false)]⟩]))
 (.leaf))))))
 (rA 3))))))))
 (rA 3))))))))))
 (rA 3))))))
 (.seq (rA 3)
 (.leaf)))))

theorem s63_ok {Ψ : AVal → Heap → Prop} {m_Up : AVal} {m_Val : AVal} {h : Heap} (H : s63 Ψ m_Up m_Val h) : ACalls prog 63 [(.agg [m_Up, m_Val])] h Ψ :=
 calls_of_evF func63 (by kernel_rfl) (by kernel_rfl) (by kernel_rfl)
 (Eq.mpr (by as_aux_lemma => kernel_rfl : oblF prog f63 (s63_A Ψ) Ψ = ((True) ∧ ((True) ∧ ((True) ∧ (((True) ∧ ((NK s63l1_K (s63l1 Ψ 0)) ∧ (∀ n1 : Nat, (QK s63l1_K (s63l1 Ψ (n1 + 1))) ∧ ((otP 5) ∧ (((True) ∧ ((True) ∧ ((True) ∧ ((True) ∧ ((NK s63l2_K (s63l2 Ψ (s63l1_G (s63l1 Ψ n1)) 0)) ∧ (∀ n2 : Nat, (QK s63l2_K (s63l2 Ψ (s63l1_G (s63l1 Ψ n1)) (n2 + 1))) ∧ ((otP 5) ∧ (((True) ∧ ((True) ∧ ((NK s63l3_K (s63l3 Ψ (s63l1_G (s63l1 Ψ n1)) (s63l2_G (s63l2 Ψ (s63l1_G (s63l1 Ψ n1)) n2)) 0)) ∧ (∀ n3 : Nat, (QK s63l3_K (s63l3 Ψ (s63l1_G (s63l1 Ψ n1)) (s63l2_G (s63l2 Ψ (s63l1_G (s63l1 Ψ n1)) n2)) (n3 + 1))) ∧ ((otP 5) ∧ (((True) ∧ (((True) ∧ ((QK s63c5_K (s63c5 Ψ (s63l1_G (s63l1 Ψ n1)) (s63l2_G (s63l2 Ψ (s63l1_G (s63l1 Ψ n1)) n2)) (s63l3_G (s63l3 Ψ (s63l1_G (s63l1 Ψ n1)) (s63l2_G (s63l2 Ψ (s63l1_G (s63l1 Ψ n1)) n2)) n3)))) ∧ (otP 3))) ∧ (otP 13))) ∧ ((QK s63c4_K (s63c4 Ψ (s63l1_G (s63l1 Ψ n1)) (s63l2_G (s63l2 Ψ (s63l1_G (s63l1 Ψ n1)) n2)) (s63l3_G (s63l3 Ψ (s63l1_G (s63l1 Ψ n1)) (s63l2_G (s63l2 Ψ (s63l1_G (s63l1 Ψ n1)) n2)) n3)))) ∧ (True)))))))) ∧ (True))))))))) ∧ (True)))))) ∧ (otP 1)))))) (⟨trivial, ⟨trivial, ⟨trivial, ⟨⟨trivial, ⟨fun _ _ _ _ _ H => H, fun _ => ⟨oI, ⟨otP_ok 5, ⟨⟨trivial, ⟨trivial, ⟨trivial, ⟨trivial, ⟨fun _ _ _ _ _ _ _ H => H, fun _ => ⟨oI, ⟨otP_ok 5, ⟨⟨trivial, ⟨trivial, ⟨fun _ _ _ _ _ _ _ _ _ H => H, fun _ => ⟨oI, ⟨otP_ok 5, ⟨⟨trivial, ⟨⟨trivial, ⟨oI, otP_ok 3⟩⟩, otP_ok 13⟩⟩, ⟨oI, trivial⟩⟩⟩⟩⟩⟩⟩, trivial⟩⟩⟩⟩⟩⟩⟩⟩, trivial⟩⟩⟩⟩⟩, otP_ok 1⟩⟩⟩⟩))
 (Eq.mpr (by as_aux_lemma => kernel_rfl : evF prog f63 (s63_A Ψ) Ψ [(.agg [m_Up, m_Val])] h = s63 Ψ m_Up m_Val h) H)

/- 65 dictum/dictumref17.has -/
abbrev s65l1_T := AVal → ByteArray → Int → Heap → Prop
abbrev s65l1_K : List Kd := [.any, .str, .int .i64]
def s65l1_G (F : s65l1_T) : s65l1_T := GK s65l1_K F
def s65l1_E (F : Nat → s65l1_T) : s65l1_T := EK s65l1_K F
theorem s65l1_go {F : s65l1_T} {x0 : AVal} {x1 : ByteArray} {x2 : Int} {h : Heap} (H : F x0 x1 x2 h) : s65l1_G F x0 x1 x2 h := gJ_plain rfl H
theorem s65l1_in {F : Nat → s65l1_T} {x0 : AVal} {x1 : ByteArray} {x2 : Int} {h : Heap} (n : Nat) (H : F n x0 x1 x2 h) : s65l1_E F x0 x1 x2 h := gJ_plain rfl ⟨n, H⟩

def s65l1 (Ψ : AVal → Heap → Prop) : Nat → s65l1_T
 | 0, _, _, _, _ => False
 | n + 1, l_1, s1, i, h =>
 lenN l_1 fun n1 =>
 ifT (decide (i < n1)) (
 ixS 1 l_1 i fun p =>
 ld1 h p fun v =>
 tStr v fun v1 =>
 ifT (strEq v1 s1) (
 retG (.bool true) h Ψ) (
 rg (i + 1) (
 s65l1_G (s65l1 Ψ n) l_1 s1 (i + 1) h))) (
 retG (.bool false) h Ψ)

def s65 (Ψ : AVal → Heap → Prop) (l_ : AVal) (s : ByteArray) (h : Heap) : Prop :=
 s65l1_E (s65l1 Ψ) l_ s 0 h

def s65_A (Ψ : AVal → Heap → Prop) : Ann :=
 .seq (rA 1)
 (.seq (.seq (rA 1)
 (.block (loopK [0, 1, 5] s65l1_K (s65l1 Ψ) (fun L1 =>
 .seq (.seq (rA 4)
 (.cond (.leaf)
 (.leaf)))
 (.seq (.block (.seq (rA 6)
 (.cond (.seq (rA 1)
 (.leaf))
 (.leaf))))
 (rA 3))))))
 (.seq (rA 1)
 (.leaf)))

theorem s65_ok {Ψ : AVal → Heap → Prop} {l_ : AVal} {s : ByteArray} {h : Heap} (H : s65 Ψ l_ s h) : ACalls prog 65 [l_, (.str s)] h Ψ :=
 calls_of_evF func65 (by kernel_rfl) (by kernel_rfl) (by kernel_rfl)
 (Eq.mpr (by as_aux_lemma => kernel_rfl : oblF prog f65 (s65_A Ψ) Ψ = ((True) ∧ (((True) ∧ ((NK s65l1_K (s65l1 Ψ 0)) ∧ (∀ n1 : Nat, (QK s65l1_K (s65l1 Ψ (n1 + 1))) ∧ (otP 1739)))) ∧ (otP 1)))) (⟨trivial, ⟨⟨trivial, ⟨fun _ _ _ _ H => H, fun _ => ⟨oI, otP_ok 1739⟩⟩⟩, otP_ok 1⟩⟩))
 (Eq.mpr (by as_aux_lemma => kernel_rfl : evF prog f65 (s65_A Ψ) Ψ [l_, (.str s)] h = s65 Ψ l_ s h) H)

/- 67 math/bits.Len -/
def s67 (Ψ : AVal → Heap → Prop) (x : Int) (h : Heap) : Prop :=
 callG prog 114 [(.int .u64 x)] h fun v h_ =>
 tInt .i64 v fun v1 =>
 retG (.int .i64 v1) h_ Ψ

def s67_A (Ψ : AVal → Heap → Prop) : Ann :=
 .seq (rA 1)
 (.seq (.cond (.seq (rA 4)
 (.leaf))
 (.leaf))
 (.seq (rA 3)
 (.leaf)))

theorem s67_ok {Ψ : AVal → Heap → Prop} {x : Int} {h : Heap} (H : s67 Ψ x h) : ACalls prog 67 [(.int .u64 x)] h Ψ :=
 calls_of_evF func67 (by kernel_rfl) (by kernel_rfl) (by kernel_rfl)
 (Eq.mpr (by as_aux_lemma => kernel_rfl : oblF prog f67 (s67_A Ψ) Ψ = (otP 285)) (otP_ok 285))
 (Eq.mpr (by as_aux_lemma => kernel_rfl : evF prog f67 (s67_A Ψ) Ψ [(.int .u64 x)] h = s67 Ψ x h) H)

/- 69 dictum/heyting.look$1 -/
def s69 (Ψ : AVal → Heap → Prop) (x : Int) (y : Int) (c0 : AVal) (h : Heap) : Prop :=
 addOff c0 0 fun p =>
 ld1 h p fun v =>
 ixS 1 v x fun p1 =>
 ld1 h p1 fun v1 =>
 ixS 1 v1 y fun p2 =>
 ld1 h p2 fun v2 =>
 tBool v2 fun v3 =>
 retG (.bool v3) h Ψ

def s69_A (Ψ : AVal → Heap → Prop) : Ann :=
 .seq (rA 1)
 (.seq (rA 9)
 (.leaf))

theorem s69_ok {Ψ : AVal → Heap → Prop} {x : Int} {y : Int} {c0 : AVal} {h : Heap} (H : s69 Ψ x y c0 h) : ACalls prog 69 [(.int .i64 x), (.int .i64 y), c0] h Ψ :=
 calls_of_evF func69 (by kernel_rfl) (by kernel_rfl) (by kernel_rfl)
 (Eq.mpr (by as_aux_lemma => kernel_rfl : oblF prog f69 (s69_A Ψ) Ψ = (otP 5)) (otP_ok 5))
 (Eq.mpr (by as_aux_lemma => kernel_rfl : evF prog f69 (s69_A Ψ) Ψ [(.int .i64 x), (.int .i64 y), c0] h = s69 Ψ x y c0 h) H)

/- 71 dictum/heyting.look$2 -/
def s71 (Ψ : AVal → Heap → Prop) (row : AVal) (c0 : AVal) (h : Heap) : Prop :=
 lenN row fun n =>
 ld1 h c0 fun v =>
 tInt .i64 v fun v1 =>
 retG (.bool (n != v1)) h Ψ

def s71_A (Ψ : AVal → Heap → Prop) : Ann :=
 .seq (rA 1)
 (.seq (rA 5)
 (.leaf))

theorem s71_ok {Ψ : AVal → Heap → Prop} {row : AVal} {c0 : AVal} {h : Heap} (H : s71 Ψ row c0 h) : ACalls prog 71 [row, c0] h Ψ :=
 calls_of_evF func71 (by kernel_rfl) (by kernel_rfl) (by kernel_rfl)
 (Eq.mpr (by as_aux_lemma => kernel_rfl : oblF prog f71 (s71_A Ψ) Ψ = (otP 5)) (otP_ok 5))
 (Eq.mpr (by as_aux_lemma => kernel_rfl : evF prog f71 (s71_A Ψ) Ψ [row, c0] h = s71 Ψ row c0 h) H)

/- 73 (dictum/heyting.lattice).tables -/
abbrev s73l1_T := AVal → AVal → AVal → Int → Int → Heap → Prop
abbrev s73l1_K : List Kd := [.any, .any, .any, .int .i64, .int .i64]
def s73l1_G (F : s73l1_T) : s73l1_T := GK s73l1_K F
def s73l1_E (F : Nat → s73l1_T) : s73l1_T := EK s73l1_K F
theorem s73l1_go {F : s73l1_T} {x0 x1 x2 : AVal} {x3 x4 : Int} {h : Heap} (H : F x0 x1 x2 x3 x4 h) : s73l1_G F x0 x1 x2 x3 x4 h := gJ_plain rfl H
theorem s73l1_in {F : Nat → s73l1_T} {x0 x1 x2 : AVal} {x3 x4 : Int} {h : Heap} (n : Nat) (H : F n x0 x1 x2 x3 x4 h) : s73l1_E F x0 x1 x2 x3 x4 h := gJ_plain rfl ⟨n, H⟩

abbrev s73l2_T := AVal → AVal → AVal → Int → Int → Int → Int → Int → Heap → Prop
abbrev s73l2_K : List Kd := [.any, .any, .any, .int .i64, .int .i64, .int .i64, .int .i64, .int .i64]
def s73l2_G (F : s73l2_T) : s73l2_T := GK s73l2_K F
def s73l2_E (F : Nat → s73l2_T) : s73l2_T := EK s73l2_K F
theorem s73l2_go {F : s73l2_T} {x0 x1 x2 : AVal} {x3 x4 x5 x6 x7 : Int} {h : Heap} (H : F x0 x1 x2 x3 x4 x5 x6 x7 h) : s73l2_G F x0 x1 x2 x3 x4 x5 x6 x7 h := gJ_plain rfl H
theorem s73l2_in {F : Nat → s73l2_T} {x0 x1 x2 : AVal} {x3 x4 x5 x6 x7 : Int} {h : Heap} (n : Nat) (H : F n x0 x1 x2 x3 x4 x5 x6 x7 h) : s73l2_E F x0 x1 x2 x3 x4 x5 x6 x7 h := gJ_plain rfl ⟨n, H⟩

abbrev s73c3_K : List Kd := [.any, .any, .any, .int .i64, .int .i64, .int .i64, .int .i64, .int .i64, .int .i64, .int .i64, .bool]
def s73c3 (Ψ : AVal → Heap → Prop) (L1 : s73l1_T) (L2 : s73l2_T) (l_14 meets2 joins2 : AVal) (x1 m j t20_2 t21_2 t25_1 t26_1 : Int) (t48 : Bool) (h : Heap) : Prop :=
 ifT t48 (
 retG (.tuple [.nilsl, .nilsl, (.bool false)]) h Ψ) (
 ixS 1 meets2 x1 fun p1 =>
 ld1 h p1 fun v20 =>
 appC 1 8 h v20 (.lsl 1 [(.int .i64 m)]) fun v21 h_4 =>
 ixS 1 meets2 x1 fun p2 =>
 chk (sc v21) (
 st true h_4 p2 [v21] fun h_5 =>
 ixS 1 joins2 x1 fun p3 =>
 ld1 h_5 p3 fun v22 =>
 appC 1 8 h_5 v22 (.lsl 1 [(.int .i64 j)]) fun v23 h_6 =>
 ixS 1 joins2 x1 fun p4 =>
 chk (sc v23) (
 st true h_6 p4 [v23] fun h_7 =>
 rg (t26_1 + 1) (
 L2 l_14 meets2 joins2 x1 t20_2 t21_2 t25_1 (t26_1 + 1) h_7))))

def s73l2 (Ψ : AVal → Heap → Prop) (L1 : s73l1_T) : Nat → s73l2_T
 | 0, _, _, _, _, _, _, _, _, _ => False
 | n1 + 1, l_1, meets1, joins1, x, t20_1, t21_1, t25, t26, h =>
 ifT (decide (t26 < t25)) (
 ldN 2 h l_1 fun l_2 =>
 tCons l_2 fun v4 l_3 =>
 tInt .i64 v4 fun v5 =>
 tCons l_3 fun v6 l_4 =>
 tNil l_4 (
 callG prog 50 [(.agg [(.int .i64 v5), v6]), (.int .i64 x), (.int .i64 t26)] h fun v7 h_2 =>
 tTup v7 fun l_5 =>
 tCons l_5 fun v8 l_6 =>
 tInt .i64 v8 fun v9 =>
 tCons l_6 fun v10 l_7 =>
 tBool v10 fun v11 =>
 tNil l_7 (
 ldN 2 h_2 l_1 fun l_8 =>
 tCons l_8 fun v12 l_9 =>
 tInt .i64 v12 fun v13 =>
 tCons l_9 fun v14 l_10 =>
 tNil l_10 (
 callG prog 37 [(.agg [(.int .i64 v13), v14]), (.int .i64 x), (.int .i64 t26)] h_2 fun v15 h_3 =>
 tTup v15 fun l_11 =>
 tCons l_11 fun v16 l_12 =>
 tInt .i64 v16 fun v17 =>
 tCons l_12 fun v18 l_13 =>
 tBool v18 fun v19 =>
 tNil l_13 (
 ifT (!v11) (
 s73c3 Ψ L1 (s73l2_G (s73l2 Ψ L1 n1)) l_1 meets1 joins1 x v9 v17 t20_1 t21_1 t25 t26 true h_3) (
 s73c3 Ψ L1 (s73l2_G (s73l2 Ψ L1 n1)) l_1 meets1 joins1 x v9 v17 t20_1 t21_1 t25 t26 (!v19) h_3)))))) (
 rg (t21_1 + 1) (
 L1 l_1 meets1 joins1 t20_1 (t21_1 + 1) h))

def s73l1 (Ψ : AVal → Heap → Prop) : Nat → s73l1_T
 | 0, _, _, _, _, _, _ => False
 | n + 1, l_, meets, joins, t20, t21, h =>
 ifT (decide (t21 < t20)) (
 addOff l_ 0 fun p =>
 ld1 h p fun v2 =>
 tInt .i64 v2 fun v3 =>
 s73l2_E (s73l2 Ψ (s73l1_G (s73l1 Ψ n))) l_ meets joins t21 t20 t21 v3 0 h) (
 retG (.tuple [meets, joins, (.bool true)]) h Ψ)

def s73 (Ψ : AVal → Heap → Prop) (l_n : Int) (l_leq : AVal) (h : Heap) : Prop :=
 (mkS false 1 24 .nilsl h l_n l_n fun v h_ =>
 ((AVal.int .i64 l_n) = (.int .i64 l_n)) ∧
 mkS false 1 24 .nilsl h_ l_n l_n fun v1 h_1 =>
 s73l1_E (s73l1 Ψ) (.lptr [(.int .i64 l_n), l_leq]) v v1 l_n 0 h_1) ∧
 mkS false 1 24 .nilsl h l_n l_n fun v24 h_8 =>
 ((AVal.int .i64 l_n) = (.int .i64 l_n)) ∧
 mkS false 1 24 .nilsl h_8 l_n l_n fun v25 h_9 =>
 s73l1_E (s73l1 Ψ) (.lptr [(.int .i64 l_n), l_leq]) v25 v24 l_n 0 h_9

def s73_A (Ψ : AVal → Heap → Prop) : Ann :=
 .seq (.reg [⟨none, [(0, true), (1, false), (2, false), (3, false)]⟩])
 (.seq (.drawT (.split 2 5 (.leaf [(0, false), (1, false), (3, false), (4, false), (2, false), (6, false), (5, false), (7, false)]) (.leaf [(0, false), (1, false), (3, false), (4, false), (5, false), (2, false), (6, false), (7, false)])) [0, 1, 3, 0, 8, 24, 7, 127])
 (.seq (.seq (rA 3)
 (.block (loopK [1, 5, 6, 20, 21] s73l1_K (s73l1 Ψ) (fun L1 =>
 .seq (rA 1)
 (.seq (.cond (.leaf)
 (.leaf))
 (.seq (.block (.seq (rA 2)
 (.seq (rA 3)
 (.block (loopK [1, 5, 6, 7, 20, 21, 25, 26] s73l2_K (s73l2 Ψ (LK s73l1_K L1)) (fun L2 =>
 .seq (rA 1)
 (.seq (.cond (.leaf)
 (.leaf))
 (.seq (.block (.seq (rA 2)
 (.seq (rA 9)
 (.seq (rA 9)
 (.seq (cutK [1, 5, 6, 7, 9, 11, 20, 21, 25, 26, 48] s73c3_K (s73c3 Ψ (LK s73l1_K L1) (LK s73l2_K L2)) (.reg [⟨none, [(0, false), (1, false), (2, false)]⟩, ⟨some (45, false), [(3, false), (4, false)]⟩, ⟨none, [(5, false)]⟩])
 (.cond (.seq (rA 3)
 (.leaf))
 (.leaf)))
 (.seq (.reg [⟨none, [(0, false), (1, false), (2, false), (3, false), (4, false), (5, false), (6, false), (7, true), (8, false), (9, false), (10, false)]⟩])
 (.reg [⟨none, [(0, false), (1, false), (2, false), (3, false), (4, false), (5, false), (6, false), (7, true), (8, false), (9, false), (10, false)]⟩])))))))
 (rA 2)))))))))
 (rA 2)))))))
 (.seq (rA 5)
 (.leaf))))

theorem s73_ok {Ψ : AVal → Heap → Prop} {l_n : Int} {l_leq : AVal} {h : Heap} (H : s73 Ψ l_n l_leq h) : ACalls prog 73 [(.agg [(.int .i64 l_n), l_leq])] h Ψ :=
 calls_of_evF func73 (by kernel_rfl) (by kernel_rfl) (by kernel_rfl)
 (Eq.mpr (by as_aux_lemma => kernel_rfl : oblF prog f73 (s73_A Ψ) Ψ = ((True) ∧ ((True) ∧ (((True) ∧ ((NK s73l1_K (s73l1 Ψ 0)) ∧ (∀ n1 : Nat, (QK s73l1_K (s73l1 Ψ (n1 + 1))) ∧ ((True) ∧ ((otP 1) ∧ (((True) ∧ ((True) ∧ ((NK s73l2_K (s73l2 Ψ (s73l1_G (s73l1 Ψ n1)) 0)) ∧ (∀ n2 : Nat, (QK s73l2_K (s73l2 Ψ (s73l1_G (s73l1 Ψ n1)) (n2 + 1))) ∧ ((True) ∧ ((otP 1) ∧ (((True) ∧ ((True) ∧ ((True) ∧ (((True) ∧ ((QK s73c3_K (s73c3 Ψ (s73l1_G (s73l1 Ψ n1)) (s73l2_G (s73l2 Ψ (s73l1_G (s73l1 Ψ n1)) n2)))) ∧ (otP 3))) ∧ (otP 1))))) ∧ (True)))))))) ∧ (True))))))) ∧ (otP 1))))) (⟨trivial, ⟨trivial, ⟨⟨trivial, ⟨fun _ _ _ _ _ _ H => H, fun _ => ⟨oI, ⟨trivial, ⟨otP_ok 1, ⟨⟨trivial, ⟨trivial, ⟨fun _ _ _ _ _ _ _ _ _ H => H, fun _ => ⟨oI, ⟨trivial, ⟨otP_ok 1, ⟨⟨trivial, ⟨trivial, ⟨trivial, ⟨⟨trivial, ⟨oI, otP_ok 3⟩⟩, otP_ok 1⟩⟩⟩⟩, trivial⟩⟩⟩⟩⟩⟩⟩, trivial⟩⟩⟩⟩⟩⟩, otP_ok 1⟩⟩⟩))
 (Eq.mpr (by as_aux_lemma => kernel_rfl : evF prog f73 (s73_A Ψ) Ψ [(.agg [(.int .i64 l_n), l_leq])] h = s73 Ψ l_n l_leq h) H)

/- 75 dictum/heyting.best -/
abbrev s75l1_T := Int → AVal → AVal → Int → Int → Heap → Prop
abbrev s75l1_K : List Kd := [.int .i64, .any, .any, .int .i64, .int .i64]
def s75l1_G (F : s75l1_T) : s75l1_T := GK s75l1_K F
def s75l1_E (F : Nat → s75l1_T) : s75l1_T := EK s75l1_K F
theorem s75l1_go {F : s75l1_T} {x0 : Int} {x1 x2 : AVal} {x3 x4 : Int} {h : Heap} (H : F x0 x1 x2 x3 x4 h) : s75l1_G F x0 x1 x2 x3 x4 h := gJ_plain rfl H
theorem s75l1_in {F : Nat → s75l1_T} {x0 : Int} {x1 x2 : AVal} {x3 x4 : Int} {h : Heap} (n : Nat) (H : F n x0 x1 x2 x3 x4 h) : s75l1_E F x0 x1 x2 x3 x4 h := gJ_plain rfl ⟨n, H⟩

abbrev s75c2_K : List Kd := [.int .i64, .any, .any, .int .i64, .int .i64]
def s75c2 (Ψ : AVal → Heap → Prop) (L1 : s75l1_T) (n3 : Int) (is2 over2 : AVal) (t11_1 t12_1 : Int) (h : Heap) : Prop :=
 rg (t12_1 + 1) (
 L1 n3 is2 over2 t11_1 (t12_1 + 1) h)

abbrev s75l3_T := Int → AVal → AVal → Int → Bool → Int → Int → Int → Int → Heap → Prop
abbrev s75l3_K : List Kd := [.int .i64, .any, .any, .int .i64, .bool, .int .i64, .int .i64, .int .i64, .int .i64]
def s75l3_G (F : s75l3_T) : s75l3_T := GK s75l3_K F
def s75l3_E (F : Nat → s75l3_T) : s75l3_T := EK s75l3_K F
theorem s75l3_go {F : s75l3_T} {x0 : Int} {x1 x2 : AVal} {x3 : Int} {x4 : Bool} {x5 x6 x7 x8 : Int} {h : Heap} (H : F x0 x1 x2 x3 x4 x5 x6 x7 x8 h) : s75l3_G F x0 x1 x2 x3 x4 x5 x6 x7 x8 h := gJ_plain rfl H
theorem s75l3_in {F : Nat → s75l3_T} {x0 : Int} {x1 x2 : AVal} {x3 : Int} {x4 : Bool} {x5 x6 x7 x8 : Int} {h : Heap} (n : Nat) (H : F n x0 x1 x2 x3 x4 x5 x6 x7 x8 h) : s75l3_E F x0 x1 x2 x3 x4 x5 x6 x7 x8 h := gJ_plain rfl ⟨n, H⟩

abbrev s75c4_K : List Kd := [.int .i64, .any, .any, .int .i64, .bool, .int .i64, .int .i64, .int .i64, .int .i64]
def s75c4 (Ψ : AVal → Heap → Prop) (L1 : s75l1_T) (L3 : s75l3_T) (n6 : Int) (is4 over4 : AVal) (z1 : Int) (top1 : Bool) (t11_3 t12_3 t19_1 t20_1 : Int) (h : Heap) : Prop :=
 rg (t20_1 + 1) (
 L3 n6 is4 over4 z1 top1 t11_3 t12_3 t19_1 (t20_1 + 1) h)

def s75l3 (Ψ : AVal → Heap → Prop) (L1 : s75l1_T) : Nat → s75l3_T
 | 0, _, _, _, _, _, _, _, _, _, _ => False
 | n5 + 1, n4, is3, over3, z, top, t11_2, t12_2, t19, t20, h =>
 ifT (decide (t20 < t19)) (
 ifT top (
 callV prog is3 [(.int .i64 t20)] h fun v2 h_1 =>
 tBool v2 fun v3 =>
 ifT (!v3) (
 s75c4 Ψ L1 (s75l3_G (s75l3 Ψ L1 n5)) n4 is3 over3 z true t11_2 t12_2 t19 t20 h_1) (
 callV prog over3 [(.int .i64 z), (.int .i64 t20)] h_1 fun v4 h_2 =>
 tBool v4 fun v5 =>
 s75c4 Ψ L1 (s75l3_G (s75l3 Ψ L1 n5)) n4 is3 over3 z v5 t11_2 t12_2 t19 t20 h_2)) (
 s75c4 Ψ L1 (s75l3_G (s75l3 Ψ L1 n5)) n4 is3 over3 z false t11_2 t12_2 t19 t20 h)) (
 ifT top (
 retG (.tuple [(.int .i64 z), (.bool true)]) h Ψ) (
 s75c2 Ψ L1 n4 is3 over3 t11_2 t12_2 h))

def s75l1 (Ψ : AVal → Heap → Prop) : Nat → s75l1_T
 | 0, _, _, _, _, _, _ => False
 | n2 + 1, n1, is1, over1, t11, t12, h =>
 ifT (decide (t12 < t11)) (
 callV prog is1 [(.int .i64 t12)] h fun v h_ =>
 tBool v fun v1 =>
 ifT (!v1) (
 s75c2 Ψ (s75l1_G (s75l1 Ψ n2)) n1 is1 over1 t11 t12 h_) (
 s75l3_E (s75l3 Ψ (s75l1_G (s75l1 Ψ n2))) n1 is1 over1 t12 true t11 t12 n1 0 h_)) (
 retG (.tuple [(.int .i64 0), (.bool false)]) h Ψ)

def s75 (Ψ : AVal → Heap → Prop) (n : Int) (is : AVal) (over : AVal) (h : Heap) : Prop :=
 s75l1_E (s75l1 Ψ) n is over n 0 h

def s75_A (Ψ : AVal → Heap → Prop) : Ann :=
 .seq (rA 2)
 (.seq (.seq (rA 2)
 (.block (loopK [0, 1, 2, 11, 12] s75l1_K (s75l1 Ψ) (fun L1 =>
 .seq (rA 1)
 (.seq (.cond (.leaf)
 (.leaf))
 (cutK [0, 1, 2, 11, 12] s75c2_K (s75c2 Ψ (LK s75l1_K L1)) (.block (.seq (rA 2)
 (.seq (.seq (rA 4)
 (.cond (.leaf)
 (.leaf)))
 (.seq (rA 1)
 (.seq (.seq (rA 2)
 (.block (loopK [0, 1, 2, 8, 9, 11, 12, 19, 20] s75l3_K (s75l3 Ψ (LK s75l1_K L1)) (fun L3 =>
 .seq (rA 1)
 (.seq (.cond (.leaf)
 (.leaf))
 (cutK [0, 1, 2, 8, 9, 11, 12, 19, 20] s75c4_K (s75c4 Ψ (LK s75l1_K L1) (LK s75l3_K L3)) (.block (.seq (rA 2)
 (.reg [⟨none, [(0, false), (1, false)]⟩, ⟨some (24, true), [(2, false), (3, false), (4, false), (5, false), (6, false)]⟩, ⟨some (29, false), [(7, false), (8, false), (9, false), (10, false)]⟩, ⟨some (24, true), [(11, false)]⟩, ⟨none, [(12, false), (13, false)]⟩])))
 (rA 2)))))))
 (.seq (rA 1)
 (.cond (.seq (rA 3)
 (.leaf))
 (.leaf))))))))
 (rA 2)))))))
 (.seq (rA 2)
 (.leaf)))

theorem s75_ok {Ψ : AVal → Heap → Prop} {n : Int} {is : AVal} {over : AVal} {h : Heap} (H : s75 Ψ n is over h) : ACalls prog 75 [(.int .i64 n), is, over] h Ψ :=
 calls_of_evF func75 (by kernel_rfl) (by kernel_rfl) (by kernel_rfl)
 (Eq.mpr (by as_aux_lemma => kernel_rfl : oblF prog f75 (s75_A Ψ) Ψ = ((True) ∧ (((True) ∧ ((NK s75l1_K (s75l1 Ψ 0)) ∧ (∀ n1 : Nat, (QK s75l1_K (s75l1 Ψ (n1 + 1))) ∧ ((True) ∧ ((otP 1) ∧ (((True) ∧ ((otP 5) ∧ ((True) ∧ (((True) ∧ ((NK s75l3_K (s75l3 Ψ (s75l1_G (s75l1 Ψ n1)) 0)) ∧ (∀ n3 : Nat, (QK s75l3_K (s75l3 Ψ (s75l1_G (s75l1 Ψ n1)) (n3 + 1))) ∧ ((True) ∧ ((otP 1) ∧ ((otP 1) ∧ ((QK s75c4_K (s75c4 Ψ (s75l1_G (s75l1 Ψ n1)) (s75l3_G (s75l3 Ψ (s75l1_G (s75l1 Ψ n1)) n3)))) ∧ (True)))))))) ∧ (otP 13))))) ∧ ((QK s75c2_K (s75c2 Ψ (s75l1_G (s75l1 Ψ n1)))) ∧ (True)))))))) ∧ (otP 1)))) (⟨trivial, ⟨⟨trivial, ⟨fun _ _ _ _ _ _ H => H, fun _ => ⟨oI, ⟨trivial, ⟨otP_ok 1, ⟨⟨trivial, ⟨otP_ok 5, ⟨trivial, ⟨⟨trivial, ⟨fun _ _ _ _ _ _ _ _ _ _ H => H, fun _ => ⟨oI, ⟨trivial, ⟨otP_ok 1, ⟨otP_ok 1, ⟨oI, trivial⟩⟩⟩⟩⟩⟩⟩, otP_ok 13⟩⟩⟩⟩, ⟨oI, trivial⟩⟩⟩⟩⟩⟩⟩, otP_ok 1⟩⟩))
 (Eq.mpr (by as_aux_lemma => kernel_rfl : evF prog f75 (s75_A Ψ) Ψ [(.int .i64 n), is, over] h = s75 Ψ n is over h) H)

/- 77 (dictum/heyting.lattice).up -/
def s77 (Ψ : AVal → Heap → Prop) (l_n : Int) (l_leq : AVal) (z : Int) (w : Int) (h : Heap) : Prop :=
 callV prog l_leq [(.int .i64 w), (.int .i64 z)] h fun v h_ =>
 tBool v fun v1 =>
 retG (.bool v1) h_ Ψ

def s77_A (Ψ : AVal → Heap → Prop) : Ann :=
 .seq (.reg [⟨none, [(0, true), (1, false)]⟩])
 (.seq (rA 6)
 (.leaf))

theorem s77_ok {Ψ : AVal → Heap → Prop} {l_n : Int} {l_leq : AVal} {z : Int} {w : Int} {h : Heap} (H : s77 Ψ l_n l_leq z w h) : ACalls prog 77 [(.agg [(.int .i64 l_n), l_leq]), (.int .i64 z), (.int .i64 w)] h Ψ :=
 calls_of_evF func77 (by kernel_rfl) (by kernel_rfl) (by kernel_rfl)
 (Eq.mpr (by as_aux_lemma => kernel_rfl : oblF prog f77 (s77_A Ψ) Ψ = (otP 5)) (otP_ok 5))
 (Eq.mpr (by as_aux_lemma => kernel_rfl : evF prog f77 (s77_A Ψ) Ψ [(.agg [(.int .i64 l_n), l_leq]), (.int .i64 z), (.int .i64 w)] h = s77 Ψ l_n l_leq z w h) H)

/- 79 dictum/worlds.asked -/
abbrev s79l1_T := AVal → AVal → AVal → Int → Int → Heap → Prop
abbrev s79l1_K : List Kd := [.any, .any, .any, .int .i64, .int .i64]
def s79l1_G (F : s79l1_T) : s79l1_T := GK s79l1_K F
def s79l1_E (F : Nat → s79l1_T) : s79l1_T := EK s79l1_K F
theorem s79l1_go {F : s79l1_T} {x0 x1 x2 : AVal} {x3 x4 : Int} {h : Heap} (H : F x0 x1 x2 x3 x4 h) : s79l1_G F x0 x1 x2 x3 x4 h := gJ_plain rfl H
theorem s79l1_in {F : Nat → s79l1_T} {x0 x1 x2 : AVal} {x3 x4 : Int} {h : Heap} (n : Nat) (H : F n x0 x1 x2 x3 x4 h) : s79l1_E F x0 x1 x2 x3 x4 h := gJ_plain rfl ⟨n, H⟩

abbrev s79c2_K : List Kd := [.any, .any, .any, .int .i64, .int .i64, .bool]
def s79c2 (Ψ : AVal → Heap → Prop) (L1 : s79l1_T) (m1 leq1 t17_1 : AVal) (t18_1 t19_1 : Int) (t31 : Bool) (h : Heap) : Prop :=
 ifT t31 (
 retG (.tuple [.nilfunc, (.int .i64 2)]) h Ψ) (
 rg (t19_1 + 1) (
 L1 m1 leq1 t17_1 t18_1 (t19_1 + 1) h))

def s79l1 (Ψ : AVal → Heap → Prop) : Nat → s79l1_T
 | 0, _, _, _, _, _, _ => False
 | n1 + 1, m, leq, t17, t18, t19, h =>
 ifT (decide (t19 < t18)) (
 ixS 1 t17 t19 fun p =>
 ld1 h p fun v4 =>
 tInt .i64 v4 fun v5 =>
 ifT (decide (v5 < 0)) (
 s79c2 Ψ (s79l1_G (s79l1 Ψ n1)) m leq t17 t18 t19 true h) (
 addOff m 0 fun p1 =>
 ld1 h p1 fun v6 =>
 lenN v6 fun n2 =>
 s79c2 Ψ (s79l1_G (s79l1 Ψ n1)) m leq t17 t18 t19 (decide (n2 ≤ v5)) h)) (
 retG (.tuple [leq, (.int .i64 0)]) h Ψ)

def s79 (Ψ : AVal → Heap → Prop) (m_Up : AVal) (m_Val : AVal) (worlds : AVal) (h : Heap) : Prop :=
 callG prog 116 [(.agg [m_Up, m_Val])] h fun v h_ =>
 tTup v fun l_ =>
 tCons l_ fun v1 l_1 =>
 tCons l_1 fun v2 l_2 =>
 tBool v2 fun v3 =>
 tNil l_2 (
 ifT (!v3) (
 retG (.tuple [.nilfunc, (.int .i64 170)]) h_ Ψ) (
 lenN worlds fun n =>
 s79l1_E (s79l1 Ψ) (.lptr [m_Up, m_Val]) v1 worlds n 0 h_))

def s79_A (Ψ : AVal → Heap → Prop) : Ann :=
 .seq (.reg [⟨none, [(0, true), (1, false), (2, false)]⟩])
 (.seq (rA 7)
 (.seq (.seq (rA 2)
 (.cond (.seq (rA 2)
 (.leaf))
 (.leaf)))
 (.seq (.seq (rA 3)
 (.block (loopK [2, 6, 17, 18, 19] s79l1_K (s79l1 Ψ) (fun L1 =>
 .seq (rA 1)
 (.seq (.cond (.leaf)
 (.leaf))
 (.seq (.block (.seq (rA 3)
 (cutK [2, 6, 17, 18, 19, 31] s79c2_K (s79c2 Ψ (LK s79l1_K L1)) (.reg [⟨none, [(0, false), (1, false), (2, false)]⟩, ⟨some (25, false), [(3, false), (4, false), (5, false), (6, false), (7, false)]⟩, ⟨none, [(8, false)]⟩])
 (.cond (.seq (rA 2)
 (.leaf))
 (.leaf)))))
 (rA 2)))))))
 (.seq (rA 3)
 (.leaf)))))

theorem s79_ok {Ψ : AVal → Heap → Prop} {m_Up : AVal} {m_Val : AVal} {worlds : AVal} {h : Heap} (H : s79 Ψ m_Up m_Val worlds h) : ACalls prog 79 [(.agg [m_Up, m_Val]), worlds] h Ψ :=
 calls_of_evF func79 (by kernel_rfl) (by kernel_rfl) (by kernel_rfl)
 (Eq.mpr (by as_aux_lemma => kernel_rfl : oblF prog f79 (s79_A Ψ) Ψ = ((True) ∧ ((True) ∧ ((otP 13) ∧ (((True) ∧ ((NK s79l1_K (s79l1 Ψ 0)) ∧ (∀ n1 : Nat, (QK s79l1_K (s79l1 Ψ (n1 + 1))) ∧ ((True) ∧ ((otP 1) ∧ (((True) ∧ ((True) ∧ ((QK s79c2_K (s79c2 Ψ (s79l1_G (s79l1 Ψ n1)))) ∧ (otP 3)))) ∧ (True))))))) ∧ (otP 1)))))) (⟨trivial, ⟨trivial, ⟨otP_ok 13, ⟨⟨trivial, ⟨fun _ _ _ _ _ _ H => H, fun _ => ⟨oI, ⟨trivial, ⟨otP_ok 1, ⟨⟨trivial, ⟨trivial, ⟨oI, otP_ok 3⟩⟩⟩, trivial⟩⟩⟩⟩⟩⟩, otP_ok 1⟩⟩⟩⟩))
 (Eq.mpr (by as_aux_lemma => kernel_rfl : evF prog f79 (s79_A Ψ) Ψ [(.agg [m_Up, m_Val]), worlds] h = s79 Ψ m_Up m_Val worlds h) H)

/- 81 dictum/worlds.Tidy$1 -/
def s81 (Ψ : AVal → Heap → Prop) (b : Int) (c0 : AVal) (c1 : AVal) (h : Heap) : Prop :=
 ld1 h c0 fun v =>
 tInt .i64 v fun v1 =>
 ifT (v1 != b) (
 ld1 h c1 fun v2 =>
 ld1 h c0 fun v3 =>
 tInt .i64 v3 fun v4 =>
 callV prog v2 [(.int .i64 v4), (.int .i64 b)] h fun v5 h_ =>
 tBool v5 fun v6 =>
 retG (.bool v6) h_ Ψ) (
 retG (.bool false) h Ψ)

def s81_A (Ψ : AVal → Heap → Prop) : Ann :=
 .seq (rA 1)
 (.seq (.reg [⟨none, [(0, false), (1, false), (2, false), (3, false)]⟩, ⟨some (8, true), [(4, false), (5, false), (6, false), (7, false)]⟩, ⟨none, [(8, false), (9, false)]⟩])
 (.leaf))

theorem s81_ok {Ψ : AVal → Heap → Prop} {b : Int} {c0 : AVal} {c1 : AVal} {h : Heap} (H : s81 Ψ b c0 c1 h) : ACalls prog 81 [(.int .i64 b), c0, c1] h Ψ :=
 calls_of_evF func81 (by kernel_rfl) (by kernel_rfl) (by kernel_rfl)
 (Eq.mpr (by as_aux_lemma => kernel_rfl : oblF prog f81 (s81_A Ψ) Ψ = (otP 5)) (otP_ok 5))
 (Eq.mpr (by as_aux_lemma => kernel_rfl : evF prog f81 (s81_A Ψ) Ψ [(.int .i64 b), c0, c1] h = s81 Ψ b c0 c1 h) H)

/- 83 slices.ContainsFunc[[]int,int] -/
def s83 (Ψ : AVal → Heap → Prop) (s : AVal) (f : AVal) (h : Heap) : Prop :=
 callG prog 117 [s, f] h fun v h_ =>
 tInt .i64 v fun v1 =>
 retG (.bool (decide (0 ≤ v1))) h_ Ψ

def s83_A (Ψ : AVal → Heap → Prop) : Ann :=
 .seq (rA 1)
 (.seq (rA 5)
 (.leaf))

theorem s83_ok {Ψ : AVal → Heap → Prop} {s : AVal} {f : AVal} {h : Heap} (H : s83 Ψ s f h) : ACalls prog 83 [s, f] h Ψ :=
 calls_of_evF func83 (by kernel_rfl) (by kernel_rfl) (by kernel_rfl)
 (Eq.mpr (by as_aux_lemma => kernel_rfl : oblF prog f83 (s83_A Ψ) Ψ = (otP 5)) (otP_ok 5))
 (Eq.mpr (by as_aux_lemma => kernel_rfl : evF prog f83 (s83_A Ψ) Ψ [s, f] h = s83 Ψ s f h) H)

/- 85 slices.Clone[[]string,string] -/
def s85 (Ψ : AVal → Heap → Prop) (s : AVal) (h : Heap) : Prop :=
 nilS s fun b =>
 ifT b (
 retG .nilsl h Ψ) (
 Sym.newRow 1 [] h fun r h_ =>
 appC 1 16 h_ (.sl r 1 0 0) s fun v h_1 =>
 retG v h_1 Ψ)

def s85_A (Ψ : AVal → Heap → Prop) : Ann :=
 .seq (rA 1)
 (.seq (.seq (rA 2)
 (.cond (.seq (rA 1)
 (.leaf))
 (.leaf)))
 (.seq (rA 4)
 (.leaf)))

theorem s85_ok {Ψ : AVal → Heap → Prop} {s : AVal} {h : Heap} (H : s85 Ψ s h) : ACalls prog 85 [s] h Ψ :=
 calls_of_evF func85 (by kernel_rfl) (by kernel_rfl) (by kernel_rfl)
 (Eq.mpr (by as_aux_lemma => kernel_rfl : oblF prog f85 (s85_A Ψ) Ψ = (otP 1133)) (otP_ok 1133))
 (Eq.mpr (by as_aux_lemma => kernel_rfl : evF prog f85 (s85_A Ψ) Ψ [s] h = s85 Ψ s h) H)

/- 87 dictum/dictumref23.best -/
abbrev s87l1_T := AVal → Int → Int → Bool → Int → Heap → Prop
abbrev s87l1_K : List Kd := [.any, .int .i64, .int .i64, .bool, .int .i64]
def s87l1_G (F : s87l1_T) : s87l1_T := GK s87l1_K F
def s87l1_E (F : Nat → s87l1_T) : s87l1_T := EK s87l1_K F
theorem s87l1_go {F : s87l1_T} {x0 : AVal} {x1 x2 : Int} {x3 : Bool} {x4 : Int} {h : Heap} (H : F x0 x1 x2 x3 x4 h) : s87l1_G F x0 x1 x2 x3 x4 h := gJ_plain rfl H
theorem s87l1_in {F : Nat → s87l1_T} {x0 : AVal} {x1 x2 : Int} {x3 : Bool} {x4 : Int} {h : Heap} (n : Nat) (H : F n x0 x1 x2 x3 x4 h) : s87l1_E F x0 x1 x2 x3 x4 h := gJ_plain rfl ⟨n, H⟩

abbrev s87l2_T := AVal → Int → Int → Bool → Int → Bool → Int → Heap → Prop
abbrev s87l2_K : List Kd := [.any, .int .i64, .int .i64, .bool, .int .i64, .bool, .int .i64]
def s87l2_G (F : s87l2_T) : s87l2_T := GK s87l2_K F
def s87l2_E (F : Nat → s87l2_T) : s87l2_T := EK s87l2_K F
theorem s87l2_go {F : s87l2_T} {x0 : AVal} {x1 x2 : Int} {x3 : Bool} {x4 : Int} {x5 : Bool} {x6 : Int} {h : Heap} (H : F x0 x1 x2 x3 x4 x5 x6 h) : s87l2_G F x0 x1 x2 x3 x4 x5 x6 h := gJ_plain rfl H
theorem s87l2_in {F : Nat → s87l2_T} {x0 : AVal} {x1 x2 : Int} {x3 : Bool} {x4 : Int} {x5 : Bool} {x6 : Int} {h : Heap} (n : Nat) (H : F n x0 x1 x2 x3 x4 x5 x6 h) : s87l2_E F x0 x1 x2 x3 x4 x5 x6 h := gJ_plain rfl ⟨n, H⟩

abbrev s87c4_K : List Kd := [.any, .int .i64, .int .i64, .bool, .int .i64, .bool, .int .i64]
def s87c4 (Ψ : AVal → Heap → Prop) (L1 : s87l1_T) (L2 : s87l2_T) (l_4 : AVal) (x4 y4 : Int) (down4 : Bool) (z3 : Int) (is2 : Bool) (w2 : Int) (h : Heap) : Prop :=
 rg (w2 + 1) (
 L2 l_4 x4 y4 down4 z3 is2 (w2 + 1) h)

abbrev s87c3_K : List Kd := [.any, .int .i64, .int .i64, .bool, .int .i64, .bool, .int .i64, .bool]
def s87c3 (Ψ : AVal → Heap → Prop) (L1 : s87l1_T) (L2 : s87l2_T) (l_3 : AVal) (x3 y3 : Int) (down3 : Bool) (z2 : Int) (is1 : Bool) (w1 : Int) (t30 : Bool) (h : Heap) : Prop :=
 ifT t30 (
 callG prog 118 [l_3, (.int .i64 w1), (.int .i64 x3), (.int .i64 y3), (.bool down3)] h fun v2 h_1 =>
 tBool v2 fun v3 =>
 ifT v3 (
 ifT down3 (
 ixS 1 l_3 w1 fun p =>
 ld1 h_1 p fun v4 =>
 ixS 1 v4 z2 fun p1 =>
 ld1 h_1 p1 fun v5 =>
 tBool v5 fun v6 =>
 s87c4 Ψ L1 L2 l_3 x3 y3 down3 z2 v6 w1 h_1) (
 ixS 1 l_3 z2 fun p2 =>
 ld1 h_1 p2 fun v7 =>
 ixS 1 v7 w1 fun p3 =>
 ld1 h_1 p3 fun v8 =>
 tBool v8 fun v9 =>
 s87c4 Ψ L1 L2 l_3 x3 y3 down3 z2 v9 w1 h_1)) (
 s87c4 Ψ L1 L2 l_3 x3 y3 down3 z2 is1 w1 h_1)) (
 ifT is1 (
 retG (.int .i64 z2) h Ψ) (
 rg (z2 + 1) (
 L1 l_3 x3 y3 down3 (z2 + 1) h)))

def s87l2 (Ψ : AVal → Heap → Prop) (L1 : s87l1_T) : Nat → s87l2_T
 | 0, _, _, _, _, _, _, _, _ => False
 | n2 + 1, l_2, x2, y2, down2, z1, is, w, h =>
 lenN l_2 fun n3 =>
 ifT (decide (w < n3)) (
 s87c3 Ψ L1 (s87l2_G (s87l2 Ψ L1 n2)) l_2 x2 y2 down2 z1 is w is h) (
 s87c3 Ψ L1 (s87l2_G (s87l2 Ψ L1 n2)) l_2 x2 y2 down2 z1 is w false h)

def s87l1 (Ψ : AVal → Heap → Prop) : Nat → s87l1_T
 | 0, _, _, _, _, _, _ => False
 | n + 1, l_1, x1, y1, down1, z, h =>
 lenN l_1 fun n1 =>
 ifT (decide (z < n1)) (
 callG prog 118 [l_1, (.int .i64 z), (.int .i64 x1), (.int .i64 y1), (.bool down1)] h fun v h_ =>
 tBool v fun v1 =>
 s87l2_E (s87l2 Ψ (s87l1_G (s87l1 Ψ n))) l_1 x1 y1 down1 z v1 0 h_) (
 retG (.int .i64 (-1)) h Ψ)

def s87 (Ψ : AVal → Heap → Prop) (l_ : AVal) (x : Int) (y : Int) (down : Bool) (h : Heap) : Prop :=
 s87l1_E (s87l1 Ψ) l_ x y down 0 h

def s87_A (Ψ : AVal → Heap → Prop) : Ann :=
 .seq (rA 1)
 (.seq (.seq (rA 1)
 (.block (loopK [0, 1, 2, 3, 9] s87l1_K (s87l1 Ψ) (fun L1 =>
 .seq (.seq (rA 4)
 (.cond (.leaf)
 (.leaf)))
 (.seq (.block (.seq (rA 7)
 (.seq (.seq (rA 1)
 (.block (loopK [0, 1, 2, 3, 9, 10, 11] s87l2_K (s87l2 Ψ (LK s87l1_K L1)) (fun L2 =>
 .seq (cutK [0, 1, 2, 3, 9, 10, 11, 30] s87c3_K (s87c3 Ψ (LK s87l1_K L1) (LK s87l2_K L2)) (.reg [⟨none, [(0, false), (1, false), (2, false), (3, false), (4, false)]⟩, ⟨some (28, true), [(5, false)]⟩, ⟨none, [(6, false)]⟩])
 (.cond (.leaf)
 (.leaf)))
 (cutK [0, 1, 2, 3, 9, 10, 11] s87c4_K (s87c4 Ψ (LK s87l1_K L1) (LK s87l2_K L2)) (.block (.seq (rA 6)
 (.cond (.seq (rA 1)
 (.cond (rA 8)
 (rA 8)))
 (.leaf))))
 (rA 3))))))
 (.seq (rA 1)
 (.cond (.seq (rA 2)
 (.leaf))
 (.leaf))))))
 (rA 3))))))
 (.seq (rA 1)
 (.leaf)))

theorem s87_ok {Ψ : AVal → Heap → Prop} {l_ : AVal} {x : Int} {y : Int} {down : Bool} {h : Heap} (H : s87 Ψ l_ x y down h) : ACalls prog 87 [l_, (.int .i64 x), (.int .i64 y), (.bool down)] h Ψ :=
 calls_of_evF func87 (by kernel_rfl) (by kernel_rfl) (by kernel_rfl)
 (Eq.mpr (by as_aux_lemma => kernel_rfl : oblF prog f87 (s87_A Ψ) Ψ = ((True) ∧ (((True) ∧ ((NK s87l1_K (s87l1 Ψ 0)) ∧ (∀ n1 : Nat, (QK s87l1_K (s87l1 Ψ (n1 + 1))) ∧ ((otP 5) ∧ (((True) ∧ (((True) ∧ ((NK s87l2_K (s87l2 Ψ (s87l1_G (s87l1 Ψ n1)) 0)) ∧ (∀ n2 : Nat, (QK s87l2_K (s87l2 Ψ (s87l1_G (s87l1 Ψ n1)) (n2 + 1))) ∧ (((True) ∧ ((QK s87c3_K (s87c3 Ψ (s87l1_G (s87l1 Ψ n1)) (s87l2_G (s87l2 Ψ (s87l1_G (s87l1 Ψ n1)) n2)))) ∧ (otP 1))) ∧ ((otP 45) ∧ ((QK s87c4_K (s87c4 Ψ (s87l1_G (s87l1 Ψ n1)) (s87l2_G (s87l2 Ψ (s87l1_G (s87l1 Ψ n1)) n2)))) ∧ (True))))))) ∧ (otP 13))) ∧ (True)))))) ∧ (otP 1)))) (⟨trivial, ⟨⟨trivial, ⟨fun _ _ _ _ _ _ H => H, fun _ => ⟨oI, ⟨otP_ok 5, ⟨⟨trivial, ⟨⟨trivial, ⟨fun _ _ _ _ _ _ _ _ H => H, fun _ => ⟨oI, ⟨⟨trivial, ⟨oI, otP_ok 1⟩⟩, ⟨otP_ok 45, ⟨oI, trivial⟩⟩⟩⟩⟩⟩, otP_ok 13⟩⟩, trivial⟩⟩⟩⟩⟩, otP_ok 1⟩⟩))
 (Eq.mpr (by as_aux_lemma => kernel_rfl : evF prog f87 (s87_A Ψ) Ψ [l_, (.int .i64 x), (.int .i64 y), (.bool down)] h = s87 Ψ l_ x y down h) H)

/- 96 (dictum/heyting.lattice).imp$1 -/
def s96 (Ψ : AVal → Heap → Prop) (z : Int) (c0 : AVal) (c1 : AVal) (c2 : AVal) (h : Heap) : Prop :=
 ldN 2 h c0 fun l_ =>
 tCons l_ fun v l_1 =>
 tInt .i64 v fun v1 =>
 tCons l_1 fun v2 l_2 =>
 tNil l_2 (
 ld1 h c1 fun v3 =>
 tInt .i64 v3 fun v4 =>
 callG prog 50 [(.agg [(.int .i64 v1), v2]), (.int .i64 z), (.int .i64 v4)] h fun v5 h_ =>
 tTup v5 fun l_3 =>
 tCons l_3 fun v6 l_4 =>
 tInt .i64 v6 fun v7 =>
 tCons l_4 fun v8 l_5 =>
 tBool v8 fun v9 =>
 tNil l_5 (
 addOff c0 1 fun p =>
 ld1 h_ p fun v10 =>
 ld1 h_ c2 fun v11 =>
 tInt .i64 v11 fun v12 =>
 callV prog v10 [(.int .i64 v7), (.int .i64 v12)] h_ fun v13 h_1 =>
 tBool v13 fun v14 =>
 retG (.bool v14) h_1 Ψ))

def s96_A (Ψ : AVal → Heap → Prop) : Ann :=
 .seq (rA 1)
 (.seq (rA 9)
 (.seq (rA 6)
 (.leaf)))

theorem s96_ok {Ψ : AVal → Heap → Prop} {z : Int} {c0 : AVal} {c1 : AVal} {c2 : AVal} {h : Heap} (H : s96 Ψ z c0 c1 c2 h) : ACalls prog 96 [(.int .i64 z), c0, c1, c2] h Ψ :=
 calls_of_evF func96 (by kernel_rfl) (by kernel_rfl) (by kernel_rfl)
 (Eq.mpr (by as_aux_lemma => kernel_rfl : oblF prog f96 (s96_A Ψ) Ψ = (otP 21)) (otP_ok 21))
 (Eq.mpr (by as_aux_lemma => kernel_rfl : evF prog f96 (s96_A Ψ) Ψ [(.int .i64 z), c0, c1, c2] h = s96 Ψ z c0 c1 c2 h) H)

/- 101 dictum/worlds.Above$1 -/
def s101 (Ψ : AVal → Heap → Prop) (b : Int) (c0 : AVal) (c1 : AVal) (h : Heap) : Prop :=
 ld1 h c0 fun v =>
 ld1 h c1 fun v1 =>
 tInt .i64 v1 fun v2 =>
 callV prog v [(.int .i64 v2), (.int .i64 b)] h fun v3 h_ =>
 tBool v3 fun v4 =>
 retG (.bool v4) h_ Ψ

def s101_A (Ψ : AVal → Heap → Prop) : Ann :=
 .seq (rA 1)
 (.seq (rA 5)
 (.leaf))

theorem s101_ok {Ψ : AVal → Heap → Prop} {b : Int} {c0 : AVal} {c1 : AVal} {h : Heap} (H : s101 Ψ b c0 c1 h) : ACalls prog 101 [(.int .i64 b), c0, c1] h Ψ :=
 calls_of_evF func101 (by kernel_rfl) (by kernel_rfl) (by kernel_rfl)
 (Eq.mpr (by as_aux_lemma => kernel_rfl : oblF prog f101 (s101_A Ψ) Ψ = (otP 5)) (otP_ok 5))
 (Eq.mpr (by as_aux_lemma => kernel_rfl : evF prog f101 (s101_A Ψ) Ψ [(.int .i64 b), c0, c1] h = s101 Ψ b c0 c1 h) H)

/- 104 slices.insertionSortOrdered[string] -/
abbrev s104l1_T := AVal → Int → Int → Int → Heap → Prop
abbrev s104l1_K : List Kd := [.any, .int .i64, .int .i64, .int .i64]
def s104l1_G (F : s104l1_T) : s104l1_T := GK s104l1_K F
def s104l1_E (F : Nat → s104l1_T) : s104l1_T := EK s104l1_K F
theorem s104l1_in {F : Nat → s104l1_T} {x0 : AVal} {x1 x2 x3 : Int} {h : Heap} (n : Nat) (H : F n x0 x1 x2 x3 h) : s104l1_E F x0 x1 x2 x3 h := gJ_plain rfl ⟨n, H⟩

abbrev s104l2_T := AVal → Int → Int → Int → Int → Heap → Prop
abbrev s104l2_K : List Kd := [.any, .int .i64, .int .i64, .int .i64, .int .i64]
def s104l2_G (F : s104l2_T) : s104l2_T := GK s104l2_K F
def s104l2_E (F : Nat → s104l2_T) : s104l2_T := EK s104l2_K F
abbrev s104c3_K : List Kd := [.any, .int .i64, .int .i64, .int .i64, .int .i64, .bool]
def s104c3 (Ψ : AVal → Heap → Prop) (L1 : s104l1_T) (L2 : s104l2_T) (data3 : AVal) (a3 b3 i2 j1 : Int) (t30 : Bool) (h : Heap) : Prop :=
 ifT t30 (
 rg (j1 - 1) (
 rg (j1 - 1) (
 ixS 1 data3 (j1 - 1) fun p =>
 ld1 h p fun v =>
 tStr v fun v1 =>
 ixS 1 data3 j1 fun p1 =>
 ld1 h p1 fun v2 =>
 tStr v2 fun v3 =>
 ixS 1 data3 j1 fun p2 =>
 st true h p2 [(.str v1)] fun h_ =>
 ixS 1 data3 (j1 - 1) fun p3 =>
 st true h_ p3 [(.str v3)] fun h_1 =>
 rg (j1 - 1) (
 L2 data3 a3 b3 i2 (j1 - 1) h_1)))) (
 rg (i2 + 1) (
 L1 data3 a3 b3 (i2 + 1) h))

def s104l2 (Ψ : AVal → Heap → Prop) (L1 : s104l1_T) : Nat → s104l2_T
 | 0, _, _, _, _, _, _ => False
 | n1 + 1, data2, a2, b2, i1, j, h =>
 ifT (decide (a2 < j)) (
 ixS 1 data2 j fun p4 =>
 ld1 h p4 fun v4 =>
 tStr v4 fun v5 =>
 rg (j - 1) (
 ixS 1 data2 (j - 1) fun p5 =>
 ld1 h p5 fun v6 =>
 tStr v6 fun v7 =>
 callG prog 110 [(.str v5), (.str v7)] h fun v8 h_2 =>
 tBool v8 fun v9 =>
 s104c3 Ψ L1 (s104l2_G (s104l2 Ψ L1 n1)) data2 a2 b2 i1 j v9 h_2)) (
 s104c3 Ψ L1 (s104l2_G (s104l2 Ψ L1 n1)) data2 a2 b2 i1 j false h)

def s104l1 (Ψ : AVal → Heap → Prop) : Nat → s104l1_T
 | 0, _, _, _, _, _ => False
 | n + 1, data1, a1, b1, i, h =>
 ifT (decide (i < b1)) (
 s104l2_E (s104l2 Ψ (s104l1_G (s104l1 Ψ n))) data1 a1 b1 i i h) (
 retG (.tuple []) h Ψ)

def s104 (Ψ : AVal → Heap → Prop) (data : AVal) (a : Int) (b : Int) (h : Heap) : Prop :=
 rg (a + 1) (
 s104l1_E (s104l1 Ψ) data a b (a + 1) h)

def s104_A (Ψ : AVal → Heap → Prop) : Ann :=
 .seq (rA 3)
 (.block (loopK [0, 1, 2, 6] s104l1_K (s104l1 Ψ) (fun L1 =>
 .seq (.seq (rA 3)
 (.cond (.leaf)
 (.leaf)))
 (.seq (.block (.seq (rA 2)
 (.block (loopK [0, 1, 2, 6, 7] s104l2_K (s104l2 Ψ (LK s104l1_K L1)) (fun L2 =>
 .seq (cutK [0, 1, 2, 6, 7, 30] s104c3_K (s104c3 Ψ (LK s104l1_K L1) (LK s104l2_K L2)) (.draw [(0, false), (1, false), (2, false), (3, false), (4, false), (5, false), (6, false), (7, false), (8, false), (9, false), (10, false), (11, false), (12, false), (13, false), (14, false)] [0, 0, 3, 7, 15, 15, 63, 127, 15, 15, 527, 1807, 3855, 8191, 16383])
 (.cond (.leaf)
 (.leaf)))
 (.seq (.block (.draw [(0, false), (1, false), (2, false), (3, false), (4, false), (5, false), (6, false), (7, false), (8, false), (9, false), (10, false), (11, false), (12, false), (13, false), (14, false), (15, false), (16, false), (17, false)] [0, 0, 0, 0, 8, 0, 0, 64, 224, 480, 0, 0, 3072, 7168, 16355, 32739, 65535, 131071]))
 (rA 3)))))))
 (rA 3)))))

theorem s104_ok {Ψ : AVal → Heap → Prop} {data : AVal} {a : Int} {b : Int} {h : Heap} (H : s104 Ψ data a b h) : ACalls prog 104 [data, (.int .i64 a), (.int .i64 b)] h Ψ :=
 calls_of_evF func104 (by kernel_rfl) (by kernel_rfl) (by kernel_rfl)
 (Eq.mpr (by as_aux_lemma => kernel_rfl : oblF prog f104 (s104_A Ψ) Ψ = ((True) ∧ ((NK s104l1_K (s104l1 Ψ 0)) ∧ (∀ n1 : Nat, (QK s104l1_K (s104l1 Ψ (n1 + 1))) ∧ ((otP 5) ∧ (((True) ∧ ((NK s104l2_K (s104l2 Ψ (s104l1_G (s104l1 Ψ n1)) 0)) ∧ (∀ n2 : Nat, (QK s104l2_K (s104l2 Ψ (s104l1_G (s104l1 Ψ n1)) (n2 + 1))) ∧ (((True) ∧ ((QK s104c3_K (s104c3 Ψ (s104l1_G (s104l1 Ψ n1)) (s104l2_G (s104l2 Ψ (s104l1_G (s104l1 Ψ n1)) n2)))) ∧ (otP 1))) ∧ (otP 1))))) ∧ (True))))))) (⟨trivial, ⟨fun _ _ _ _ _ H => H, fun _ => ⟨oI, ⟨otP_ok 5, ⟨⟨trivial, ⟨fun _ _ _ _ _ _ H => H, fun _ => ⟨oI, ⟨⟨trivial, ⟨oI, otP_ok 1⟩⟩, otP_ok 1⟩⟩⟩⟩, trivial⟩⟩⟩⟩⟩))
 (Eq.mpr (by as_aux_lemma => kernel_rfl : evF prog f104 (s104_A Ψ) Ψ [data, (.int .i64 a), (.int .i64 b)] h = s104 Ψ data a b h) H)

/- 115 slices.IndexFunc[[][]bool,[]bool] -/
abbrev s115l1_T := AVal → AVal → Int → Int → Heap → Prop
abbrev s115l1_K : List Kd := [.any, .any, .int .i64, .int .i64]
def s115l1_G (F : s115l1_T) : s115l1_T := GK s115l1_K F
def s115l1_E (F : Nat → s115l1_T) : s115l1_T := EK s115l1_K F
theorem s115l1_go {F : s115l1_T} {x0 x1 : AVal} {x2 x3 : Int} {h : Heap} (H : F x0 x1 x2 x3 h) : s115l1_G F x0 x1 x2 x3 h := gJ_plain rfl H
theorem s115l1_in {F : Nat → s115l1_T} {x0 x1 : AVal} {x2 x3 : Int} {h : Heap} (n : Nat) (H : F n x0 x1 x2 x3 h) : s115l1_E F x0 x1 x2 x3 h := gJ_plain rfl ⟨n, H⟩

def s115l1 (Ψ : AVal → Heap → Prop) : Nat → s115l1_T
 | 0, _, _, _, _, _ => False
 | n1 + 1, s1, f1, t7, t8, h =>
 ifT (decide (t8 < t7)) (
 ixS 1 s1 t8 fun p =>
 ld1 h p fun v =>
 callV prog f1 [v] h fun v1 h_ =>
 tBool v1 fun v2 =>
 ifT v2 (
 retG (.int .i64 t8) h_ Ψ) (
 rg (t8 + 1) (
 s115l1_G (s115l1 Ψ n1) s1 f1 t7 (t8 + 1) h_))) (
 retG (.int .i64 (-1)) h Ψ)

def s115 (Ψ : AVal → Heap → Prop) (s : AVal) (f : AVal) (h : Heap) : Prop :=
 lenN s fun n =>
 s115l1_E (s115l1 Ψ) s f n 0 h

def s115_A (Ψ : AVal → Heap → Prop) : Ann :=
 .seq (rA 1)
 (.seq (.seq (rA 3)
 (.block (loopK [0, 1, 7, 8] s115l1_K (s115l1 Ψ) (fun L1 =>
 .seq (rA 1)
 (.seq (.cond (.leaf)
 (.leaf))
 (.seq (.block (.seq (rA 2)
 (.seq (rA 6)
 (.cond (.seq (rA 2)
 (.leaf))
 (.leaf)))))
 (rA 2)))))))
 (.seq (rA 1)
 (.leaf)))

theorem s115_ok {Ψ : AVal → Heap → Prop} {s : AVal} {f : AVal} {h : Heap} (H : s115 Ψ s f h) : ACalls prog 115 [s, f] h Ψ :=
 calls_of_evF func115 (by kernel_rfl) (by kernel_rfl) (by kernel_rfl)
 (Eq.mpr (by as_aux_lemma => kernel_rfl : oblF prog f115 (s115_A Ψ) Ψ = ((True) ∧ (((True) ∧ ((NK s115l1_K (s115l1 Ψ 0)) ∧ (∀ n1 : Nat, (QK s115l1_K (s115l1 Ψ (n1 + 1))) ∧ (otP 6861)))) ∧ (otP 1)))) (⟨trivial, ⟨⟨trivial, ⟨fun _ _ _ _ _ H => H, fun _ => ⟨oI, otP_ok 6861⟩⟩⟩, otP_ok 1⟩⟩))
 (Eq.mpr (by as_aux_lemma => kernel_rfl : evF prog f115 (s115_A Ψ) Ψ [s, f] h = s115 Ψ s f h) H)

/- 117 slices.IndexFunc[[]int,int] -/
abbrev s117l1_T := AVal → AVal → Int → Int → Heap → Prop
abbrev s117l1_K : List Kd := [.any, .any, .int .i64, .int .i64]
def s117l1_G (F : s117l1_T) : s117l1_T := GK s117l1_K F
def s117l1_E (F : Nat → s117l1_T) : s117l1_T := EK s117l1_K F
theorem s117l1_go {F : s117l1_T} {x0 x1 : AVal} {x2 x3 : Int} {h : Heap} (H : F x0 x1 x2 x3 h) : s117l1_G F x0 x1 x2 x3 h := gJ_plain rfl H
theorem s117l1_in {F : Nat → s117l1_T} {x0 x1 : AVal} {x2 x3 : Int} {h : Heap} (n : Nat) (H : F n x0 x1 x2 x3 h) : s117l1_E F x0 x1 x2 x3 h := gJ_plain rfl ⟨n, H⟩

def s117l1 (Ψ : AVal → Heap → Prop) : Nat → s117l1_T
 | 0, _, _, _, _, _ => False
 | n1 + 1, s1, f1, t7, t8, h =>
 ifT (decide (t8 < t7)) (
 ixS 1 s1 t8 fun p =>
 ld1 h p fun v =>
 tInt .i64 v fun v1 =>
 callV prog f1 [(.int .i64 v1)] h fun v2 h_ =>
 tBool v2 fun v3 =>
 ifT v3 (
 retG (.int .i64 t8) h_ Ψ) (
 rg (t8 + 1) (
 s117l1_G (s117l1 Ψ n1) s1 f1 t7 (t8 + 1) h_))) (
 retG (.int .i64 (-1)) h Ψ)

def s117 (Ψ : AVal → Heap → Prop) (s : AVal) (f : AVal) (h : Heap) : Prop :=
 lenN s fun n =>
 s117l1_E (s117l1 Ψ) s f n 0 h

def s117_A (Ψ : AVal → Heap → Prop) : Ann :=
 .seq (rA 1)
 (.seq (.seq (rA 3)
 (.block (loopK [0, 1, 7, 8] s117l1_K (s117l1 Ψ) (fun L1 =>
 .seq (rA 1)
 (.seq (.cond (.leaf)
 (.leaf))
 (.seq (.block (.seq (rA 2)
 (.seq (rA 6)
 (.cond (.seq (rA 2)
 (.leaf))
 (.leaf)))))
 (rA 2)))))))
 (.seq (rA 1)
 (.leaf)))

theorem s117_ok {Ψ : AVal → Heap → Prop} {s : AVal} {f : AVal} {h : Heap} (H : s117 Ψ s f h) : ACalls prog 117 [s, f] h Ψ :=
 calls_of_evF func117 (by kernel_rfl) (by kernel_rfl) (by kernel_rfl)
 (Eq.mpr (by as_aux_lemma => kernel_rfl : oblF prog f117 (s117_A Ψ) Ψ = ((True) ∧ (((True) ∧ ((NK s117l1_K (s117l1 Ψ 0)) ∧ (∀ n1 : Nat, (QK s117l1_K (s117l1 Ψ (n1 + 1))) ∧ (otP 6861)))) ∧ (otP 1)))) (⟨trivial, ⟨⟨trivial, ⟨fun _ _ _ _ _ H => H, fun _ => ⟨oI, otP_ok 6861⟩⟩⟩, otP_ok 1⟩⟩))
 (Eq.mpr (by as_aux_lemma => kernel_rfl : evF prog f117 (s117_A Ψ) Ψ [s, f] h = s117 Ψ s f h) H)

/- 122 slices.Index[[]string,string] -/
abbrev s122l1_T := AVal → ByteArray → Int → Int → Heap → Prop
abbrev s122l1_K : List Kd := [.any, .str, .int .i64, .int .i64]
def s122l1_G (F : s122l1_T) : s122l1_T := GK s122l1_K F
def s122l1_E (F : Nat → s122l1_T) : s122l1_T := EK s122l1_K F
theorem s122l1_go {F : s122l1_T} {x0 : AVal} {x1 : ByteArray} {x2 x3 : Int} {h : Heap} (H : F x0 x1 x2 x3 h) : s122l1_G F x0 x1 x2 x3 h := gJ_plain rfl H
theorem s122l1_in {F : Nat → s122l1_T} {x0 : AVal} {x1 : ByteArray} {x2 x3 : Int} {h : Heap} (n : Nat) (H : F n x0 x1 x2 x3 h) : s122l1_E F x0 x1 x2 x3 h := gJ_plain rfl ⟨n, H⟩

def s122l1 (Ψ : AVal → Heap → Prop) : Nat → s122l1_T
 | 0, _, _, _, _, _ => False
 | n1 + 1, s1, v1, t7, t8, h =>
 ifT (decide (t8 < t7)) (
 ixS 1 s1 t8 fun p =>
 ld1 h p fun v2 =>
 tStr v2 fun v3 =>
 ifT (strEq v1 v3) (
 retG (.int .i64 t8) h Ψ) (
 rg (t8 + 1) (
 s122l1_G (s122l1 Ψ n1) s1 v1 t7 (t8 + 1) h))) (
 retG (.int .i64 (-1)) h Ψ)

def s122 (Ψ : AVal → Heap → Prop) (s : AVal) (v : ByteArray) (h : Heap) : Prop :=
 lenN s fun n =>
 s122l1_E (s122l1 Ψ) s v n 0 h

def s122_A (Ψ : AVal → Heap → Prop) : Ann :=
 .seq (rA 1)
 (.seq (.seq (rA 3)
 (.block (loopK [0, 1, 7, 8] s122l1_K (s122l1 Ψ) (fun L1 =>
 .seq (rA 1)
 (.seq (.cond (.leaf)
 (.leaf))
 (.seq (.block (.seq (rA 2)
 (.seq (rA 6)
 (.cond (.seq (rA 2)
 (.leaf))
 (.leaf)))))
 (rA 2)))))))
 (.seq (rA 1)
 (.leaf)))

theorem s122_ok {Ψ : AVal → Heap → Prop} {s : AVal} {v : ByteArray} {h : Heap} (H : s122 Ψ s v h) : ACalls prog 122 [s, (.str v)] h Ψ :=
 calls_of_evF func122 (by kernel_rfl) (by kernel_rfl) (by kernel_rfl)
 (Eq.mpr (by as_aux_lemma => kernel_rfl : oblF prog f122 (s122_A Ψ) Ψ = ((True) ∧ (((True) ∧ ((NK s122l1_K (s122l1 Ψ 0)) ∧ (∀ n1 : Nat, (QK s122l1_K (s122l1 Ψ (n1 + 1))) ∧ (otP 6861)))) ∧ (otP 1)))) (⟨trivial, ⟨⟨trivial, ⟨fun _ _ _ _ _ H => H, fun _ => ⟨oI, otP_ok 6861⟩⟩⟩, otP_ok 1⟩⟩))
 (Eq.mpr (by as_aux_lemma => kernel_rfl : evF prog f122 (s122_A Ψ) Ψ [s, (.str v)] h = s122 Ψ s v h) H)

/- 132 dictum/dictumref03.Reserved -/
def s132 (Ψ : AVal → Heap → Prop) (h : Heap) : Prop :=
 retG (.lsl 1 [(.str (ByteArray.mk #[97, 98, 111, 114, 116])), (.str (ByteArray.mk #[99, 97, 115, 101])), (.str (ByteArray.mk #[102, 97, 108, 115, 101])), (.str (ByteArray.mk #[102, 115, 116])), (.str (ByteArray.mk #[102, 117, 110])), (.str (ByteArray.mk #[105, 110])), (.str (ByteArray.mk #[105, 110, 108])), (.str (ByteArray.mk #[105, 110, 114])), (.str (ByteArray.mk #[108, 101, 116])), (.str (ByteArray.mk #[111, 102])), (.str (ByteArray.mk #[115, 110, 100])), (.str (ByteArray.mk #[116, 114, 117, 101]))]) h Ψ

def s132_A (Ψ : AVal → Heap → Prop) : Ann :=
 .seq (rA 1)
 (.seq (.reg [⟨none, [(0, true), (1, false)]⟩])
 (.leaf))

theorem s132_ok {Ψ : AVal → Heap → Prop} {h : Heap} (H : s132 Ψ  h) : ACalls prog 132 [] h Ψ :=
 calls_of_evF func132 (by kernel_rfl) (by kernel_rfl) (by kernel_rfl)
 (Eq.mpr (by as_aux_lemma => kernel_rfl : oblF prog f132 (s132_A Ψ) Ψ = (otP 5)) (otP_ok 5))
 (Eq.mpr (by as_aux_lemma => kernel_rfl : evF prog f132 (s132_A Ψ) Ψ [] h = s132 Ψ  h) H)

/- 140 dictum/worlds.rising -/
abbrev s140l1_T := AVal → AVal → Int → Int → Heap → Prop
abbrev s140l1_K : List Kd := [.any, .any, .int .i64, .int .i64]
def s140l1_G (F : s140l1_T) : s140l1_T := GK s140l1_K F
def s140l1_E (F : Nat → s140l1_T) : s140l1_T := EK s140l1_K F
theorem s140l1_go {F : s140l1_T} {x0 x1 : AVal} {x2 x3 : Int} {h : Heap} (H : F x0 x1 x2 x3 h) : s140l1_G F x0 x1 x2 x3 h := gJ_plain rfl H
theorem s140l1_in {F : Nat → s140l1_T} {x0 x1 : AVal} {x2 x3 : Int} {h : Heap} (n : Nat) (H : F n x0 x1 x2 x3 h) : s140l1_E F x0 x1 x2 x3 h := gJ_plain rfl ⟨n, H⟩

abbrev s140c2_K : List Kd := [.any, .any, .int .i64, .int .i64, .bool]
def s140c2 (Ψ : AVal → Heap → Prop) (L1 : s140l1_T) (l_2 t5_1 : AVal) (t6_1 t7_1 : Int) (t27 : Bool) (h : Heap) : Prop :=
 ifT t27 (
 retG (.bool false) h Ψ) (
 rg (t7_1 + 1) (
 L1 l_2 t5_1 t6_1 (t7_1 + 1) h))

def s140l1 (Ψ : AVal → Heap → Prop) : Nat → s140l1_T
 | 0, _, _, _, _, _ => False
 | n1 + 1, l_1, t5, t6, t7, h =>
 ifT (decide (t7 < t6)) (
 ixS 1 t5 t7 fun p =>
 ld1 h p fun v =>
 tStr v fun v1 =>
 callG prog 143 [(.str v1)] h fun v2 h_ =>
 tBool v2 fun v3 =>
 ifT (!v3) (
 s140c2 Ψ (s140l1_G (s140l1 Ψ n1)) l_1 t5 t6 t7 true h_) (
 ifT (decide (0 < t7)) (
 rg (t7 - 1) (
 ixS 1 l_1 (t7 - 1) fun p1 =>
 ld1 h_ p1 fun v4 =>
 tStr v4 fun v5 =>
 s140c2 Ψ (s140l1_G (s140l1 Ψ n1)) l_1 t5 t6 t7 (!strLt v5 v1) h_)) (
 s140c2 Ψ (s140l1_G (s140l1 Ψ n1)) l_1 t5 t6 t7 false h_))) (
 retG (.bool true) h Ψ)

def s140 (Ψ : AVal → Heap → Prop) (l_ : AVal) (h : Heap) : Prop :=
 lenN l_ fun n =>
 s140l1_E (s140l1 Ψ) l_ l_ n 0 h

def s140_A (Ψ : AVal → Heap → Prop) : Ann :=
 .seq (rA 1)
 (.seq (.seq (rA 3)
 (.block (loopK [0, 5, 6, 7] s140l1_K (s140l1 Ψ) (fun L1 =>
 .seq (rA 1)
 (.seq (.cond (.leaf)
 (.leaf))
 (.seq (.block (.seq (rA 5)
 (cutK [0, 5, 6, 7, 27] s140c2_K (s140c2 Ψ (LK s140l1_K L1)) (.reg [⟨none, [(0, false), (1, false), (2, false), (3, false)]⟩, ⟨some (15, false), [(4, false), (5, false), (6, false)]⟩, ⟨some (18, true), [(7, false), (8, false), (9, false), (10, false), (11, false), (12, false), (13, false)]⟩, ⟨some (15, false), [(14, false)]⟩, ⟨none, [(15, false)]⟩])
 (.cond (.seq (rA 1)
 (.leaf))
 (.leaf)))))
 (rA 2)))))))
 (.seq (rA 1)
 (.leaf)))

theorem s140_ok {Ψ : AVal → Heap → Prop} {l_ : AVal} {h : Heap} (H : s140 Ψ l_ h) : ACalls prog 140 [l_] h Ψ :=
 calls_of_evF func140 (by kernel_rfl) (by kernel_rfl) (by kernel_rfl)
 (Eq.mpr (by as_aux_lemma => kernel_rfl : oblF prog f140 (s140_A Ψ) Ψ = ((True) ∧ (((True) ∧ ((NK s140l1_K (s140l1 Ψ 0)) ∧ (∀ n1 : Nat, (QK s140l1_K (s140l1 Ψ (n1 + 1))) ∧ ((True) ∧ ((otP 1) ∧ (((True) ∧ ((True) ∧ ((QK s140c2_K (s140c2 Ψ (s140l1_G (s140l1 Ψ n1)))) ∧ (otP 3)))) ∧ (True))))))) ∧ (otP 1)))) (⟨trivial, ⟨⟨trivial, ⟨fun _ _ _ _ _ H => H, fun _ => ⟨oI, ⟨trivial, ⟨otP_ok 1, ⟨⟨trivial, ⟨trivial, ⟨oI, otP_ok 3⟩⟩⟩, trivial⟩⟩⟩⟩⟩⟩, otP_ok 1⟩⟩))
 (Eq.mpr (by as_aux_lemma => kernel_rfl : evF prog f140 (s140_A Ψ) Ψ [l_] h = s140 Ψ l_ h) H)

/- 142 dictum/worlds.looked$1 -/
def s142 (Ψ : AVal → Heap → Prop) (s : ByteArray) (c0 : AVal) (c1 : AVal) (h : Heap) : Prop :=
 addOff c0 1 fun p =>
 ld1 h p fun v =>
 ld1 h c1 fun v1 =>
 tInt .i64 v1 fun v2 =>
 ixS 1 v v2 fun p1 =>
 ld1 h p1 fun v3 =>
 callG prog 99 [v3, (.str s)] h fun v4 h_ =>
 tBool v4 fun v5 =>
 retG (.bool (!v5)) h_ Ψ

def s142_A (Ψ : AVal → Heap → Prop) : Ann :=
 .seq (rA 1)
 (.seq (rA 9)
 (.leaf))

theorem s142_ok {Ψ : AVal → Heap → Prop} {s : ByteArray} {c0 : AVal} {c1 : AVal} {h : Heap} (H : s142 Ψ s c0 c1 h) : ACalls prog 142 [(.str s), c0, c1] h Ψ :=
 calls_of_evF func142 (by kernel_rfl) (by kernel_rfl) (by kernel_rfl)
 (Eq.mpr (by as_aux_lemma => kernel_rfl : oblF prog f142 (s142_A Ψ) Ψ = (otP 5)) (otP_ok 5))
 (Eq.mpr (by as_aux_lemma => kernel_rfl : evF prog f142 (s142_A Ψ) Ψ [(.str s), c0, c1] h = s142 Ψ s c0 c1 h) H)

/- 157 dictum/worlds.reckon$1 -/
def s157 (Ψ : AVal → Heap → Prop) (a : Int) (b : Int) (c0 : AVal) (h : Heap) : Prop :=
 ld1 h c0 fun v =>
 ixS 1 v a fun p =>
 ld1 h p fun v1 =>
 ixS 1 v1 b fun p1 =>
 ld1 h p1 fun v2 =>
 tBool v2 fun v3 =>
 retG (.bool v3) h Ψ

def s157_A (Ψ : AVal → Heap → Prop) : Ann :=
 .seq (rA 1)
 (.seq (rA 8)
 (.leaf))

theorem s157_ok {Ψ : AVal → Heap → Prop} {a : Int} {b : Int} {c0 : AVal} {h : Heap} (H : s157 Ψ a b c0 h) : ACalls prog 157 [(.int .i64 a), (.int .i64 b), c0] h Ψ :=
 calls_of_evF func157 (by kernel_rfl) (by kernel_rfl) (by kernel_rfl)
 (Eq.mpr (by as_aux_lemma => kernel_rfl : oblF prog f157 (s157_A Ψ) Ψ = (otP 5)) (otP_ok 5))
 (Eq.mpr (by as_aux_lemma => kernel_rfl : evF prog f157 (s157_A Ψ) Ψ [(.int .i64 a), (.int .i64 b), c0] h = s157 Ψ a b c0 h) H)

/- 159 dictum/formula.reserved -/
abbrev s159c1_K : List Kd := [.bool]
def s159c1 (Ψ : AVal → Heap → Prop) (t4 : Bool) (h : Heap) : Prop :=
 ifT t4 (
 retG (.bool true) h Ψ) (
 retG (.bool false) h Ψ)

def s159 (Ψ : AVal → Heap → Prop) (s : ByteArray) (h : Heap) : Prop :=
 ifT (strEq s (ByteArray.mk #[97, 98, 111, 114, 116])) (
 s159c1 Ψ (strEq s (ByteArray.mk #[97, 98, 111, 114, 116])) h) (
 ifT (strEq s (ByteArray.mk #[99, 97, 115, 101])) (
 s159c1 Ψ (strEq s (ByteArray.mk #[99, 97, 115, 101])) h) (
 ifT (strEq s (ByteArray.mk #[102, 97, 108, 115, 101])) (
 s159c1 Ψ (strEq s (ByteArray.mk #[102, 97, 108, 115, 101])) h) (
 ifT (strEq s (ByteArray.mk #[102, 115, 116])) (
 s159c1 Ψ (strEq s (ByteArray.mk #[102, 115, 116])) h) (
 ifT (strEq s (ByteArray.mk #[102, 117, 110])) (
 s159c1 Ψ (strEq s (ByteArray.mk #[102, 117, 110])) h) (
 ifT (strEq s (ByteArray.mk #[105, 110])) (
 s159c1 Ψ (strEq s (ByteArray.mk #[105, 110])) h) (
 ifT (strEq s (ByteArray.mk #[105, 110, 108])) (
 s159c1 Ψ (strEq s (ByteArray.mk #[105, 110, 108])) h) (
 ifT (strEq s (ByteArray.mk #[105, 110, 114])) (
 s159c1 Ψ (strEq s (ByteArray.mk #[105, 110, 114])) h) (
 ifT (strEq s (ByteArray.mk #[108, 101, 116])) (
 s159c1 Ψ (strEq s (ByteArray.mk #[108, 101, 116])) h) (
 ifT (strEq s (ByteArray.mk #[111, 102])) (
 s159c1 Ψ (strEq s (ByteArray.mk #[111, 102])) h) (
 ifT (strEq s (ByteArray.mk #[115, 110, 100])) (
 s159c1 Ψ (strEq s (ByteArray.mk #[115, 110, 100])) h) (
 s159c1 Ψ (strEq s (ByteArray.mk #[116, 114, 117, 101])) h)))))))))))

def s159_A (Ψ : AVal → Heap → Prop) : Ann :=
 .seq (rA 1)
 (.seq (.seq (rA 1)
 (.block (cutK [4] s159c1_K (s159c1 Ψ) (.seq (rA 2)
 (.cond (.leaf)
 (.seq (rA 2)
 (.cond (.leaf)
 (.seq (rA 2)
 (.cond (.leaf)
 (.seq (rA 2)
 (.cond (.leaf)
 (.seq (rA 2)
 (.cond (.leaf)
 (.seq (rA 2)
 (.cond (.leaf)
 (.seq (rA 2)
 (.cond (.leaf)
 (.seq (rA 2)
 (.cond (.leaf)
 (.seq (rA 2)
 (.cond (.leaf)
 (.seq (rA 2)
 (.cond (.leaf)
 (.seq (rA 2)
 (.cond (.leaf)
 (rA 2)))))))))))))))))))))))
 (.cond (.seq (rA 1)
 (.leaf))
 (.leaf)))))
 (.seq (rA 1)
 (.leaf)))

theorem s159_ok {Ψ : AVal → Heap → Prop} {s : ByteArray} {h : Heap} (H : s159 Ψ s h) : ACalls prog 159 [(.str s)] h Ψ :=
 calls_of_evF func159 (by kernel_rfl) (by kernel_rfl) (by kernel_rfl)
 (Eq.mpr (by as_aux_lemma => kernel_rfl : oblF prog f159 (s159_A Ψ) Ψ = ((True) ∧ (((True) ∧ ((otP 5864062014805) ∧ ((QK s159c1_K (s159c1 Ψ)) ∧ (otP 3)))) ∧ (otP 1)))) (⟨trivial, ⟨⟨trivial, ⟨otP_ok 5864062014805, ⟨oI, otP_ok 3⟩⟩⟩, otP_ok 1⟩⟩))
 (Eq.mpr (by as_aux_lemma => kernel_rfl : evF prog f159 (s159_A Ψ) Ψ [(.str s)] h = s159 Ψ s h) H)

end Go.Proofs.YtljglglbfcgjpaaGreat

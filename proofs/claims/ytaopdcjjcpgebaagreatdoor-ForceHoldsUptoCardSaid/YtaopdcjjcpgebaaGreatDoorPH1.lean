/- The functions that the proof meets, each as a text that Lean has checked against the program. No condition. -/
import Derived.Test.YtaopdcjjcpgebaaGreatDoorM3
import Derived.Test.YtaopdcjjcpgebaaGreatDoorChecked
import Derived.Test.YtaopdcjjcpgebaaGreatDoorM5
namespace Go.Proofs.YtaopdcjjcpgebaaGreatDoor
open Go Go.Sym Go.Proofs.Tryz
set_option maxRecDepth 100000
set_option linter.unusedVariables false

/- 13 dictum/force.Holds -/
abbrev s13l1_T := AVal → AVal → AVal → Int → Int → Heap → Prop
abbrev s13l1_K : List Kd := [.any, .any, .any, .int .i64, .int .i64]
def s13l1_G (F : s13l1_T) : s13l1_T := GK s13l1_K F
def s13l1_E (F : Nat → s13l1_T) : s13l1_T := EK s13l1_K F
theorem s13l1_go {F : s13l1_T} {x0 x1 x2 : AVal} {x3 x4 : Int} {h : Heap} (H : F x0 x1 x2 x3 x4 h) : s13l1_G F x0 x1 x2 x3 x4 h := gJ_plain rfl H
theorem s13l1_in {F : Nat → s13l1_T} {x0 x1 x2 : AVal} {x3 x4 : Int} {h : Heap} (n : Nat) (H : F n x0 x1 x2 x3 x4 h) : s13l1_E F x0 x1 x2 x3 x4 h := gJ_plain rfl ⟨n, H⟩

abbrev s13c2_K : List Kd := [.any, .any, .any, .int .i64, .int .i64, .bool]
def s13c2 (Ψ : AVal → Heap → Prop) (L1 : s13l1_T) (s2 y1 left1 : AVal) (t34_1 t35_1 : Int) (t50 : Bool) (h : Heap) : Prop :=
 ifT t50 (
 retG (.tuple [(.bool false), (.int .i64 0)]) h Ψ) (
 rg (t35_1 + 1) (
 L1 s2 y1 left1 t34_1 (t35_1 + 1) h))

def s13l1 (Ψ : AVal → Heap → Prop) : Nat → s13l1_T
 | 0, _, _, _, _, _, _ => False
 | n1 + 1, s1, y, left, t34, t35, h =>
 ifT (decide (t35 < t34)) (
 Sym.newRow 1 [(.int .i64 0)] h fun r1 h_5 =>
 st true h_5 (.ptr r1 0 0) [(.int .i64 t35)] fun h_6 =>
 callG prog 48 [left, (.func (.func 49) [] [y, (.ptr r1 0 0)])] h_6 fun v7 h_7 =>
 tBool v7 fun v8 =>
 ifT (!v8) (
 ld1 h_7 y fun v9 =>
 ld1 h_7 (.ptr r1 0 0) fun v10 =>
 tInt .i64 v10 fun v11 =>
 addOff s1 16 fun p1 =>
 ld1 h_7 p1 fun v12 =>
 tInt .i64 v12 fun v13 =>
 callG prog 50 [v9, (.int .i64 v11), (.int .i64 v13)] h_7 fun v14 h_8 =>
 tBool v14 fun v15 =>
 s13c2 Ψ (s13l1_G (s13l1 Ψ n1)) s1 y left t34 t35 (!v15) h_8) (
 s13c2 Ψ (s13l1_G (s13l1 Ψ n1)) s1 y left t34 t35 false h_7)) (
 retG (.tuple [(.bool true), (.int .i64 0)]) h Ψ)

def s13 (Ψ : AVal → Heap → Prop) (t : AVal) (m_Up : AVal) (m_Val : AVal) (s : AVal) (h : Heap) : Prop :=
 aggN 17 s fun cs =>
 callG prog 45 [t, (.agg [m_Up, m_Val])] h fun v h_ =>
 tTup v fun l_ =>
 tCons l_ fun v1 l_1 =>
 tCons l_1 fun v2 l_2 =>
 tInt .i64 v2 fun v3 =>
 tNil l_2 (
 Sym.newRow 1 [.nilptr] h_ fun r h_1 =>
 chk (sc v1) (
 st true h_1 (.ptr r 0 0) [v1] fun h_2 =>
 ifT (v3 != 0) (
 retG (.tuple [(.bool false), (.int .i64 v3)]) h_2 Ψ) (
 ldN 17 h_2 (.lptr cs) fun l_3 =>
 callG prog 46 [t, (.agg l_3)] h_2 fun v4 h_3 =>
 tInt .i64 v4 fun v5 =>
 ifT (v5 != 0) (
 retG (.tuple [(.bool false), (.int .i64 v5)]) h_3 Ψ) (
 addOff (.lptr cs) 0 fun p =>
 ldN 16 h_3 p fun l_4 =>
 callG prog 47 [(.agg l_4)] h_3 fun v6 h_4 =>
 lenN m_Up fun n =>
 s13l1_E (s13l1 Ψ) (.lptr cs) (.ptr r 0 0) v6 n 0 h_4))))

def s13_A (Ψ : AVal → Heap → Prop) : Ann :=
 .seq (.reg [⟨none, [(0, true), (1, true), (2, false), (3, false)]⟩])
 (.seq (rA 9)
 (.seq (.seq (rA 2)
 (.cond (.seq (rA 3)
 (.leaf))
 (.leaf)))
 (.seq (.seq (rA 4)
 (.seq (rA 2)
 (.cond (.seq (rA 3)
 (.leaf))
 (.leaf))))
 (.seq (rA 4)
 (.seq (.seq (rA 4)
 (.block (loopK [5, 8, 11, 34, 35] s13l1_K (s13l1 Ψ) (fun L1 =>
 .seq (rA 1)
 (.seq (.cond (.leaf)
 (.leaf))
 (.seq (.block (.seq (rA 3)
 (.seq (rA 5)
 (cutK [5, 8, 11, 34, 35, 50] s13c2_K (s13c2 Ψ (LK s13l1_K L1)) (.reg [⟨none, [(0, false), (1, false)]⟩, ⟨some (43, true), [(2, false), (3, false), (4, false), (5, false), (6, false), (7, false)]⟩, ⟨none, [(8, false)]⟩])
 (.cond (.seq (rA 2)
 (.leaf))
 (.leaf))))))
 (rA 2)))))))
 (.seq (rA 2)
 (.leaf)))))))

theorem s13_ok {Ψ : AVal → Heap → Prop} {t : AVal} {m_Up : AVal} {m_Val : AVal} {s : AVal} {h : Heap} (H : s13 Ψ t m_Up m_Val s h) : ACalls prog 13 [t, (.agg [m_Up, m_Val]), s] h Ψ :=
 calls_of_evF func13 (by kernel_rfl) (by kernel_rfl) (by kernel_rfl)
 (Eq.mpr (by as_aux_lemma => kernel_rfl : oblF prog f13 (s13_A Ψ) Ψ = ((True) ∧ ((True) ∧ ((otP 13) ∧ ((otP 53) ∧ ((True) ∧ (((True) ∧ ((NK s13l1_K (s13l1 Ψ 0)) ∧ (∀ n1 : Nat, (QK s13l1_K (s13l1 Ψ (n1 + 1))) ∧ ((True) ∧ ((otP 1) ∧ (((True) ∧ ((True) ∧ ((True) ∧ ((QK s13c2_K (s13c2 Ψ (s13l1_G (s13l1 Ψ n1)))) ∧ (otP 3))))) ∧ (True))))))) ∧ (otP 1)))))))) (⟨trivial, ⟨trivial, ⟨otP_ok 13, ⟨otP_ok 53, ⟨trivial, ⟨⟨trivial, ⟨fun _ _ _ _ _ _ H => H, fun _ => ⟨oI, ⟨trivial, ⟨otP_ok 1, ⟨⟨trivial, ⟨trivial, ⟨trivial, ⟨oI, otP_ok 3⟩⟩⟩⟩, trivial⟩⟩⟩⟩⟩⟩, otP_ok 1⟩⟩⟩⟩⟩⟩))
 (Eq.mpr (by as_aux_lemma => kernel_rfl : evF prog f13 (s13_A Ψ) Ψ [t, (.agg [m_Up, m_Val]), s] h = s13 Ψ t m_Up m_Val s h) H)

/- 15 dictum/dictumref18.Holds -/
abbrev s15l1_T := AVal → AVal → AVal → AVal → Int → Heap → Prop
abbrev s15l1_K : List Kd := [.any, .any, .any, .any, .int .i64]
def s15l1_G (F : s15l1_T) : s15l1_T := GK s15l1_K F
def s15l1_E (F : Nat → s15l1_T) : s15l1_T := EK s15l1_K F
theorem s15l1_go {F : s15l1_T} {x0 x1 x2 x3 : AVal} {x4 : Int} {h : Heap} (H : F x0 x1 x2 x3 x4 h) : s15l1_G F x0 x1 x2 x3 x4 h := gJ_plain rfl H
theorem s15l1_in {F : Nat → s15l1_T} {x0 x1 x2 x3 : AVal} {x4 : Int} {h : Heap} (n : Nat) (H : F n x0 x1 x2 x3 x4 h) : s15l1_E F x0 x1 x2 x3 x4 h := gJ_plain rfl ⟨n, H⟩

abbrev s15l2_T := AVal → AVal → AVal → AVal → Int → Bool → Int → Heap → Prop
abbrev s15l2_K : List Kd := [.any, .any, .any, .any, .int .i64, .bool, .int .i64]
def s15l2_G (F : s15l2_T) : s15l2_T := GK s15l2_K F
def s15l2_E (F : Nat → s15l2_T) : s15l2_T := EK s15l2_K F
theorem s15l2_go {F : s15l2_T} {x0 x1 x2 x3 : AVal} {x4 : Int} {x5 : Bool} {x6 : Int} {h : Heap} (H : F x0 x1 x2 x3 x4 x5 x6 h) : s15l2_G F x0 x1 x2 x3 x4 x5 x6 h := gJ_plain rfl H
theorem s15l2_in {F : Nat → s15l2_T} {x0 x1 x2 x3 : AVal} {x4 : Int} {x5 : Bool} {x6 : Int} {h : Heap} (n : Nat) (H : F n x0 x1 x2 x3 x4 x5 x6 h) : s15l2_E F x0 x1 x2 x3 x4 x5 x6 h := gJ_plain rfl ⟨n, H⟩

abbrev s15c3_K : List Kd := [.any, .any, .any, .any, .int .i64, .bool, .int .i64]
def s15c3 (Ψ : AVal → Heap → Prop) (L1 : s15l1_T) (L2 : s15l2_T) (s3 o2 f2 l_7 : AVal) (w2 : Int) (all1 : Bool) (i1 : Int) (h : Heap) : Prop :=
 rg (i1 + 1) (
 L2 s3 o2 f2 l_7 w2 all1 (i1 + 1) h)

abbrev s15c4_K : List Kd := [.any, .any, .any, .any, .int .i64, .bool]
def s15c4 (Ψ : AVal → Heap → Prop) (L1 : s15l1_T) (s4 o3 f3 l_8 : AVal) (w3 : Int) (t77 : Bool) (h : Heap) : Prop :=
 ifT t77 (
 retG (.tuple [(.bool false), (.int .i64 0)]) h Ψ) (
 rg (w3 + 1) (
 L1 s4 o3 f3 l_8 (w3 + 1) h))

def s15l2 (Ψ : AVal → Heap → Prop) (L1 : s15l1_T) : Nat → s15l2_T
 | 0, _, _, _, _, _, _, _, _ => False
 | n3 + 1, s2, o1, f1, l_6, w1, all, i, h =>
 lenN l_6 fun n4 =>
 ifT (decide (i < n4)) (
 ifT all (
 ixS 1 l_6 i fun p3 =>
 ld1 h p3 fun v9 =>
 tInt .i64 v9 fun v10 =>
 ixS 1 f1 v10 fun p4 =>
 ld1 h p4 fun v11 =>
 ixS 1 v11 w1 fun p5 =>
 ld1 h p5 fun v12 =>
 tBool v12 fun v13 =>
 s15c3 Ψ L1 (s15l2_G (s15l2 Ψ L1 n3)) s2 o1 f1 l_6 w1 v13 i h) (
 s15c3 Ψ L1 (s15l2_G (s15l2 Ψ L1 n3)) s2 o1 f1 l_6 w1 false i h)) (
 ifT all (
 addOff s2 16 fun p6 =>
 ld1 h p6 fun v14 =>
 tInt .i64 v14 fun v15 =>
 ixS 1 f1 v15 fun p7 =>
 ld1 h p7 fun v16 =>
 ixS 1 v16 w1 fun p8 =>
 ld1 h p8 fun v17 =>
 tBool v17 fun v18 =>
 s15c4 Ψ L1 s2 o1 f1 l_6 w1 (!v18) h) (
 s15c4 Ψ L1 s2 o1 f1 l_6 w1 false h))

def s15l1 (Ψ : AVal → Heap → Prop) : Nat → s15l1_T
 | 0, _, _, _, _, _, _ => False
 | n1 + 1, s1, o, f, l_5, w, h =>
 lenN o fun n2 =>
 ifT (decide (w < n2)) (
 s15l2_E (s15l2 Ψ (s15l1_G (s15l1 Ψ n1))) s1 o f l_5 w true 0 h) (
 retG (.tuple [(.bool true), (.int .i64 0)]) h Ψ)

def s15 (Ψ : AVal → Heap → Prop) (t : AVal) (m_Up : AVal) (m_Val : AVal) (s : AVal) (h : Heap) : Prop :=
 aggN 17 s fun cs =>
 callG prog 51 [(.agg [m_Up, m_Val])] h fun v h_ =>
 tTup v fun l_ =>
 tCons l_ fun v1 l_1 =>
 tCons l_1 fun v2 l_2 =>
 tBool v2 fun v3 =>
 tNil l_2 (
 ifT (!v3) (
 retG (.tuple [(.bool false), (.int .i64 170)]) h_ Ψ) (
 ldN 17 h_ (.lptr cs) fun l_3 =>
 callG prog 23 [t, (.agg l_3)] h_ fun v4 h_1 =>
 tBool v4 fun v5 =>
 ifT (!v5) (
 retG (.tuple [(.bool false), (.int .i64 31)]) h_1 Ψ) (
 nilCheckA t fun p =>
 addOff p 0 fun p1 =>
 ld1 h_1 p1 fun v6 =>
 lenN v6 fun n =>
 rg (n - 1) (
 callG prog 52 [t, (.agg [m_Up, m_Val]), v1, (.int .i64 (n - 1))] h_1 fun v7 h_2 =>
 addOff (.lptr cs) 0 fun p2 =>
 ldN 16 h_2 p2 fun l_4 =>
 callG prog 53 [(.agg l_4)] h_2 fun v8 h_3 =>
 s15l1_E (s15l1 Ψ) (.lptr cs) v1 v7 v8 0 h_3))))

def s15_A (Ψ : AVal → Heap → Prop) : Ann :=
 .seq (.reg [⟨none, [(0, true), (1, true), (2, false), (3, false)]⟩])
 (.seq (rA 7)
 (.seq (.block (.seq (rA 3)
 (.cond (.seq (rA 2)
 (.leaf))
 (.seq (rA 5)
 (.cond (.seq (rA 2)
 (.leaf))
 (.leaf))))))
 (.seq (.draw [(0, false), (1, false), (2, false), (3, false), (4, false), (5, false), (6, false), (7, false), (8, false), (9, false), (10, false)] [0, 0, 0, 0, 8, 24, 56, 120, 248, 511, 1023])
 (.seq (rA 4)
 (.seq (.seq (rA 1)
 (.block (loopK [5, 8, 10, 11, 12] s15l1_K (s15l1 Ψ) (fun L1 =>
 .seq (.seq (rA 4)
 (.cond (.leaf)
 (.leaf)))
 (.seq (.block (.seq (rA 1)
 (.seq (.seq (rA 1)
 (.block (loopK [5, 8, 10, 11, 12, 13, 14] s15l2_K (s15l2 Ψ (LK s15l1_K L1)) (fun L2 =>
 .seq (.seq (rA 4)
 (.cond (.leaf)
 (.leaf)))
 (cutK [5, 8, 10, 11, 12, 13, 14] s15c3_K (s15c3 Ψ (LK s15l1_K L1) (LK s15l2_K L2)) (.block (.reg [⟨none, [(0, false), (1, false)]⟩, ⟨some (54, true), [(2, false), (3, false), (4, false), (5, false), (6, false), (7, false), (8, false), (9, false), (10, false), (11, false)]⟩, ⟨none, [(12, false), (13, false)]⟩]))
 (rA 3))))))
 (cutK [5, 8, 10, 11, 12, 77] s15c4_K (s15c4 Ψ (LK s15l1_K L1)) (.reg [⟨none, [(0, false), (1, false)]⟩, ⟨some (67, true), [(2, false), (3, false), (4, false), (5, false), (6, false), (7, false), (8, false), (9, false), (10, false)]⟩, ⟨none, [(11, false)]⟩])
 (.cond (.seq (rA 2)
 (.leaf))
 (.leaf))))))
 (rA 3))))))
 (.seq (rA 2)
 (.leaf)))))))

theorem s15_ok {Ψ : AVal → Heap → Prop} {t : AVal} {m_Up : AVal} {m_Val : AVal} {s : AVal} {h : Heap} (H : s15 Ψ t m_Up m_Val s h) : ACalls prog 15 [t, (.agg [m_Up, m_Val]), s] h Ψ :=
 calls_of_evF func15 (by kernel_rfl) (by kernel_rfl) (by kernel_rfl)
 (Eq.mpr (by as_aux_lemma => kernel_rfl : oblF prog f15 (s15_A Ψ) Ψ = ((True) ∧ ((True) ∧ ((otP 845) ∧ ((True) ∧ ((True) ∧ (((True) ∧ ((NK s15l1_K (s15l1 Ψ 0)) ∧ (∀ n1 : Nat, (QK s15l1_K (s15l1 Ψ (n1 + 1))) ∧ ((otP 5) ∧ (((True) ∧ (((True) ∧ ((NK s15l2_K (s15l2 Ψ (s15l1_G (s15l1 Ψ n1)) 0)) ∧ (∀ n2 : Nat, (QK s15l2_K (s15l2 Ψ (s15l1_G (s15l1 Ψ n1)) (n2 + 1))) ∧ ((otP 5) ∧ ((True) ∧ ((QK s15c3_K (s15c3 Ψ (s15l1_G (s15l1 Ψ n1)) (s15l2_G (s15l2 Ψ (s15l1_G (s15l1 Ψ n1)) n2)))) ∧ (True))))))) ∧ ((True) ∧ ((QK s15c4_K (s15c4 Ψ (s15l1_G (s15l1 Ψ n1)))) ∧ (otP 3))))) ∧ (True)))))) ∧ (otP 1)))))))) (⟨trivial, ⟨trivial, ⟨otP_ok 845, ⟨trivial, ⟨trivial, ⟨⟨trivial, ⟨fun _ _ _ _ _ _ H => H, fun _ => ⟨oI, ⟨otP_ok 5, ⟨⟨trivial, ⟨⟨trivial, ⟨fun _ _ _ _ _ _ _ _ H => H, fun _ => ⟨oI, ⟨otP_ok 5, ⟨trivial, ⟨oI, trivial⟩⟩⟩⟩⟩⟩, ⟨trivial, ⟨oI, otP_ok 3⟩⟩⟩⟩, trivial⟩⟩⟩⟩⟩, otP_ok 1⟩⟩⟩⟩⟩⟩))
 (Eq.mpr (by as_aux_lemma => kernel_rfl : evF prog f15 (s15_A Ψ) Ψ [t, (.agg [m_Up, m_Val]), s] h = s15 Ψ t m_Up m_Val s h) H)

/- 17 dictum/dictumlaw18.heads -/
def s17 (Ψ : AVal → Heap → Prop) (h : Heap) : Prop :=
 callG prog 55 [] h fun v h_ =>
 callG prog 54 [v] h_ fun v1 h_1 =>
 tTup v1 fun l_ =>
 tCons l_ fun v2 l_1 =>
 tCons l_1 fun v3 l_2 =>
 tInt .i64 v3 fun v4 =>
 tNil l_2 (
 Sym.newRow 2 [(.agg [.nilsl, .nilsl])] h_1 fun r h_2 =>
 st false h_2 (.ptr r 0 0) [(.lsl 1 [(.lsl 1 [(.int .i64 1)]), (.lsl 1 [])]), (.lsl 1 [(.lsl 1 []), (.lsl 1 [(.str (ByteArray.mk #[112]))])])] fun h_3 =>
 ldN 2 h_3 (.ptr r 0 0) fun l_3 =>
 tCons l_3 fun v5 l_4 =>
 tCons l_4 fun v6 l_5 =>
 tNil l_5 (
 callG prog 27 [v2, (.agg [v5, v6]), (.int .i64 0), (.int .i64 3)] h_3 fun v7 h_4 =>
 tTup v7 fun l_6 =>
 tCons l_6 fun v8 l_7 =>
 tBool v8 fun v9 =>
 tCons l_7 fun v10 l_8 =>
 tInt .i64 v10 fun v11 =>
 tNil l_8 (
 ldN 2 h_4 (.ptr r 0 0) fun l_9 =>
 tCons l_9 fun v12 l_10 =>
 tCons l_10 fun v13 l_11 =>
 tNil l_11 (
 callG prog 27 [v2, (.agg [v12, v13]), (.int .i64 0), (.int .i64 4)] h_4 fun v14 h_5 =>
 tTup v14 fun l_12 =>
 tCons l_12 fun v15 l_13 =>
 tBool v15 fun v16 =>
 tCons l_13 fun v17 l_14 =>
 tInt .i64 v17 fun v18 =>
 tNil l_14 (
 ldN 2 h_5 (.ptr r 0 0) fun l_15 =>
 tCons l_15 fun v19 l_16 =>
 tCons l_16 fun v20 l_17 =>
 tNil l_17 (
 callG prog 29 [v2, (.agg [v19, v20]), (.int .i64 1)] h_5 fun v21 h_6 =>
 tTup v21 fun l_18 =>
 tCons l_18 fun v22 l_19 =>
 tCons l_19 fun v23 l_20 =>
 tInt .i64 v23 fun v24 =>
 tNil l_20 (
 Sym.newRow 16 [(.agg [(.int .u64 0), (.int .u64 0), (.int .u64 0), (.int .u64 0), (.int .u64 0), (.int .u64 0), (.int .u64 0), (.int .u64 0), (.int .u64 0), (.int .u64 0), (.int .u64 0), (.int .u64 0), (.int .u64 0), (.int .u64 0), (.int .u64 0), (.int .u64 0)])] h_6 fun r1 h_7 =>
 aggN 16 v22 fun cs =>
 st false h_7 (.ptr r1 0 0) cs fun h_8 =>
 ldN 2 h_8 (.ptr r 0 0) fun l_21 =>
 tCons l_21 fun v25 l_22 =>
 tCons l_22 fun v26 l_23 =>
 tNil l_23 (
 callG prog 31 [v2, (.agg [v25, v26]), (.int .i64 4)] h_8 fun v27 h_9 =>
 tTup v27 fun l_24 =>
 tCons l_24 fun v28 l_25 =>
 tCons l_25 fun v29 l_26 =>
 tInt .i64 v29 fun v30 =>
 tNil l_26 (
 ldN 2 h_9 (.ptr r 0 0) fun l_27 =>
 tCons l_27 fun v31 l_28 =>
 tCons l_28 fun v32 l_29 =>
 tNil l_29 (
 callG prog 22 [v2, (.agg [v31, v32]), (.int .i64 3)] h_9 fun v33 h_10 =>
 tTup v33 fun l_30 =>
 tCons l_30 fun v34 l_31 =>
 tBool v34 fun v35 =>
 tCons l_31 fun v36 l_32 =>
 tInt .i64 v36 fun v37 =>
 tNil l_32 (
 ldN 2 h_10 (.ptr r 0 0) fun l_33 =>
 tCons l_33 fun v38 l_34 =>
 tCons l_34 fun v39 l_35 =>
 tNil l_35 (
 callG prog 13 [v2, (.agg [v38, v39]), (.agg [(.int .u64 16), (.int .u64 0), (.int .u64 0), (.int .u64 0), (.int .u64 0), (.int .u64 0), (.int .u64 0), (.int .u64 0), (.int .u64 0), (.int .u64 0), (.int .u64 0), (.int .u64 0), (.int .u64 0), (.int .u64 0), (.int .u64 0), (.int .u64 0), (.int .i64 0)])] h_10 fun v40 h_11 =>
 tTup v40 fun l_36 =>
 tCons l_36 fun v41 l_37 =>
 tBool v41 fun v42 =>
 tCons l_37 fun v43 l_38 =>
 tInt .i64 v43 fun v44 =>
 tNil l_38 (
 ldN 2 h_11 (.ptr r 0 0) fun l_39 =>
 tCons l_39 fun v45 l_40 =>
 tCons l_40 fun v46 l_41 =>
 tNil l_41 (
 callG prog 19 [v2, (.agg [v45, v46]), (.int .i64 3)] h_11 fun v47 h_12 =>
 tTup v47 fun l_42 =>
 tCons l_42 fun v48 l_43 =>
 tBool v48 fun v49 =>
 tCons l_43 fun v50 l_44 =>
 tCons l_44 fun v51 l_45 =>
 tInt .i64 v51 fun v52 =>
 tNil l_45 (
 tAgg v50 fun l_46 =>
 tCons l_46 fun v53 l_47 =>
 tCons l_47 fun v54 l_48 =>
 tNil l_48 (
 Sym.newRow 2 [(.agg [.nilsl, .nilsl])] h_12 fun r2 h_13 =>
 st false h_13 (.ptr r2 0 0) [v53, v54] fun h_14 =>
 callG prog 19 [v2, (.agg [(.lsl 1 [(.lsl 1 [])]), (.lsl 1 [(.lsl 1 [])])]), (.int .i64 3)] h_14 fun v55 h_15 =>
 tTup v55 fun l_49 =>
 tCons l_49 fun v56 l_50 =>
 tBool v56 fun v57 =>
 tCons l_50 fun v58 l_51 =>
 tCons l_51 fun v59 l_52 =>
 tInt .i64 v59 fun v60 =>
 tNil l_52 (
 tAgg v58 fun l_53 =>
 tCons l_53 fun v61 l_54 =>
 tCons l_54 fun v62 l_55 =>
 tNil l_55 (
 Sym.newRow 2 [(.agg [.nilsl, .nilsl])] h_15 fun r3 h_16 =>
 st false h_16 (.ptr r3 0 0) [v61, v62] fun h_17 =>
 callG prog 16 [(.int .i64 v11)] h_17 fun v63 h_18 =>
 tInt .i64 v63 fun v64 =>
 ifT (v64 == 0) (
 ifT (!v9) (
 callG prog 16 [(.int .i64 v18)] h_18 fun v65 h_19 =>
 tInt .i64 v65 fun v66 =>
 ifT (v66 == 0) (
 ifT v16 (
 callG prog 16 [(.int .i64 v24)] h_19 fun v67 h_20 =>
 tInt .i64 v67 fun v68 =>
 ifT (v68 == 0) (
 ldN 16 h_20 (.ptr r1 0 0) fun l_56 =>
 eqQ prog 29 (.agg l_56) (.agg [(.int .u64 25), (.int .u64 0), (.int .u64 0), (.int .u64 0), (.int .u64 0), (.int .u64 0), (.int .u64 0), (.int .u64 0), (.int .u64 0), (.int .u64 0), (.int .u64 0), (.int .u64 0), (.int .u64 0), (.int .u64 0), (.int .u64 0), (.int .u64 0)]) fun b =>
 ifT b (
 callG prog 16 [(.int .i64 v30)] h_20 fun v69 h_21 =>
 tInt .i64 v69 fun v70 =>
 ifT (v70 == 0) (
 lenN v28 fun n =>
 ifT (n == 2) (
 callG prog 16 [(.int .i64 v37)] h_21 fun v71 h_22 =>
 tInt .i64 v71 fun v72 =>
 ifT (v72 == 0) (
 ifT (!v35) (
 callG prog 16 [(.int .i64 v44)] h_22 fun v73 h_23 =>
 tInt .i64 v73 fun v74 =>
 ifT (v74 == 0) (
 ifT (!v42) (
 callG prog 16 [(.int .i64 v52)] h_23 fun v75 h_24 =>
 tInt .i64 v75 fun v76 =>
 ifT (v76 == 0) (
 ifT (!v49) (
 ldN 2 h_24 (.ptr r2 0 0) fun l_57 =>
 tCons l_57 fun v77 l_58 =>
 tCons l_58 fun v78 l_59 =>
 tNil l_59 (
 ldN 2 h_24 (.ptr r 0 0) fun l_60 =>
 tCons l_60 fun v79 l_61 =>
 tCons l_61 fun v80 l_62 =>
 tNil l_62 (
 callG prog 20 [(.agg [v77, v78]), (.agg [v79, v80])] h_24 fun v81 h_25 =>
 tBool v81 fun v82 =>
 ifT v82 (
 callG prog 16 [(.int .i64 v60)] h_25 fun v83 h_26 =>
 tInt .i64 v83 fun v84 =>
 ifT (v84 == 0) (
 ifT v57 (
 ld1 h_26 (.ptr r3 0 0) fun v85 =>
 lenN v85 fun n1 =>
 retG (.bool (n1 == 0)) h_26 Ψ) (
 retG (.bool false) h_26 Ψ)) (
 retG (.bool false) h_26 Ψ)) (
 retG (.bool false) h_25 Ψ)))) (
 retG (.bool false) h_24 Ψ)) (
 retG (.bool false) h_24 Ψ)) (
 retG (.bool false) h_23 Ψ)) (
 retG (.bool false) h_23 Ψ)) (
 retG (.bool false) h_22 Ψ)) (
 retG (.bool false) h_22 Ψ)) (
 retG (.bool false) h_21 Ψ)) (
 retG (.bool false) h_21 Ψ)) (
 retG (.bool false) h_20 Ψ)) (
 retG (.bool false) h_20 Ψ)) (
 retG (.bool false) h_19 Ψ)) (
 retG (.bool false) h_19 Ψ)) (
 retG (.bool false) h_18 Ψ)) (
 retG (.bool false) h_18 Ψ)))))))))))))))))))

def s17_A (Ψ : AVal → Heap → Prop) : Ann :=
 .seq (rA 1)
 (.seq (rA 7)
 (.seq (.reg [⟨none, [(0, true), (1, true), (2, true), (3, true), (4, true), (5, true), (6, false), (7, false), (8, false)]⟩])
 (.seq (rA 8)
 (.seq (rA 8)
 (.seq (rA 9)
 (.seq (rA 8)
 (.seq (rA 8)
 (.seq (rA 10)
 (.seq (rA 11)
 (.seq (.reg [⟨none, [(0, false), (1, true), (2, true), (3, true), (4, true), (5, false), (6, false), (7, false), (8, false), (9, false), (10, false), (11, false), (12, false), (13, false), (14, false)]⟩])
 (.seq (.reg [⟨none, [(0, false), (1, false), (2, false), (3, false)]⟩, ⟨some (93, true), [(4, false), (5, false)]⟩, ⟨none, [(6, false), (7, false)]⟩, ⟨some (97, true), [(8, false), (9, false), (10, false)]⟩, ⟨none, [(11, false), (12, false)]⟩, ⟨some (102, true), [(13, false)]⟩, ⟨none, [(14, false), (15, false)]⟩, ⟨some (105, true), [(16, false), (17, false), (18, false)]⟩, ⟨none, [(19, false), (20, false)]⟩, ⟨some (110, true), [(21, false), (22, false), (23, false)]⟩, ⟨none, [(24, false), (25, false)]⟩, ⟨some (115, true), [(26, false), (27, false), (28, false)]⟩, ⟨none, [(29, false), (30, false)]⟩, ⟨some (120, true), [(31, false), (32, false), (33, false)]⟩, ⟨none, [(34, false), (35, false)]⟩, ⟨some (125, true), [(36, false), (37, false), (38, false)]⟩, ⟨none, [(39, false), (40, false)]⟩, ⟨some (130, true), [(41, false), (42, false)]⟩, ⟨none, [(43, false), (44, false)]⟩, ⟨some (134, true), [(45, false), (46, false), (47, false)]⟩, ⟨none, [(48, false), (49, false)]⟩, ⟨some (139, true), [(50, false), (51, false)]⟩, ⟨none, [(52, false), (53, false)]⟩, ⟨some (143, true), [(54, false), (55, false), (56, false)]⟩, ⟨none, [(57, false), (58, false)]⟩, ⟨some (148, true), [(59, false), (60, false)]⟩, ⟨none, [(61, false), (62, false)]⟩, ⟨some (152, true), [(63, false), (64, false), (65, false)]⟩, ⟨none, [(66, false), (67, false)]⟩, ⟨some (157, true), [(68, false), (69, false), (70, false)]⟩, ⟨none, [(71, false), (72, false)]⟩, ⟨some (162, true), [(73, false)]⟩, ⟨none, [(74, false), (75, false)]⟩, ⟨some (165, true), [(76, false), (77, false), (78, false), (79, false)]⟩, ⟨none, [(80, false), (81, false)]⟩])
 (.leaf))))))))))))

theorem s17_ok {Ψ : AVal → Heap → Prop} {h : Heap} (H : s17 Ψ  h) : ACalls prog 17 [] h Ψ :=
 calls_of_evF func17 (by kernel_rfl) (by kernel_rfl) (by kernel_rfl)
 (Eq.mpr (by as_aux_lemma => kernel_rfl : oblF prog f17 (s17_A Ψ) Ψ = (otP 5592405)) (otP_ok 5592405))
 (Eq.mpr (by as_aux_lemma => kernel_rfl : evF prog f17 (s17_A Ψ) Ψ [] h = s17 Ψ  h) H)

/- 20 dictum/dictumref17.Same -/
abbrev s20l2_T := AVal → AVal → Int → Heap → Prop
abbrev s20l2_K : List Kd := [.any, .any, .int .i64]
def s20l2_G (F : s20l2_T) : s20l2_T := GK s20l2_K F
def s20l2_E (F : Nat → s20l2_T) : s20l2_T := EK s20l2_K F
theorem s20l2_go {F : s20l2_T} {x0 x1 : AVal} {x2 : Int} {h : Heap} (H : F x0 x1 x2 h) : s20l2_G F x0 x1 x2 h := gJ_plain rfl H
theorem s20l2_in {F : Nat → s20l2_T} {x0 x1 : AVal} {x2 : Int} {h : Heap} (n : Nat) (H : F n x0 x1 x2 h) : s20l2_E F x0 x1 x2 h := gJ_plain rfl ⟨n, H⟩

abbrev s20l3_T := AVal → AVal → Int → Heap → Prop
abbrev s20l3_K : List Kd := [.any, .any, .int .i64]
def s20l3_G (F : s20l3_T) : s20l3_T := GK s20l3_K F
def s20l3_E (F : Nat → s20l3_T) : s20l3_T := EK s20l3_K F
theorem s20l3_go {F : s20l3_T} {x0 x1 : AVal} {x2 : Int} {h : Heap} (H : F x0 x1 x2 h) : s20l3_G F x0 x1 x2 h := gJ_plain rfl H
theorem s20l3_in {F : Nat → s20l3_T} {x0 x1 : AVal} {x2 : Int} {h : Heap} (n : Nat) (H : F n x0 x1 x2 h) : s20l3_E F x0 x1 x2 h := gJ_plain rfl ⟨n, H⟩

def s20l3 (Ψ : AVal → Heap → Prop) : Nat → s20l3_T
 | 0, _, _, _, _ => False
 | n2 + 1, a2, b2, i1, h =>
 addOff a2 1 fun p5 =>
 ld1 h p5 fun v7 =>
 lenN v7 fun n3 =>
 ifT (decide (i1 < n3)) (
 addOff a2 1 fun p6 =>
 ld1 h p6 fun v8 =>
 ixS 1 v8 i1 fun p7 =>
 ld1 h p7 fun v9 =>
 addOff b2 1 fun p8 =>
 ld1 h p8 fun v10 =>
 ixS 1 v10 i1 fun p9 =>
 ld1 h p9 fun v11 =>
 callG prog 63 [v9, v11] h fun v12 h_1 =>
 tBool v12 fun v13 =>
 ifT (!v13) (
 retG (.bool false) h_1 Ψ) (
 rg (i1 + 1) (
 s20l3_G (s20l3 Ψ n2) a2 b2 (i1 + 1) h_1))) (
 retG (.bool true) h Ψ)

def s20l2 (Ψ : AVal → Heap → Prop) : Nat → s20l2_T
 | 0, _, _, _, _ => False
 | n + 1, a1, b1, i, h =>
 addOff a1 0 fun p =>
 ld1 h p fun v =>
 lenN v fun n1 =>
 ifT (decide (i < n1)) (
 addOff a1 0 fun p1 =>
 ld1 h p1 fun v1 =>
 ixS 1 v1 i fun p2 =>
 ld1 h p2 fun v2 =>
 addOff b1 0 fun p3 =>
 ld1 h p3 fun v3 =>
 ixS 1 v3 i fun p4 =>
 ld1 h p4 fun v4 =>
 callG prog 33 [v2, v4] h fun v5 h_ =>
 tBool v5 fun v6 =>
 ifT (!v6) (
 retG (.bool false) h_ Ψ) (
 rg (i + 1) (
 s20l2_G (s20l2 Ψ n) a1 b1 (i + 1) h_))) (
 s20l3_E (s20l3 Ψ) a1 b1 0 h)

abbrev s20c1_K : List Kd := [.any, .any, .bool]
def s20c1 (Ψ : AVal → Heap → Prop) (a b : AVal) (t22 : Bool) (h : Heap) : Prop :=
 ifT t22 (
 retG (.bool false) h Ψ) (
 s20l2_E (s20l2 Ψ) a b 0 h)

def s20 (Ψ : AVal → Heap → Prop) (a_Up : AVal) (a_Val : AVal) (b_Up : AVal) (b_Val : AVal) (h : Heap) : Prop :=
 lenN a_Up fun n6 =>
 lenN b_Up fun n7 =>
 ifT (n6 != n7) (
 s20c1 Ψ (.lptr [a_Up, a_Val]) (.lptr [b_Up, b_Val]) true h) (
 lenN a_Val fun n8 =>
 lenN b_Val fun n9 =>
 s20c1 Ψ (.lptr [a_Up, a_Val]) (.lptr [b_Up, b_Val]) (n8 != n9) h)

def s20_A (Ψ : AVal → Heap → Prop) : Ann :=
 .seq (.reg [⟨none, [(0, true), (1, true), (2, false)]⟩])
 (.seq (cutK [2, 3, 22] s20c1_K (s20c1 Ψ) (.reg [⟨none, [(0, false), (1, false), (2, false), (3, false), (4, false), (5, false), (6, false), (7, false)]⟩, ⟨some (14, false), [(8, false), (9, false), (10, false), (11, false), (12, false), (13, false), (14, false)]⟩, ⟨none, [(15, false)]⟩])
 (.cond (.seq (rA 1)
 (.leaf))
 (.leaf)))
 (.seq (.seq (rA 1)
 (.block (loopK [2, 3, 5] s20l2_K (s20l2 Ψ) (fun L2 =>
 .seq (.seq (rA 5)
 (.cond (.leaf)
 (.leaf)))
 (.seq (.block (.seq (.draw [(0, false), (1, false), (2, false), (3, false), (4, false), (5, false), (6, false), (7, false), (8, false), (9, false), (10, false), (11, false)] [0, 1, 0, 7, 15, 0, 32, 0, 224, 480, 1023, 2047])
 (.cond (.seq (rA 1)
 (.leaf))
 (.leaf))))
 (rA 3))))))
 (.seq (.seq (rA 1)
 (.block (loopK [2, 3, 6] s20l3_K (s20l3 Ψ) (fun L3 =>
 .seq (.seq (rA 5)
 (.cond (.leaf)
 (.leaf)))
 (.seq (.block (.seq (.draw [(0, false), (1, false), (2, false), (3, false), (4, false), (5, false), (6, false), (7, false), (8, false), (9, false), (10, false), (11, false)] [0, 1, 0, 7, 15, 0, 32, 0, 224, 480, 1023, 2047])
 (.cond (.seq (rA 1)
 (.leaf))
 (.leaf))))
 (rA 3))))))
 (.seq (rA 1)
 (.leaf)))))

theorem s20_ok {Ψ : AVal → Heap → Prop} {a_Up : AVal} {a_Val : AVal} {b_Up : AVal} {b_Val : AVal} {h : Heap} (H : s20 Ψ a_Up a_Val b_Up b_Val h) : ACalls prog 20 [(.agg [a_Up, a_Val]), (.agg [b_Up, b_Val])] h Ψ :=
 calls_of_evF func20 (by kernel_rfl) (by kernel_rfl) (by kernel_rfl)
 (Eq.mpr (by as_aux_lemma => kernel_rfl : oblF prog f20 (s20_A Ψ) Ψ = ((True) ∧ (((True) ∧ ((QK s20c1_K (s20c1 Ψ)) ∧ (otP 3))) ∧ (((True) ∧ ((NK s20l2_K (s20l2 Ψ 0)) ∧ (∀ n2 : Nat, (QK s20l2_K (s20l2 Ψ (n2 + 1))) ∧ (otP 1739)))) ∧ (((True) ∧ ((NK s20l3_K (s20l3 Ψ 0)) ∧ (∀ n3 : Nat, (QK s20l3_K (s20l3 Ψ (n3 + 1))) ∧ (otP 1739)))) ∧ (otP 1)))))) (⟨trivial, ⟨⟨trivial, ⟨oI, otP_ok 3⟩⟩, ⟨⟨trivial, ⟨fun _ _ _ _ H => H, fun _ => ⟨oI, otP_ok 1739⟩⟩⟩, ⟨⟨trivial, ⟨fun _ _ _ _ H => H, fun _ => ⟨oI, otP_ok 1739⟩⟩⟩, otP_ok 1⟩⟩⟩⟩))
 (Eq.mpr (by as_aux_lemma => kernel_rfl : evF prog f20 (s20_A Ψ) Ψ [(.agg [a_Up, a_Val]), (.agg [b_Up, b_Val])] h = s20 Ψ a_Up a_Val b_Up b_Val h) H)

/- 23 dictum/dictumref08.Right -/
abbrev s23l1_T := AVal → AVal → AVal → Int → Heap → Prop
abbrev s23l1_K : List Kd := [.any, .any, .any, .int .i64]
def s23l1_G (F : s23l1_T) : s23l1_T := GK s23l1_K F
def s23l1_E (F : Nat → s23l1_T) : s23l1_T := EK s23l1_K F
theorem s23l1_go {F : s23l1_T} {x0 x1 x2 : AVal} {x3 : Int} {h : Heap} (H : F x0 x1 x2 x3 h) : s23l1_G F x0 x1 x2 x3 h := gJ_plain rfl H
theorem s23l1_in {F : Nat → s23l1_T} {x0 x1 x2 : AVal} {x3 : Int} {h : Heap} (n : Nat) (H : F n x0 x1 x2 x3 h) : s23l1_E F x0 x1 x2 x3 h := gJ_plain rfl ⟨n, H⟩

def s23l1 (Ψ : AVal → Heap → Prop) : Nat → s23l1_T
 | 0, _, _, _, _, _ => False
 | n + 1, t1, s1, l_1, i, h =>
 lenN l_1 fun n1 =>
 ifT (decide (i < n1)) (
 ixS 1 l_1 i fun p1 =>
 ld1 h p1 fun v1 =>
 tInt .i64 v1 fun v2 =>
 callG prog 24 [t1, (.int .i64 v2)] h fun v3 h_1 =>
 tBool v3 fun v4 =>
 ifT (!v4) (
 retG (.bool false) h_1 Ψ) (
 rg (i + 1) (
 s23l1_G (s23l1 Ψ n) t1 s1 l_1 (i + 1) h_1))) (
 addOff s1 16 fun p2 =>
 ld1 h p2 fun v5 =>
 tInt .i64 v5 fun v6 =>
 callG prog 24 [t1, (.int .i64 v6)] h fun v7 h_2 =>
 tBool v7 fun v8 =>
 retG (.bool v8) h_2 Ψ)

def s23 (Ψ : AVal → Heap → Prop) (t : AVal) (s : AVal) (h : Heap) : Prop :=
 aggN 17 s fun cs =>
 addOff (.lptr cs) 0 fun p =>
 ldN 16 h p fun l_ =>
 callG prog 53 [(.agg l_)] h fun v h_ =>
 s23l1_E (s23l1 Ψ) t (.lptr cs) v 0 h_

def s23_A (Ψ : AVal → Heap → Prop) : Ann :=
 .seq (.reg [⟨none, [(0, true), (1, false)]⟩])
 (.seq (rA 4)
 (.seq (.seq (rA 1)
 (.block (loopK [0, 3, 5, 6] s23l1_K (s23l1 Ψ) (fun L1 =>
 .seq (.seq (rA 4)
 (.cond (.leaf)
 (.leaf)))
 (.seq (.block (.seq (rA 7)
 (.cond (.seq (rA 1)
 (.leaf))
 (.leaf))))
 (rA 3))))))
 (.seq (rA 5)
 (.leaf))))

theorem s23_ok {Ψ : AVal → Heap → Prop} {t : AVal} {s : AVal} {h : Heap} (H : s23 Ψ t s h) : ACalls prog 23 [t, s] h Ψ :=
 calls_of_evF func23 (by kernel_rfl) (by kernel_rfl) (by kernel_rfl)
 (Eq.mpr (by as_aux_lemma => kernel_rfl : oblF prog f23 (s23_A Ψ) Ψ = ((True) ∧ ((True) ∧ (((True) ∧ ((NK s23l1_K (s23l1 Ψ 0)) ∧ (∀ n1 : Nat, (QK s23l1_K (s23l1 Ψ (n1 + 1))) ∧ (otP 1739)))) ∧ (otP 1))))) (⟨trivial, ⟨trivial, ⟨⟨trivial, ⟨fun _ _ _ _ _ H => H, fun _ => ⟨oI, otP_ok 1739⟩⟩⟩, otP_ok 1⟩⟩⟩))
 (Eq.mpr (by as_aux_lemma => kernel_rfl : evF prog f23 (s23_A Ψ) Ψ [t, s] h = s23 Ψ t s h) H)

/- 38 dictum/dictumref05.Has -/
def s38 (Ψ : AVal → Heap → Prop) (b : AVal) (n : Int) (h : Heap) : Prop :=
 aggN 16 b fun cs =>
 ifT (decide (0 ≤ n)) (
 ifT (decide (n < 1024)) (
 64 ≠ (0 : Int) ∧
 rg (Int.tdiv n 64) (
 ixP 16 1 (.lptr cs) (Int.tdiv n 64) fun p =>
 ld1 h p fun v =>
 tInt .u64 v fun v1 =>
 64 ≠ (0 : Int) ∧
 (0 : Int) ≤ (IntKind.u64.wrap (Int.tmod n 64)) ∧
 retG (.bool ((bitsI .and .u64 (Int.fdiv v1 (2 ^ (min (Int.toNat (IntKind.u64.wrap (Int.tmod n 64))) (IntKind.u64.bits)))) 1) == 1)) h Ψ)) (
 retG (.bool false) h Ψ)) (
 retG (.bool false) h Ψ)

def s38_A (Ψ : AVal → Heap → Prop) : Ann :=
 .seq (.reg [⟨none, [(0, true), (1, false)]⟩])
 (.seq (.reg [⟨none, [(0, false), (1, false), (2, false)]⟩, ⟨some (7, true), [(3, false), (4, false)]⟩, ⟨none, [(5, false), (6, false)]⟩, ⟨some (11, true), [(7, false), (8, false), (9, false), (10, false), (11, false), (12, false), (13, false), (14, false), (15, false), (16, false)]⟩, ⟨none, [(17, false), (18, false)]⟩])
 (.leaf))

theorem s38_ok {Ψ : AVal → Heap → Prop} {b : AVal} {n : Int} {h : Heap} (H : s38 Ψ b n h) : ACalls prog 38 [b, (.int .i64 n)] h Ψ :=
 calls_of_evF func38 (by kernel_rfl) (by kernel_rfl) (by kernel_rfl)
 (Eq.mpr (by as_aux_lemma => kernel_rfl : oblF prog f38 (s38_A Ψ) Ψ = (otP 5)) (otP_ok 5))
 (Eq.mpr (by as_aux_lemma => kernel_rfl : evF prog f38 (s38_A Ψ) Ψ [b, (.int .i64 n)] h = s38 Ψ b n h) H)

/- 44 dictum/formula.New -/
def s44 (Ψ : AVal → Heap → Prop) (h : Heap) : Prop :=
 newMap h fun r h_ =>
 Sym.newRow 2 [(.agg [.nilsl, (.mapr r)])] h_ fun r1 h_1 =>
 retG (.ptr r1 0 0) h_1 Ψ

def s44_A (Ψ : AVal → Heap → Prop) : Ann :=
 .seq (rA 1)
 (.seq (rA 4)
 (.leaf))

theorem s44_ok {Ψ : AVal → Heap → Prop} {h : Heap} (H : s44 Ψ  h) : ACalls prog 44 [] h Ψ :=
 calls_of_evF func44 (by kernel_rfl) (by kernel_rfl) (by kernel_rfl)
 (Eq.mpr (by as_aux_lemma => kernel_rfl : oblF prog f44 (s44_A Ψ) Ψ = (otP 5)) (otP_ok 5))
 (Eq.mpr (by as_aux_lemma => kernel_rfl : evF prog f44 (s44_A Ψ) Ψ [] h = s44 Ψ  h) H)

/- 46 dictum/sequent.Check -/
abbrev s46c1_K : List Kd := [.bool]
def s46c1 (Ψ : AVal → Heap → Prop) (t31 : Bool) (h : Heap) : Prop :=
 ifT t31 (
 retG (.int .i64 31) h Ψ) (
 retG (.int .i64 0) h Ψ)

def s46 (Ψ : AVal → Heap → Prop) (t : AVal) (s : AVal) (h : Heap) : Prop :=
 aggN 17 s fun cs =>
 callG prog 81 [t] h fun v h_ =>
 nilP v fun b =>
 ifT b (
 retG (.int .i64 1) h_ Ψ) (
 callG prog 67 [t] h_ fun v1 h_1 =>
 tInt .i64 v1 fun v2 =>
 addOff (.lptr cs) 0 fun p =>
 ldN 16 h_1 p fun l_ =>
 callG prog 83 [(.agg l_), (.int .i64 v2)] h_1 fun v3 h_2 =>
 tTup v3 fun l_1 =>
 tCons l_1 fun v4 l_2 =>
 tInt .i64 v4 fun v5 =>
 tCons l_2 fun v6 l_3 =>
 tBool v6 fun v7 =>
 tNil l_3 (
 ifT v7 (
 s46c1 Ψ true h_2) (
 addOff (.lptr cs) 16 fun p1 =>
 ld1 h_2 p1 fun v8 =>
 tInt .i64 v8 fun v9 =>
 ifT (decide (v9 < 0)) (
 s46c1 Ψ true h_2) (
 addOff (.lptr cs) 16 fun p2 =>
 ld1 h_2 p2 fun v10 =>
 tInt .i64 v10 fun v11 =>
 s46c1 Ψ (decide (v2 ≤ v11)) h_2))))

def s46_A (Ψ : AVal → Heap → Prop) : Ann :=
 .seq (.reg [⟨none, [(0, true), (1, false)]⟩])
 (.seq (.seq (rA 3)
 (.cond (.seq (rA 1)
 (.leaf))
 (.leaf)))
 (.seq (rA 3)
 (.seq (.seq (rA 9)
 (cutK [31] s46c1_K (s46c1 Ψ) (.reg [⟨none, [(0, false), (1, false)]⟩, ⟨some (21, false), [(2, false), (3, false), (4, false)]⟩, ⟨none, [(5, false), (6, false)]⟩, ⟨some (26, false), [(7, false), (8, false), (9, false), (10, false)]⟩, ⟨none, [(11, false)]⟩])
 (.cond (.seq (rA 1)
 (.leaf))
 (.leaf))))
 (.seq (rA 1)
 (.leaf)))))

theorem s46_ok {Ψ : AVal → Heap → Prop} {t : AVal} {s : AVal} {h : Heap} (H : s46 Ψ t s h) : ACalls prog 46 [t, s] h Ψ :=
 calls_of_evF func46 (by kernel_rfl) (by kernel_rfl) (by kernel_rfl)
 (Eq.mpr (by as_aux_lemma => kernel_rfl : oblF prog f46 (s46_A Ψ) Ψ = ((True) ∧ ((otP 13) ∧ ((True) ∧ (((True) ∧ ((True) ∧ ((QK s46c1_K (s46c1 Ψ)) ∧ (otP 3)))) ∧ (otP 1)))))) (⟨trivial, ⟨otP_ok 13, ⟨trivial, ⟨⟨trivial, ⟨trivial, ⟨oI, otP_ok 3⟩⟩⟩, otP_ok 1⟩⟩⟩⟩))
 (Eq.mpr (by as_aux_lemma => kernel_rfl : evF prog f46 (s46_A Ψ) Ψ [t, s] h = s46 Ψ t s h) H)

/- 48 slices.ContainsFunc[[]int,int] -/
def s48 (Ψ : AVal → Heap → Prop) (s : AVal) (f : AVal) (h : Heap) : Prop :=
 callG prog 85 [s, f] h fun v h_ =>
 tInt .i64 v fun v1 =>
 retG (.bool (decide (0 ≤ v1))) h_ Ψ

def s48_A (Ψ : AVal → Heap → Prop) : Ann :=
 .seq (rA 1)
 (.seq (rA 5)
 (.leaf))

theorem s48_ok {Ψ : AVal → Heap → Prop} {s : AVal} {f : AVal} {h : Heap} (H : s48 Ψ s f h) : ACalls prog 48 [s, f] h Ψ :=
 calls_of_evF func48 (by kernel_rfl) (by kernel_rfl) (by kernel_rfl)
 (Eq.mpr (by as_aux_lemma => kernel_rfl : oblF prog f48 (s48_A Ψ) Ψ = (otP 5)) (otP_ok 5))
 (Eq.mpr (by as_aux_lemma => kernel_rfl : evF prog f48 (s48_A Ψ) Ψ [s, f] h = s48 Ψ s f h) H)

/- 50 (*dictum/force.eye).forces -/
abbrev s50c2_K : List Kd := [.bool]
def s50c2 (Ψ : AVal → Heap → Prop) (is1 : Bool) (h : Heap) : Prop :=
 retG (.bool is1) h Ψ

abbrev s50c1_K : List Kd := [.int .i64, .int .i64, .any, .bool]
def s50c1 (Ψ : AVal → Heap → Prop) (w1 id_1 : Int) (y1 : AVal) (is : Bool) (h : Heap) : Prop :=
 ld1 h y1 fun v16 =>
 nilCheckA v16 fun p4 =>
 addOff p4 4 fun p5 =>
 ld1 h p5 fun v17 =>
 mapPut h v17 (.agg [(.int .i64 w1), (.int .i64 id_1)]) (.int .i64 1) fun h_3 =>
 ifT is (
 ld1 h_3 y1 fun v18 =>
 nilCheckA v18 fun p6 =>
 addOff p6 4 fun p7 =>
 ld1 h_3 p7 fun v19 =>
 mapGet (.int .i64 0) h_3 v19 (.agg [(.int .i64 w1), (.int .i64 id_1)]) fun v20 b1 =>
 tInt .i64 v20 fun v21 =>
 rg (v21 + 1) (
 mapEnt (.int .i64 0) h_3 v19 (.agg [(.int .i64 w1), (.int .i64 id_1)]) fun v22 b2 h_4 =>
 (mapGet (.int .i64 0) h_4 v19 (.agg [(.int .i64 w1), (.int .i64 id_1)]) fun v23 b3 =>
 v23 = (.int .i64 v21)) ∧
 entSt h_4 v19 b2 (.int .i64 (v21 + 1)) fun h_5 =>
 s50c2 Ψ is h_5)) (
 s50c2 Ψ is h_3)

def s50 (Ψ : AVal → Heap → Prop) (y : AVal) (w : Int) (id_ : Int) (h : Heap) : Prop :=
 chk (sc y) (
 nilCheckA y fun p =>
 addOff p 4 fun p1 =>
 ld1 h p1 fun v =>
 mapGet (.int .i64 0) h v (.agg [(.int .i64 w), (.int .i64 id_)]) fun v1 b =>
 tInt .i64 v1 fun v2 =>
 ifT (decide (0 < v2)) (
 retG (.bool (v2 == 2)) h Ψ) (
 nilCheckA y fun p2 =>
 addOff p2 0 fun p3 =>
 ld1 h p3 fun v3 =>
 callG prog 86 [v3, (.int .i64 id_)] h fun v4 h_ =>
 tTup v4 fun l_ =>
 tCons l_ fun v5 l_1 =>
 tCons l_1 fun v6 l_2 =>
 tBool v6 fun v7 =>
 tNil l_2 (
 tAgg v5 fun l_3 =>
 tCons l_3 fun v8 l_4 =>
 tInt .i64 v8 fun v9 =>
 tCons l_4 fun v10 l_5 =>
 tStr v10 fun v11 =>
 tCons l_5 fun v12 l_6 =>
 tInt .i64 v12 fun v13 =>
 tCons l_6 fun v14 l_7 =>
 tInt .i64 v14 fun v15 =>
 tNil l_7 (
 Sym.newRow 4 [(.agg [(.int .i64 0), (.str (ByteArray.mk #[])), (.int .i64 0), (.int .i64 0)])] h_ fun r h_1 =>
 st false h_1 (.ptr r 0 0) [(.int .i64 v9), (.str v11), (.int .i64 v13), (.int .i64 v15)] fun h_2 =>
 ld1 h_2 (.ptr r 0 0) fun v24 =>
 tInt .i64 v24 fun v25 =>
 ifT (v25 == 1) (
 nilCheckA y fun p8 =>
 addOff p8 1 fun p9 =>
 addOff p9 1 fun p10 =>
 ld1 h_2 p10 fun v26 =>
 ixS 1 v26 w fun p11 =>
 ld1 h_2 p11 fun v27 =>
 ld1 h_2 (.ptr r 0 1) fun v28 =>
 tStr v28 fun v29 =>
 callG prog 74 [v27, (.str v29)] h_2 fun v30 h_6 =>
 tBool v30 fun v31 =>
 s50c1 Ψ w id_ (.lptr [y]) v31 h_6) (
 ifT (v25 == 3) (
 ld1 h_2 (.ptr r 0 2) fun v32 =>
 tInt .i64 v32 fun v33 =>
 callG prog 50 [y, (.int .i64 w), (.int .i64 v33)] h_2 fun v34 h_7 =>
 tBool v34 fun v35 =>
 ifT v35 (
 ld1 h_7 (.ptr r 0 3) fun v36 =>
 tInt .i64 v36 fun v37 =>
 callG prog 50 [y, (.int .i64 w), (.int .i64 v37)] h_7 fun v38 h_8 =>
 tBool v38 fun v39 =>
 s50c1 Ψ w id_ (.lptr [y]) v39 h_8) (
 s50c1 Ψ w id_ (.lptr [y]) false h_7)) (
 ifT (v25 == 4) (
 ld1 h_2 (.ptr r 0 2) fun v40 =>
 tInt .i64 v40 fun v41 =>
 callG prog 50 [y, (.int .i64 w), (.int .i64 v41)] h_2 fun v42 h_9 =>
 tBool v42 fun v43 =>
 ifT v43 (
 s50c1 Ψ w id_ (.lptr [y]) true h_9) (
 ld1 h_9 (.ptr r 0 3) fun v44 =>
 tInt .i64 v44 fun v45 =>
 callG prog 50 [y, (.int .i64 w), (.int .i64 v45)] h_9 fun v46 h_10 =>
 tBool v46 fun v47 =>
 s50c1 Ψ w id_ (.lptr [y]) v47 h_10)) (
 ifT (v25 == 5) (
 nilCheckA y fun p12 =>
 addOff p12 3 fun p13 =>
 ld1 h_2 p13 fun v48 =>
 ixS 1 v48 w fun p14 =>
 ld1 h_2 p14 fun v49 =>
 callG prog 48 [v49, (.func (.func 87) [] [(.lptr [y]), (.ptr r 0 0)])] h_2 fun v50 h_11 =>
 tBool v50 fun v51 =>
 s50c1 Ψ w id_ (.lptr [y]) (!v51) h_11) (
 s50c1 Ψ w id_ (.lptr [y]) false h_2))))))))

def s50_A (Ψ : AVal → Heap → Prop) : Ann :=
 .seq (.reg [⟨none, [(0, true), (1, false)]⟩])
 (.seq (.seq (rA 9)
 (.seq (rA 2)
 (.cond (.seq (rA 3)
 (.leaf))
 (.leaf))))
 (.seq (rA 12)
 (.seq (rA 1)
 (cutK [1, 2, 3, 10] s50c1_K (s50c1 Ψ) (.seq (rA 2)
 (.block (.seq (rA 2)
 (.cond (.draw [(0, false), (1, false), (2, false), (3, false), (4, false), (5, false), (6, false), (7, false), (8, false), (9, false), (10, false), (11, false)] [0, 1, 3, 7, 15, 0, 63, 127, 0, 256, 1023, 2047])
 (.seq (rA 2)
 (.cond (.reg [⟨none, [(0, false), (1, false), (2, false), (3, false), (4, false), (5, false)]⟩, ⟨some (54, true), [(6, false), (7, false), (8, false), (9, false), (10, false)]⟩, ⟨none, [(11, false), (12, false)]⟩])
 (.seq (rA 2)
 (.cond (.reg [⟨none, [(0, false), (1, false), (2, false), (3, false), (4, false), (5, false)]⟩, ⟨some (68, false), [(6, false), (7, false), (8, false), (9, false), (10, false)]⟩, ⟨none, [(11, false), (12, false)]⟩])
 (.seq (rA 2)
 (.cond (rA 11)
 (.leaf)))))))))))
 (.seq (rA 8)
 (cutK [10] s50c2_K (s50c2 Ψ) (.seq (rA 1)
 (.cond (.draw [(0, false), (1, false), (2, false), (3, false), (4, false), (5, false), (6, false), (7, false), (8, false), (9, false), (10, false), (11, false)] [0, 1, 3, 7, 0, 0, 48, 127, 255, 127, 639, 2047])
 (.leaf)))
 (.seq (rA 2)
 (.leaf))))))))

theorem s50_ok {Ψ : AVal → Heap → Prop} {y : AVal} {w : Int} {id_ : Int} {h : Heap} (H : s50 Ψ y w id_ h) : ACalls prog 50 [y, (.int .i64 w), (.int .i64 id_)] h Ψ :=
 calls_of_evF func50 (by kernel_rfl) (by kernel_rfl) (by kernel_rfl)
 (Eq.mpr (by as_aux_lemma => kernel_rfl : oblF prog f50 (s50_A Ψ) Ψ = ((True) ∧ ((otP 53) ∧ ((True) ∧ ((True) ∧ ((otP 87381) ∧ ((QK s50c1_K (s50c1 Ψ)) ∧ ((True) ∧ ((otP 5) ∧ ((QK s50c2_K (s50c2 Ψ)) ∧ (otP 1))))))))))) (⟨trivial, ⟨otP_ok 53, ⟨trivial, ⟨trivial, ⟨otP_ok 87381, ⟨oI, ⟨trivial, ⟨otP_ok 5, ⟨oI, otP_ok 1⟩⟩⟩⟩⟩⟩⟩⟩⟩))
 (Eq.mpr (by as_aux_lemma => kernel_rfl : evF prog f50 (s50_A Ψ) Ψ [y, (.int .i64 w), (.int .i64 id_)] h = s50 Ψ y w id_ h) H)

/- 52 dictum/dictumref18.table -/
abbrev s52l1_T := AVal → AVal → Int → AVal → AVal → Int → Heap → Prop
abbrev s52l1_K : List Kd := [.any, .any, .int .i64, .any, .any, .int .i64]
def s52l1_G (F : s52l1_T) : s52l1_T := GK s52l1_K F
def s52l1_E (F : Nat → s52l1_T) : s52l1_T := EK s52l1_K F
theorem s52l1_in {F : Nat → s52l1_T} {x0 x1 : AVal} {x2 : Int} {x3 x4 : AVal} {x5 : Int} {h : Heap} (n : Nat) (H : F n x0 x1 x2 x3 x4 x5 h) : s52l1_E F x0 x1 x2 x3 x4 x5 h := gJ_plain rfl ⟨n, H⟩

abbrev s52l2_T := AVal → AVal → Int → AVal → AVal → Int → AVal → Int → Heap → Prop
abbrev s52l2_K : List Kd := [.any, .any, .int .i64, .any, .any, .int .i64, .any, .int .i64]
def s52l2_G (F : s52l2_T) : s52l2_T := GK s52l2_K F
def s52l2_E (F : Nat → s52l2_T) : s52l2_T := EK s52l2_K F
theorem s52l2_go {F : s52l2_T} {x0 x1 : AVal} {x2 : Int} {x3 x4 : AVal} {x5 : Int} {x6 : AVal} {x7 : Int} {h : Heap} (H : F x0 x1 x2 x3 x4 x5 x6 x7 h) : s52l2_G F x0 x1 x2 x3 x4 x5 x6 x7 h := gJ_plain rfl H
theorem s52l2_in {F : Nat → s52l2_T} {x0 x1 : AVal} {x2 : Int} {x3 x4 : AVal} {x5 : Int} {x6 : AVal} {x7 : Int} {h : Heap} (n : Nat) (H : F n x0 x1 x2 x3 x4 x5 x6 x7 h) : s52l2_E F x0 x1 x2 x3 x4 x5 x6 x7 h := gJ_plain rfl ⟨n, H⟩

abbrev s52c3_K : List Kd := [.any, .any, .int .i64, .any, .any, .int .i64, .any, .int .i64]
def s52c3 (Ψ : AVal → Heap → Prop) (L1 : s52l1_T) (L2 : s52l2_T) (t3 o3 : AVal) (last3 : Int) (m2 f2 : AVal) (i2 : Int) (n5 : AVal) (w1 : Int) (h : Heap) : Prop :=
 rg (w1 + 1) (
 L2 t3 o3 last3 m2 f2 i2 n5 (w1 + 1) h)

abbrev s52l4_T := AVal → AVal → Int → AVal → AVal → Int → AVal → Int → Int → Heap → Prop
abbrev s52l4_K : List Kd := [.any, .any, .int .i64, .any, .any, .int .i64, .any, .int .i64, .int .i64]
def s52l4_G (F : s52l4_T) : s52l4_T := GK s52l4_K F
def s52l4_E (F : Nat → s52l4_T) : s52l4_T := EK s52l4_K F
theorem s52l4_go {F : s52l4_T} {x0 x1 : AVal} {x2 : Int} {x3 x4 : AVal} {x5 : Int} {x6 : AVal} {x7 x8 : Int} {h : Heap} (H : F x0 x1 x2 x3 x4 x5 x6 x7 x8 h) : s52l4_G F x0 x1 x2 x3 x4 x5 x6 x7 x8 h := gJ_plain rfl H
theorem s52l4_in {F : Nat → s52l4_T} {x0 x1 : AVal} {x2 : Int} {x3 x4 : AVal} {x5 : Int} {x6 : AVal} {x7 x8 : Int} {h : Heap} (n : Nat) (H : F n x0 x1 x2 x3 x4 x5 x6 x7 x8 h) : s52l4_E F x0 x1 x2 x3 x4 x5 x6 x7 x8 h := gJ_plain rfl ⟨n, H⟩

abbrev s52c5_K : List Kd := [.any, .any, .int .i64, .any, .any, .int .i64, .any, .int .i64, .int .i64]
def s52c5 (Ψ : AVal → Heap → Prop) (L1 : s52l1_T) (L2 : s52l2_T) (L4 : s52l4_T) (t5 o5 : AVal) (last5 : Int) (m4 f4 : AVal) (i4 : Int) (n9 : AVal) (w3 k1 : Int) (h : Heap) : Prop :=
 rg (k1 + 1) (
 L4 t5 o5 last5 m4 f4 i4 n9 w3 (k1 + 1) h)

def s52l4 (Ψ : AVal → Heap → Prop) (L1 : s52l1_T) (L2 : s52l2_T) : Nat → s52l4_T
 | 0, _, _, _, _, _, _, _, _, _, _ => False
 | n7 + 1, t4, o4, last4, m3, f3, i3, n6, w2, k, h =>
 addOff m3 1 fun p5 =>
 ld1 h p5 fun v13 =>
 ixS 1 v13 w2 fun p6 =>
 ld1 h p6 fun v14 =>
 lenN v14 fun n8 =>
 ifT (decide (k < n8)) (
 ixS 1 f3 i3 fun p7 =>
 ld1 h p7 fun v15 =>
 ixS 1 f3 i3 fun p8 =>
 ld1 h p8 fun v16 =>
 ixS 1 v16 w2 fun p9 =>
 ld1 h p9 fun v17 =>
 tBool v17 fun v18 =>
 ifT v18 (
 ixS 1 v15 w2 fun p15 =>
 st true h p15 [(.bool true)] fun h_6 =>
 s52c5 Ψ L1 L2 (s52l4_G (s52l4 Ψ L1 L2 n7)) t4 o4 last4 m3 f3 i3 n6 w2 k h_6) (
 addOff m3 1 fun p10 =>
 ld1 h p10 fun v19 =>
 ixS 1 v19 w2 fun p11 =>
 ld1 h p11 fun v20 =>
 ixS 1 v20 k fun p12 =>
 ld1 h p12 fun v21 =>
 tStr v21 fun v22 =>
 addOff n6 1 fun p13 =>
 ld1 h p13 fun v23 =>
 tStr v23 fun v24 =>
 ixS 1 v15 w2 fun p14 =>
 st true h p14 [(.bool (strEq v22 v24))] fun h_5 =>
 s52c5 Ψ L1 L2 (s52l4_G (s52l4 Ψ L1 L2 n7)) t4 o4 last4 m3 f3 i3 n6 w2 k h_5)) (
 s52c3 Ψ L1 L2 t4 o4 last4 m3 f3 i3 n6 w2 h)

abbrev s52l6_T := AVal → AVal → Int → AVal → AVal → Int → AVal → Int → Int → Heap → Prop
abbrev s52l6_K : List Kd := [.any, .any, .int .i64, .any, .any, .int .i64, .any, .int .i64, .int .i64]
def s52l6_G (F : s52l6_T) : s52l6_T := GK s52l6_K F
def s52l6_E (F : Nat → s52l6_T) : s52l6_T := EK s52l6_K F
theorem s52l6_go {F : s52l6_T} {x0 x1 : AVal} {x2 : Int} {x3 x4 : AVal} {x5 : Int} {x6 : AVal} {x7 x8 : Int} {h : Heap} (H : F x0 x1 x2 x3 x4 x5 x6 x7 x8 h) : s52l6_G F x0 x1 x2 x3 x4 x5 x6 x7 x8 h := gJ_plain rfl H
theorem s52l6_in {F : Nat → s52l6_T} {x0 x1 : AVal} {x2 : Int} {x3 x4 : AVal} {x5 : Int} {x6 : AVal} {x7 x8 : Int} {h : Heap} (n : Nat) (H : F n x0 x1 x2 x3 x4 x5 x6 x7 x8 h) : s52l6_E F x0 x1 x2 x3 x4 x5 x6 x7 x8 h := gJ_plain rfl ⟨n, H⟩

abbrev s52c8_K : List Kd := [.any, .any, .int .i64, .any, .any, .int .i64, .any, .int .i64, .int .i64]
def s52c8 (Ψ : AVal → Heap → Prop) (L1 : s52l1_T) (L2 : s52l2_T) (L6 : s52l6_T) (t8 o8 : AVal) (last8 : Int) (m7 f7 : AVal) (i7 : Int) (n14 : AVal) (w6 v50 : Int) (h : Heap) : Prop :=
 rg (v50 + 1) (
 L6 t8 o8 last8 m7 f7 i7 n14 w6 (v50 + 1) h)

abbrev s52c9_K : List Kd := [.any, .any, .int .i64, .any, .any, .int .i64, .any, .int .i64, .int .i64, .bool]
def s52c9 (Ψ : AVal → Heap → Prop) (L1 : s52l1_T) (L2 : s52l2_T) (L6 : s52l6_T) (t9 o9 : AVal) (last9 : Int) (m8 f8 : AVal) (i8 : Int) (n15 : AVal) (w7 v51 : Int) (t184 : Bool) (h : Heap) : Prop :=
 ifT t184 (
 ixS 1 f8 i8 fun p36 =>
 ld1 h p36 fun v52 =>
 ixS 1 v52 w7 fun p37 =>
 st true h p37 [(.bool false)] fun h_12 =>
 s52c8 Ψ L1 L2 L6 t9 o9 last9 m8 f8 i8 n15 w7 v51 h_12) (
 s52c8 Ψ L1 L2 L6 t9 o9 last9 m8 f8 i8 n15 w7 v51 h)

abbrev s52c7_K : List Kd := [.any, .any, .int .i64, .any, .any, .int .i64, .any, .int .i64, .int .i64, .bool]
def s52c7 (Ψ : AVal → Heap → Prop) (L1 : s52l1_T) (L2 : s52l2_T) (L6 : s52l6_T) (t7 o7 : AVal) (last7 : Int) (m6 f6 : AVal) (i6 : Int) (n13 : AVal) (w5 v49 : Int) (t154 : Bool) (h : Heap) : Prop :=
 ifT t154 (
 ixS 1 o7 w5 fun p38 =>
 ld1 h p38 fun v53 =>
 ixS 1 v53 v49 fun p39 =>
 ld1 h p39 fun v54 =>
 tBool v54 fun v55 =>
 ifT v55 (
 addOff n13 2 fun p40 =>
 ld1 h p40 fun v56 =>
 tInt .i64 v56 fun v57 =>
 ixS 1 f6 v57 fun p41 =>
 ld1 h p41 fun v58 =>
 ixS 1 v58 v49 fun p42 =>
 ld1 h p42 fun v59 =>
 tBool v59 fun v60 =>
 ifT v60 (
 addOff n13 3 fun p43 =>
 ld1 h p43 fun v61 =>
 tInt .i64 v61 fun v62 =>
 ixS 1 f6 v62 fun p44 =>
 ld1 h p44 fun v63 =>
 ixS 1 v63 v49 fun p45 =>
 ld1 h p45 fun v64 =>
 tBool v64 fun v65 =>
 s52c9 Ψ L1 L2 L6 t7 o7 last7 m6 f6 i6 n13 w5 v49 (!v65) h) (
 s52c9 Ψ L1 L2 L6 t7 o7 last7 m6 f6 i6 n13 w5 v49 false h)) (
 s52c9 Ψ L1 L2 L6 t7 o7 last7 m6 f6 i6 n13 w5 v49 false h)) (
 s52c3 Ψ L1 L2 t7 o7 last7 m6 f6 i6 n13 w5 h)

def s52l6 (Ψ : AVal → Heap → Prop) (L1 : s52l1_T) (L2 : s52l2_T) : Nat → s52l6_T
 | 0, _, _, _, _, _, _, _, _, _, _ => False
 | n12 + 1, t6, o6, last6, m5, f5, i5, n11, w4, v48, h =>
 lenN o6 fun n16 =>
 ifT (decide (v48 < n16)) (
 ixS 1 f5 i5 fun p46 =>
 ld1 h p46 fun v66 =>
 ixS 1 v66 w4 fun p47 =>
 ld1 h p47 fun v67 =>
 tBool v67 fun v68 =>
 s52c7 Ψ L1 L2 (s52l6_G (s52l6 Ψ L1 L2 n12)) t6 o6 last6 m5 f5 i5 n11 w4 v48 v68 h) (
 s52c7 Ψ L1 L2 (s52l6_G (s52l6 Ψ L1 L2 n12)) t6 o6 last6 m5 f5 i5 n11 w4 v48 false h)

def s52l2 (Ψ : AVal → Heap → Prop) (L1 : s52l1_T) : Nat → s52l2_T
 | 0, _, _, _, _, _, _, _, _, _ => False
 | n3 + 1, t2, o2, last2, m1, f1, i1, n2, w, h =>
 lenN o2 fun n4 =>
 ifT (decide (w < n4)) (
 addOff n2 0 fun p4 =>
 ld1 h p4 fun v11 =>
 tInt .i64 v11 fun v12 =>
 ifT (v12 == 1) (
 s52l4_E (s52l4 Ψ L1 (s52l2_G (s52l2 Ψ L1 n3))) t2 o2 last2 m1 f1 i1 n2 w 0 h) (
 ifT (v12 == 3) (
 ixS 1 f1 i1 fun p16 =>
 ld1 h p16 fun v25 =>
 addOff n2 2 fun p17 =>
 ld1 h p17 fun v26 =>
 tInt .i64 v26 fun v27 =>
 ixS 1 f1 v27 fun p18 =>
 ld1 h p18 fun v28 =>
 ixS 1 v28 w fun p19 =>
 ld1 h p19 fun v29 =>
 tBool v29 fun v30 =>
 ifT v30 (
 addOff n2 3 fun p20 =>
 ld1 h p20 fun v31 =>
 tInt .i64 v31 fun v32 =>
 ixS 1 f1 v32 fun p21 =>
 ld1 h p21 fun v33 =>
 ixS 1 v33 w fun p22 =>
 ld1 h p22 fun v34 =>
 tBool v34 fun v35 =>
 ixS 1 v25 w fun p23 =>
 st true h p23 [(.bool v35)] fun h_7 =>
 s52c3 Ψ L1 (s52l2_G (s52l2 Ψ L1 n3)) t2 o2 last2 m1 f1 i1 n2 w h_7) (
 ixS 1 v25 w fun p24 =>
 st true h p24 [(.bool false)] fun h_8 =>
 s52c3 Ψ L1 (s52l2_G (s52l2 Ψ L1 n3)) t2 o2 last2 m1 f1 i1 n2 w h_8)) (
 ifT (v12 == 4) (
 ixS 1 f1 i1 fun p25 =>
 ld1 h p25 fun v36 =>
 addOff n2 2 fun p26 =>
 ld1 h p26 fun v37 =>
 tInt .i64 v37 fun v38 =>
 ixS 1 f1 v38 fun p27 =>
 ld1 h p27 fun v39 =>
 ixS 1 v39 w fun p28 =>
 ld1 h p28 fun v40 =>
 tBool v40 fun v41 =>
 ifT v41 (
 ixS 1 v36 w fun p33 =>
 st true h p33 [(.bool true)] fun h_10 =>
 s52c3 Ψ L1 (s52l2_G (s52l2 Ψ L1 n3)) t2 o2 last2 m1 f1 i1 n2 w h_10) (
 addOff n2 3 fun p29 =>
 ld1 h p29 fun v42 =>
 tInt .i64 v42 fun v43 =>
 ixS 1 f1 v43 fun p30 =>
 ld1 h p30 fun v44 =>
 ixS 1 v44 w fun p31 =>
 ld1 h p31 fun v45 =>
 tBool v45 fun v46 =>
 ixS 1 v36 w fun p32 =>
 st true h p32 [(.bool v46)] fun h_9 =>
 s52c3 Ψ L1 (s52l2_G (s52l2 Ψ L1 n3)) t2 o2 last2 m1 f1 i1 n2 w h_9)) (
 ifT (v12 == 5) (
 ixS 1 f1 i1 fun p34 =>
 ld1 h p34 fun v47 =>
 ixS 1 v47 w fun p35 =>
 st true h p35 [(.bool true)] fun h_11 =>
 s52l6_E (s52l6 Ψ L1 (s52l2_G (s52l2 Ψ L1 n3))) t2 o2 last2 m1 f1 i1 n2 w 0 h_11) (
 s52c3 Ψ L1 (s52l2_G (s52l2 Ψ L1 n3)) t2 o2 last2 m1 f1 i1 n2 w h))))) (
 rg (i1 + 1) (
 L1 t2 o2 last2 m1 f1 (i1 + 1) h))

def s52l1 (Ψ : AVal → Heap → Prop) : Nat → s52l1_T
 | 0, _, _, _, _, _, _, _ => False
 | n + 1, t1, o1, last1, m, f, i, h =>
 ifT (decide (i ≤ last1)) (
 lenN o1 fun n1 =>
 mkS false 1 1 (.bool false) h n1 n1 fun v1 h_1 =>
 ixS 1 f i fun p =>
 chk (sc v1) (
 st true h_1 p [v1] fun h_2 =>
 nilCheckA t1 fun p1 =>
 addOff p1 0 fun p2 =>
 ld1 h_2 p2 fun v2 =>
 ixS 4 v2 i fun p3 =>
 ldN 4 h_2 p3 fun l_ =>
 tCons l_ fun v3 l_1 =>
 tInt .i64 v3 fun v4 =>
 tCons l_1 fun v5 l_2 =>
 tStr v5 fun v6 =>
 tCons l_2 fun v7 l_3 =>
 tInt .i64 v7 fun v8 =>
 tCons l_3 fun v9 l_4 =>
 tInt .i64 v9 fun v10 =>
 tNil l_4 (
 Sym.newRow 4 [(.agg [(.int .i64 0), (.str (ByteArray.mk #[])), (.int .i64 0), (.int .i64 0)])] h_2 fun r h_3 =>
 st false h_3 (.ptr r 0 0) [(.int .i64 v4), (.str v6), (.int .i64 v8), (.int .i64 v10)] fun h_4 =>
 s52l2_E (s52l2 Ψ (s52l1_G (s52l1 Ψ n))) t1 o1 last1 m f i (.ptr r 0 0) 0 h_4))) (
 retG f h Ψ)

def s52 (Ψ : AVal → Heap → Prop) (t : AVal) (m_Up : AVal) (m_Val : AVal) (o : AVal) (last : Int) (h : Heap) : Prop :=
 rg (last + 1) (
 mkS false 1 24 .nilsl h (last + 1) (last + 1) fun v h_ =>
 s52l1_E (s52l1 Ψ) t o last (.lptr [m_Up, m_Val]) v 0 h_)

def s52_A (Ψ : AVal → Heap → Prop) : Ann :=
 .seq (.reg [⟨none, [(0, true), (1, false)]⟩])
 (.seq (rA 4)
 (.seq (.seq (rA 1)
 (.block (loopK [0, 2, 3, 5, 9, 10] s52l1_K (s52l1 Ψ) (fun L1 =>
 .seq (.seq (rA 3)
 (.cond (.leaf)
 (.leaf)))
 (.seq (.block (.seq (rA 7)
 (.seq (rA 9)
 (.seq (rA 1)
 (.block (loopK [0, 2, 3, 5, 9, 10, 11, 12] s52l2_K (s52l2 Ψ (LK s52l1_K L1)) (fun L2 =>
 .seq (.seq (rA 4)
 (.cond (.leaf)
 (.leaf)))
 (cutK [0, 2, 3, 5, 9, 10, 11, 12] s52c3_K (s52c3 Ψ (LK s52l1_K L1) (LK s52l2_K L2)) (.block (.seq (rA 2)
 (.block (.seq (rA 2)
 (.cond (.seq (rA 1)
 (.block (loopK [0, 2, 3, 5, 9, 10, 11, 12, 13] s52l4_K (s52l4 Ψ (LK s52l1_K L1) (LK s52l2_K L2)) (fun L4 =>
 .seq (.seq (rA 8)
 (.cond (.leaf)
 (.leaf)))
 (cutK [0, 2, 3, 5, 9, 10, 11, 12, 13] s52c5_K (s52c5 Ψ (LK s52l1_K L1) (LK s52l2_K L2) (LK s52l4_K L4)) (.block (.draw [(0, false), (1, false), (2, false), (3, false), (4, false), (5, false), (6, false), (7, false), (8, false), (9, false), (10, false), (11, false), (12, false), (13, false), (14, false), (15, false), (16, false), (17, false), (18, false), (19, false), (20, false), (21, false), (22, false), (23, false), (24, false), (25, false), (26, false)] [0, 0, 3, 7, 0, 0, 0, 96, 224, 0, 992, 2016, 4064, 8160, 16352, 8160, 65504, 131040, 8160, 524256, 1048544, 8160, 2105312, 8388576, 16777184, 33554431, 67108863]))
 (rA 3))))))
 (.seq (rA 2)
 (.cond (.draw [(0, false), (1, false), (2, false), (3, false), (4, false), (5, false), (6, false), (7, false), (8, false), (9, false), (10, false), (11, false), (12, false), (13, false), (14, false), (15, false), (16, false), (17, false), (18, false), (19, false), (20, false), (21, false), (22, false), (23, false), (24, false)] [0, 0, 3, 7, 0, 0, 0, 64, 224, 480, 0, 2016, 4064, 8160, 16352, 16352, 49120, 131040, 262112, 16352, 1048544, 2097120, 4194272, 8388607, 16777215])
 (.seq (rA 2)
 (.cond (.draw [(0, false), (1, false), (2, false), (3, false), (4, false), (5, false), (6, false), (7, false), (8, false), (9, false), (10, false), (11, false), (12, false), (13, false), (14, false), (15, false), (16, false), (17, false), (18, false), (19, false), (20, false), (21, false), (22, false), (23, false), (24, false)] [0, 0, 3, 7, 0, 0, 0, 64, 224, 480, 0, 2016, 4064, 8160, 16352, 16352, 49120, 131040, 262112, 16352, 1048544, 2097120, 4194272, 8388607, 16777215])
 (.seq (rA 2)
 (.cond (.seq (rA 7)
 (.seq (rA 1)
 (.block (loopK [0, 2, 3, 5, 9, 10, 11, 12, 14] s52l6_K (s52l6 Ψ (LK s52l1_K L1) (LK s52l2_K L2)) (fun L6 =>
 .seq (cutK [0, 2, 3, 5, 9, 10, 11, 12, 14, 154] s52c7_K (s52c7 Ψ (LK s52l1_K L1) (LK s52l2_K L2) (LK s52l6_K L6)) (.reg [⟨none, [(0, false), (1, false), (2, false), (3, false), (4, false)]⟩, ⟨some (146, true), [(5, false), (6, false), (7, false), (8, false), (9, false), (10, false), (11, false)]⟩, ⟨none, [(12, false)]⟩])
 (.cond (.leaf)
 (.leaf)))
 (cutK [0, 2, 3, 5, 9, 10, 11, 12, 14] s52c8_K (s52c8 Ψ (LK s52l1_K L1) (LK s52l2_K L2) (LK s52l6_K L6)) (.block (cutK [0, 2, 3, 5, 9, 10, 11, 12, 14, 184] s52c9_K (s52c9 Ψ (LK s52l1_K L1) (LK s52l2_K L2) (LK s52l6_K L6)) (.reg [⟨none, [(0, false), (1, false), (2, false), (3, false), (4, false), (5, false), (6, false), (7, false)]⟩, ⟨some (164, true), [(8, false), (9, false), (10, false), (11, false), (12, false), (13, false), (14, false), (15, false)]⟩, ⟨none, [(16, false), (17, false)]⟩, ⟨some (174, true), [(18, false), (19, false), (20, false), (21, false), (22, false), (23, false), (24, false), (25, false), (26, false)]⟩, ⟨none, [(27, false)]⟩])
 (.cond (rA 7)
 (.leaf))))
 (rA 3)))))))
 (.leaf))))))))))))
 (rA 3)))))))))
 (rA 3))))))
 (.seq (rA 2)
 (.leaf))))

theorem s52_ok {Ψ : AVal → Heap → Prop} {t : AVal} {m_Up : AVal} {m_Val : AVal} {o : AVal} {last : Int} {h : Heap} (H : s52 Ψ t m_Up m_Val o last h) : ACalls prog 52 [t, (.agg [m_Up, m_Val]), o, (.int .i64 last)] h Ψ :=
 calls_of_evF func52 (by kernel_rfl) (by kernel_rfl) (by kernel_rfl)
 (Eq.mpr (by as_aux_lemma => kernel_rfl : oblF prog f52 (s52_A Ψ) Ψ = ((True) ∧ ((True) ∧ (((True) ∧ ((NK s52l1_K (s52l1 Ψ 0)) ∧ (∀ n1 : Nat, (QK s52l1_K (s52l1 Ψ (n1 + 1))) ∧ ((otP 5) ∧ (((True) ∧ ((True) ∧ ((True) ∧ ((NK s52l2_K (s52l2 Ψ (s52l1_G (s52l1 Ψ n1)) 0)) ∧ (∀ n2 : Nat, (QK s52l2_K (s52l2 Ψ (s52l1_G (s52l1 Ψ n1)) (n2 + 1))) ∧ ((otP 5) ∧ (((True) ∧ ((True) ∧ (((True) ∧ ((NK s52l4_K (s52l4 Ψ (s52l1_G (s52l1 Ψ n1)) (s52l2_G (s52l2 Ψ (s52l1_G (s52l1 Ψ n1)) n2)) 0)) ∧ (∀ n4 : Nat, (QK s52l4_K (s52l4 Ψ (s52l1_G (s52l1 Ψ n1)) (s52l2_G (s52l2 Ψ (s52l1_G (s52l1 Ψ n1)) n2)) (n4 + 1))) ∧ ((otP 5) ∧ ((True) ∧ ((QK s52c5_K (s52c5 Ψ (s52l1_G (s52l1 Ψ n1)) (s52l2_G (s52l2 Ψ (s52l1_G (s52l1 Ψ n1)) n2)) (s52l4_G (s52l4 Ψ (s52l1_G (s52l1 Ψ n1)) (s52l2_G (s52l2 Ψ (s52l1_G (s52l1 Ψ n1)) n2)) n4)))) ∧ (True))))))) ∧ ((True) ∧ ((True) ∧ ((True) ∧ ((True) ∧ ((True) ∧ (((True) ∧ ((True) ∧ ((NK s52l6_K (s52l6 Ψ (s52l1_G (s52l1 Ψ n1)) (s52l2_G (s52l2 Ψ (s52l1_G (s52l1 Ψ n1)) n2)) 0)) ∧ (∀ n6 : Nat, (QK s52l6_K (s52l6 Ψ (s52l1_G (s52l1 Ψ n1)) (s52l2_G (s52l2 Ψ (s52l1_G (s52l1 Ψ n1)) n2)) (n6 + 1))) ∧ (((True) ∧ ((QK s52c7_K (s52c7 Ψ (s52l1_G (s52l1 Ψ n1)) (s52l2_G (s52l2 Ψ (s52l1_G (s52l1 Ψ n1)) n2)) (s52l6_G (s52l6 Ψ (s52l1_G (s52l1 Ψ n1)) (s52l2_G (s52l2 Ψ (s52l1_G (s52l1 Ψ n1)) n2)) n6)))) ∧ (otP 1))) ∧ (((True) ∧ ((QK s52c9_K (s52c9 Ψ (s52l1_G (s52l1 Ψ n1)) (s52l2_G (s52l2 Ψ (s52l1_G (s52l1 Ψ n1)) n2)) (s52l6_G (s52l6 Ψ (s52l1_G (s52l1 Ψ n1)) (s52l2_G (s52l2 Ψ (s52l1_G (s52l1 Ψ n1)) n2)) n6)))) ∧ (otP 1))) ∧ ((QK s52c8_K (s52c8 Ψ (s52l1_G (s52l1 Ψ n1)) (s52l2_G (s52l2 Ψ (s52l1_G (s52l1 Ψ n1)) n2)) (s52l6_G (s52l6 Ψ (s52l1_G (s52l1 Ψ n1)) (s52l2_G (s52l2 Ψ (s52l1_G (s52l1 Ψ n1)) n2)) n6)))) ∧ (True)))))))) ∧ (True)))))))))) ∧ ((QK s52c3_K (s52c3 Ψ (s52l1_G (s52l1 Ψ n1)) (s52l2_G (s52l2 Ψ (s52l1_G (s52l1 Ψ n1)) n2)))) ∧ (True))))))))) ∧ (True)))))) ∧ (otP 1))))) (⟨trivial, ⟨trivial, ⟨⟨trivial, ⟨fun _ _ _ _ _ _ _ H => H, fun _ => ⟨oI, ⟨otP_ok 5, ⟨⟨trivial, ⟨trivial, ⟨trivial, ⟨fun _ _ _ _ _ _ _ _ _ H => H, fun _ => ⟨oI, ⟨otP_ok 5, ⟨⟨trivial, ⟨trivial, ⟨⟨trivial, ⟨fun _ _ _ _ _ _ _ _ _ _ H => H, fun _ => ⟨oI, ⟨otP_ok 5, ⟨trivial, ⟨oI, trivial⟩⟩⟩⟩⟩⟩, ⟨trivial, ⟨trivial, ⟨trivial, ⟨trivial, ⟨trivial, ⟨⟨trivial, ⟨trivial, ⟨fun _ _ _ _ _ _ _ _ _ _ H => H, fun _ => ⟨oI, ⟨⟨trivial, ⟨oI, otP_ok 1⟩⟩, ⟨⟨trivial, ⟨oI, otP_ok 1⟩⟩, ⟨oI, trivial⟩⟩⟩⟩⟩⟩⟩, trivial⟩⟩⟩⟩⟩⟩⟩⟩⟩, ⟨oI, trivial⟩⟩⟩⟩⟩⟩⟩⟩, trivial⟩⟩⟩⟩⟩, otP_ok 1⟩⟩⟩))
 (Eq.mpr (by as_aux_lemma => kernel_rfl : evF prog f52 (s52_A Ψ) Ψ [t, (.agg [m_Up, m_Val]), o, (.int .i64 last)] h = s52 Ψ t m_Up m_Val o last h) H)

/- 54 dictum/formula.From -/
abbrev s54l1_T := AVal → AVal → Int → Int → Heap → Prop
abbrev s54l1_K : List Kd := [.any, .any, .int .i64, .int .i64]
def s54l1_G (F : s54l1_T) : s54l1_T := GK s54l1_K F
def s54l1_E (F : Nat → s54l1_T) : s54l1_T := EK s54l1_K F
theorem s54l1_go {F : s54l1_T} {x0 x1 : AVal} {x2 x3 : Int} {h : Heap} (H : F x0 x1 x2 x3 h) : s54l1_G F x0 x1 x2 x3 h := gJ_plain rfl H
theorem s54l1_in {F : Nat → s54l1_T} {x0 x1 : AVal} {x2 x3 : Int} {h : Heap} (n : Nat) (H : F n x0 x1 x2 x3 h) : s54l1_E F x0 x1 x2 x3 h := gJ_plain rfl ⟨n, H⟩

abbrev s54c2_K : List Kd := [.any, .int .i64, .any, .int .i64, .int .i64]
def s54c2 (Ψ : AVal → Heap → Prop) (L1 : s54l1_T) (t1 : AVal) (e : Int) (t10_1 : AVal) (t11_1 t12_1 : Int) (h : Heap) : Prop :=
 ifT (e != 0) (
 retG (.tuple [.nilptr, (.int .i64 e)]) h Ψ) (
 rg (t12_1 + 1) (
 L1 t1 t10_1 t11_1 (t12_1 + 1) h))

abbrev s54c3_K : List Kd := [.any, .int .i64, .any, .int .i64, .int .i64, .bool]
def s54c3 (Ψ : AVal → Heap → Prop) (L1 : s54l1_T) (t2 : AVal) (e1 : Int) (t10_2 : AVal) (t11_2 t12_2 : Int) (t29 : Bool) (h : Heap) : Prop :=
 ifT t29 (
 s54c2 Ψ L1 t2 31 t10_2 t11_2 t12_2 h) (
 s54c2 Ψ L1 t2 e1 t10_2 t11_2 t12_2 h)

def s54l1 (Ψ : AVal → Heap → Prop) : Nat → s54l1_T
 | 0, _, _, _, _, _ => False
 | n1 + 1, t, t10, t11, t12, h =>
 ifT (decide (t12 < t11)) (
 ixS 4 t10 t12 fun p =>
 ldN 4 h p fun l_ =>
 tCons l_ fun v1 l_1 =>
 tInt .i64 v1 fun v2 =>
 tCons l_1 fun v3 l_2 =>
 tStr v3 fun v4 =>
 tCons l_2 fun v5 l_3 =>
 tInt .i64 v5 fun v6 =>
 tCons l_3 fun v7 l_4 =>
 tInt .i64 v7 fun v8 =>
 tNil l_4 (
 Sym.newRow 4 [(.agg [(.int .i64 0), (.str (ByteArray.mk #[])), (.int .i64 0), (.int .i64 0)])] h fun r h_1 =>
 st false h_1 (.ptr r 0 0) [(.int .i64 v2), (.str v4), (.int .i64 v6), (.int .i64 v8)] fun h_2 =>
 ldN 4 h_2 (.ptr r 0 0) fun l_5 =>
 tCons l_5 fun v9 l_6 =>
 tInt .i64 v9 fun v10 =>
 tCons l_6 fun v11 l_7 =>
 tStr v11 fun v12 =>
 tCons l_7 fun v13 l_8 =>
 tInt .i64 v13 fun v14 =>
 tCons l_8 fun v15 l_9 =>
 tInt .i64 v15 fun v16 =>
 tNil l_9 (
 callG prog 64 [t, (.agg [(.int .i64 v10), (.str v12), (.int .i64 v14), (.int .i64 v16)])] h_2 fun v17 h_3 =>
 tTup v17 fun l_10 =>
 tCons l_10 fun v18 l_11 =>
 tInt .i64 v18 fun v19 =>
 tCons l_11 fun v20 l_12 =>
 tInt .i64 v20 fun v21 =>
 tNil l_12 (
 ifT (v21 == 0) (
 s54c3 Ψ (s54l1_G (s54l1 Ψ n1)) t v21 t10 t11 t12 (v19 != t12) h_3) (
 s54c3 Ψ (s54l1_G (s54l1 Ψ n1)) t v21 t10 t11 t12 false h_3))))) (
 retG (.tuple [t, (.int .i64 0)]) h Ψ)

def s54 (Ψ : AVal → Heap → Prop) (rows : AVal) (h : Heap) : Prop :=
 callG prog 44 [] h fun v h_ =>
 lenN rows fun n =>
 s54l1_E (s54l1 Ψ) v rows n 0 h_

def s54_A (Ψ : AVal → Heap → Prop) : Ann :=
 .seq (rA 2)
 (.seq (rA 2)
 (.seq (.seq (rA 3)
 (.block (loopK [4, 10, 11, 12] s54l1_K (s54l1 Ψ) (fun L1 =>
 .seq (rA 1)
 (.seq (.cond (.leaf)
 (.leaf))
 (.seq (.block (.seq (rA 6)
 (.seq (rA 8)
 (cutK [4, 8, 10, 11, 12] s54c2_K (s54c2 Ψ (LK s54l1_K L1)) (cutK [4, 8, 10, 11, 12, 29] s54c3_K (s54c3 Ψ (LK s54l1_K L1)) (.reg [⟨none, [(0, false), (1, false), (2, false)]⟩, ⟨some (25, true), [(3, false), (4, false), (5, false)]⟩, ⟨none, [(6, false)]⟩])
 (.cond (rA 1)
 (.leaf)))
 (.seq (rA 2)
 (.cond (.seq (rA 3)
 (.leaf))
 (.leaf)))))))
 (rA 2)))))))
 (.seq (rA 3)
 (.leaf))))

theorem s54_ok {Ψ : AVal → Heap → Prop} {rows : AVal} {h : Heap} (H : s54 Ψ rows h) : ACalls prog 54 [rows] h Ψ :=
 calls_of_evF func54 (by kernel_rfl) (by kernel_rfl) (by kernel_rfl)
 (Eq.mpr (by as_aux_lemma => kernel_rfl : oblF prog f54 (s54_A Ψ) Ψ = ((True) ∧ ((True) ∧ (((True) ∧ ((NK s54l1_K (s54l1 Ψ 0)) ∧ (∀ n1 : Nat, (QK s54l1_K (s54l1 Ψ (n1 + 1))) ∧ ((True) ∧ ((otP 1) ∧ (((True) ∧ ((True) ∧ (((True) ∧ ((QK s54c3_K (s54c3 Ψ (s54l1_G (s54l1 Ψ n1)))) ∧ (otP 1))) ∧ ((QK s54c2_K (s54c2 Ψ (s54l1_G (s54l1 Ψ n1)))) ∧ (otP 13))))) ∧ (True))))))) ∧ (otP 1))))) (⟨trivial, ⟨trivial, ⟨⟨trivial, ⟨fun _ _ _ _ _ H => H, fun _ => ⟨oI, ⟨trivial, ⟨otP_ok 1, ⟨⟨trivial, ⟨trivial, ⟨⟨trivial, ⟨oI, otP_ok 1⟩⟩, ⟨oI, otP_ok 13⟩⟩⟩⟩, trivial⟩⟩⟩⟩⟩⟩, otP_ok 1⟩⟩⟩))
 (Eq.mpr (by as_aux_lemma => kernel_rfl : evF prog f54 (s54_A Ψ) Ψ [rows] h = s54 Ψ rows h) H)

/- 59 dictum/measure.Atoms -/
abbrev s59l1_T := AVal → AVal → AVal → Int → Int → Heap → Prop
abbrev s59l1_K : List Kd := [.any, .any, .any, .int .i64, .int .i64]
def s59l1_G (F : s59l1_T) : s59l1_T := GK s59l1_K F
def s59l1_E (F : Nat → s59l1_T) : s59l1_T := EK s59l1_K F
theorem s59l1_go {F : s59l1_T} {x0 x1 x2 : AVal} {x3 x4 : Int} {h : Heap} (H : F x0 x1 x2 x3 x4 h) : s59l1_G F x0 x1 x2 x3 x4 h := gJ_plain rfl H
theorem s59l1_in {F : Nat → s59l1_T} {x0 x1 x2 : AVal} {x3 x4 : Int} {h : Heap} (n : Nat) (H : F n x0 x1 x2 x3 x4 h) : s59l1_E F x0 x1 x2 x3 x4 h := gJ_plain rfl ⟨n, H⟩

abbrev s59c2_K : List Kd := [.any, .any, .any, .int .i64, .int .i64]
def s59c2 (Ψ : AVal → Heap → Prop) (L1 : s59l1_T) (t2 out1 t30_1 : AVal) (t31_1 t32_1 : Int) (h : Heap) : Prop :=
 rg (t32_1 + 1) (
 L1 t2 out1 t30_1 t31_1 (t32_1 + 1) h)

def s59l1 (Ψ : AVal → Heap → Prop) : Nat → s59l1_T
 | 0, _, _, _, _, _, _ => False
 | n1 + 1, t1, out, t30, t31, t32, h =>
 ifT (decide (t32 < t31)) (
 ixS 1 t30 t32 fun p =>
 ld1 h p fun v16 =>
 tInt .i64 v16 fun v17 =>
 callG prog 86 [t1, (.int .i64 v17)] h fun v18 h_4 =>
 tTup v18 fun l_11 =>
 tCons l_11 fun v19 l_12 =>
 tCons l_12 fun v20 l_13 =>
 tBool v20 fun v21 =>
 tNil l_13 (
 tAgg v19 fun l_14 =>
 tCons l_14 fun v22 l_15 =>
 tInt .i64 v22 fun v23 =>
 tCons l_15 fun v24 l_16 =>
 tStr v24 fun v25 =>
 tCons l_16 fun v26 l_17 =>
 tInt .i64 v26 fun v27 =>
 tCons l_17 fun v28 l_18 =>
 tInt .i64 v28 fun v29 =>
 tNil l_18 (
 Sym.newRow 4 [(.agg [(.int .i64 0), (.str (ByteArray.mk #[])), (.int .i64 0), (.int .i64 0)])] h_4 fun r1 h_5 =>
 st false h_5 (.ptr r1 0 0) [(.int .i64 v23), (.str v25), (.int .i64 v27), (.int .i64 v29)] fun h_6 =>
 ld1 h_6 (.ptr r1 0 0) fun v30 =>
 tInt .i64 v30 fun v31 =>
 ifT (v31 == 1) (
 ld1 h_6 (.ptr r1 0 1) fun v32 =>
 tStr v32 fun v33 =>
 appC 1 16 h_6 out (.lsl 1 [(.str v33)]) fun v34 h_7 =>
 s59c2 Ψ (s59l1_G (s59l1 Ψ n1)) t1 v34 t30 t31 t32 h_7) (
 s59c2 Ψ (s59l1_G (s59l1 Ψ n1)) t1 out t30 t31 t32 h_6)))) (
 callG prog 95 [out] h fun v35 h_8 =>
 retG (.tuple [out, (.int .i64 0)]) h_8 Ψ)

def s59 (Ψ : AVal → Heap → Prop) (t : AVal) (id_ : Int) (h : Heap) : Prop :=
 callG prog 93 [t, (.int .i64 id_)] h fun v h_ =>
 tTup v fun l_ =>
 tCons l_ fun v1 l_1 =>
 tCons l_1 fun v2 l_2 =>
 tInt .i64 v2 fun v3 =>
 tNil l_2 (
 tAgg v1 fun l_3 =>
 tCons l_3 fun v4 l_4 =>
 tInt .i64 v4 fun v5 =>
 tCons l_4 fun v6 l_5 =>
 tStr v6 fun v7 =>
 tCons l_5 fun v8 l_6 =>
 tInt .i64 v8 fun v9 =>
 tCons l_6 fun v10 l_7 =>
 tInt .i64 v10 fun v11 =>
 tNil l_7 (
 Sym.newRow 4 [(.agg [(.int .i64 0), (.str (ByteArray.mk #[])), (.int .i64 0), (.int .i64 0)])] h_ fun r h_1 =>
 st false h_1 (.ptr r 0 0) [(.int .i64 v5), (.str v7), (.int .i64 v9), (.int .i64 v11)] fun h_2 =>
 ifT (v3 != 0) (
 retG (.tuple [.nilsl, (.int .i64 v3)]) h_2 Ψ) (
 callG prog 94 [t, (.int .i64 id_)] h_2 fun v12 h_3 =>
 tTup v12 fun l_8 =>
 tCons l_8 fun v13 l_9 =>
 tCons l_9 fun v14 l_10 =>
 tInt .i64 v14 fun v15 =>
 tNil l_10 (
 lenN v13 fun n =>
 s59l1_E (s59l1 Ψ) t .nilsl v13 n 0 h_3))))

def s59_A (Ψ : AVal → Heap → Prop) : Ann :=
 .seq (rA 2)
 (.seq (.seq (rA 9)
 (.seq (rA 2)
 (.cond (.seq (rA 3)
 (.leaf))
 (.leaf))))
 (.seq (rA 1)
 (.seq (rA 8)
 (.seq (.seq (rA 3)
 (.block (loopK [0, 8, 30, 31, 32] s59l1_K (s59l1 Ψ) (fun L1 =>
 .seq (rA 1)
 (.seq (.cond (.leaf)
 (.leaf))
 (cutK [0, 8, 30, 31, 32] s59c2_K (s59c2 Ψ (LK s59l1_K L1)) (.block (.seq (rA 3)
 (.seq (rA 9)
 (.seq (rA 3)
 (.cond (.reg [⟨none, [(0, false), (1, false), (2, false), (3, true), (4, false), (5, false)]⟩])
 (.leaf))))))
 (rA 2)))))))
 (.seq (rA 2)
 (.seq (rA 3)
 (.leaf)))))))

theorem s59_ok {Ψ : AVal → Heap → Prop} {t : AVal} {id_ : Int} {h : Heap} (H : s59 Ψ t id_ h) : ACalls prog 59 [t, (.int .i64 id_)] h Ψ :=
 calls_of_evF func59 (by kernel_rfl) (by kernel_rfl) (by kernel_rfl)
 (Eq.mpr (by as_aux_lemma => kernel_rfl : oblF prog f59 (s59_A Ψ) Ψ = ((True) ∧ ((otP 53) ∧ ((True) ∧ ((True) ∧ (((True) ∧ ((NK s59l1_K (s59l1 Ψ 0)) ∧ (∀ n1 : Nat, (QK s59l1_K (s59l1 Ψ (n1 + 1))) ∧ ((True) ∧ ((otP 1) ∧ ((otP 85) ∧ ((QK s59c2_K (s59c2 Ψ (s59l1_G (s59l1 Ψ n1)))) ∧ (True)))))))) ∧ (otP 5))))))) (⟨trivial, ⟨otP_ok 53, ⟨trivial, ⟨trivial, ⟨⟨trivial, ⟨fun _ _ _ _ _ _ H => H, fun _ => ⟨oI, ⟨trivial, ⟨otP_ok 1, ⟨otP_ok 85, ⟨oI, trivial⟩⟩⟩⟩⟩⟩⟩, otP_ok 5⟩⟩⟩⟩⟩))
 (Eq.mpr (by as_aux_lemma => kernel_rfl : evF prog f59 (s59_A Ψ) Ψ [t, (.int .i64 id_)] h = s59 Ψ t id_ h) H)

/- 61 dictum/force.Frame$1 -/
abbrev s61l1_T := Int → AVal → AVal → AVal → Int → Int → Heap → Prop
abbrev s61l1_K : List Kd := [.int .i64, .any, .any, .any, .int .i64, .int .i64]
def s61l1_G (F : s61l1_T) : s61l1_T := GK s61l1_K F
def s61l1_E (F : Nat → s61l1_T) : s61l1_T := EK s61l1_K F
theorem s61l1_go {F : s61l1_T} {x0 : Int} {x1 x2 x3 : AVal} {x4 x5 : Int} {h : Heap} (H : F x0 x1 x2 x3 x4 x5 h) : s61l1_G F x0 x1 x2 x3 x4 x5 h := gJ_plain rfl H
theorem s61l1_in {F : Nat → s61l1_T} {x0 : Int} {x1 x2 x3 : AVal} {x4 x5 : Int} {h : Heap} (n : Nat) (H : F n x0 x1 x2 x3 x4 x5 h) : s61l1_E F x0 x1 x2 x3 x4 x5 h := gJ_plain rfl ⟨n, H⟩

def s61l1 (Ψ : AVal → Heap → Prop) : Nat → s61l1_T
 | 0, _, _, _, _, _, _, _ => False
 | n2 + 1, i1, t3, t4, t19, t20, t21, h =>
 ifT (decide (t21 < t20)) (
 ixS 1 t19 t21 fun p =>
 ld1 h p fun v2 =>
 tInt .u64 v2 fun v3 =>
 ld1 h t3 fun v4 =>
 ixS 1 v4 i1 fun p1 =>
 st true h p1 [(.int .u64 v3)] fun h_ =>
 ld1 h_ t4 fun v5 =>
 rg (i1 + 1) (
 callV prog v5 [(.int .i64 (i1 + 1))] h_ fun v6 h_1 =>
 tBool v6 fun v7 =>
 ifT v7 (
 retG (.bool true) h_1 Ψ) (
 rg (t21 + 1) (
 s61l1_G (s61l1 Ψ n2) i1 t3 t4 t19 t20 (t21 + 1) h_1)))) (
 retG (.bool false) h Ψ)

def s61 (Ψ : AVal → Heap → Prop) (i : Int) (c0 : AVal) (c1 : AVal) (c2 : AVal) (c3 : AVal) (c4 : AVal) (c5 : AVal) (c6 : AVal) (c7 : AVal) (h : Heap) : Prop :=
 ld1 h c0 fun v =>
 lenN v fun n =>
 ifT (decide (i < n)) (
 ld1 h c1 fun v1 =>
 lenN v1 fun n1 =>
 s61l1_E (s61l1 Ψ) i c2 c3 v1 n1 0 h) (
 ldN 2 h c4 fun l_ =>
 tCons l_ fun v8 l_1 =>
 tCons l_1 fun v9 l_2 =>
 tNil l_2 (
 ld1 h c0 fun v10 =>
 ld1 h c2 fun v11 =>
 callG prog 62 [(.agg [v8, v9]), v10, v11] h fun v12 h_2 =>
 tAgg v12 fun l_3 =>
 tCons l_3 fun v13 l_4 =>
 tCons l_4 fun v14 l_5 =>
 tNil l_5 (
 st false h_2 c5 [v13, v14] fun h_3 =>
 ld1 h_3 c6 fun v15 =>
 ldN 2 h_3 c5 fun l_6 =>
 tCons l_6 fun v16 l_7 =>
 tCons l_7 fun v17 l_8 =>
 tNil l_8 (
 ld1 h_3 c7 fun v18 =>
 tInt .i64 v18 fun v19 =>
 callG prog 22 [v15, (.agg [v16, v17]), (.int .i64 v19)] h_3 fun v20 h_4 =>
 tTup v20 fun l_9 =>
 tCons l_9 fun v21 l_10 =>
 tBool v21 fun v22 =>
 tCons l_10 fun v23 l_11 =>
 tInt .i64 v23 fun v24 =>
 tNil l_11 (
 retG (.bool (!v22)) h_4 Ψ)))))

def s61_A (Ψ : AVal → Heap → Prop) : Ann :=
 .seq (rA 1)
 (.seq (.seq (rA 4)
 (.cond (.seq (.seq (rA 3)
 (.block (loopK [0, 3, 4, 19, 20, 21] s61l1_K (s61l1 Ψ) (fun L1 =>
 .seq (rA 1)
 (.seq (.cond (.leaf)
 (.leaf))
 (.seq (.block (.seq (rA 3)
 (.seq (rA 5)
 (.seq (rA 4)
 (.cond (.seq (rA 1)
 (.leaf))
 (.leaf))))))
 (rA 2)))))))
 (.seq (rA 1)
 (.leaf)))
 (.leaf)))
 (.seq (rA 5)
 (.seq (rA 9)
 (.seq (rA 3)
 (.leaf)))))

theorem s61_ok {Ψ : AVal → Heap → Prop} {i : Int} {c0 : AVal} {c1 : AVal} {c2 : AVal} {c3 : AVal} {c4 : AVal} {c5 : AVal} {c6 : AVal} {c7 : AVal} {h : Heap} (H : s61 Ψ i c0 c1 c2 c3 c4 c5 c6 c7 h) : ACalls prog 61 [(.int .i64 i), c0, c1, c2, c3, c4, c5, c6, c7] h Ψ :=
 calls_of_evF func61 (by kernel_rfl) (by kernel_rfl) (by kernel_rfl)
 (Eq.mpr (by as_aux_lemma => kernel_rfl : oblF prog f61 (s61_A Ψ) Ψ = ((True) ∧ (((True) ∧ ((((True) ∧ ((NK s61l1_K (s61l1 Ψ 0)) ∧ (∀ n1 : Nat, (QK s61l1_K (s61l1 Ψ (n1 + 1))) ∧ (otP 27341)))) ∧ (otP 1)) ∧ (True))) ∧ (otP 21)))) (⟨trivial, ⟨⟨trivial, ⟨⟨⟨trivial, ⟨fun _ _ _ _ _ _ _ H => H, fun _ => ⟨oI, otP_ok 27341⟩⟩⟩, otP_ok 1⟩, trivial⟩⟩, otP_ok 21⟩⟩))
 (Eq.mpr (by as_aux_lemma => kernel_rfl : evF prog f61 (s61_A Ψ) Ψ [(.int .i64 i), c0, c1, c2, c3, c4, c5, c6, c7] h = s61 Ψ i c0 c1 c2 c3 c4 c5 c6 c7 h) H)

/- 63 dictum/dictumref17.Names -/
abbrev s63l1_T := AVal → AVal → Int → Heap → Prop
abbrev s63l1_K : List Kd := [.any, .any, .int .i64]
def s63l1_G (F : s63l1_T) : s63l1_T := GK s63l1_K F
def s63l1_E (F : Nat → s63l1_T) : s63l1_T := EK s63l1_K F
theorem s63l1_go {F : s63l1_T} {x0 x1 : AVal} {x2 : Int} {h : Heap} (H : F x0 x1 x2 h) : s63l1_G F x0 x1 x2 h := gJ_plain rfl H
theorem s63l1_in {F : Nat → s63l1_T} {x0 x1 : AVal} {x2 : Int} {h : Heap} (n : Nat) (H : F n x0 x1 x2 h) : s63l1_E F x0 x1 x2 h := gJ_plain rfl ⟨n, H⟩

def s63l1 (Ψ : AVal → Heap → Prop) : Nat → s63l1_T
 | 0, _, _, _, _ => False
 | n2 + 1, a1, b1, i, h =>
 lenN a1 fun n3 =>
 ifT (decide (i < n3)) (
 ixS 1 a1 i fun p =>
 ld1 h p fun v =>
 tStr v fun v1 =>
 ixS 1 b1 i fun p1 =>
 ld1 h p1 fun v2 =>
 tStr v2 fun v3 =>
 ifT (!strEq v1 v3) (
 retG (.bool false) h Ψ) (
 rg (i + 1) (
 s63l1_G (s63l1 Ψ n2) a1 b1 (i + 1) h))) (
 retG (.bool true) h Ψ)

def s63 (Ψ : AVal → Heap → Prop) (a : AVal) (b : AVal) (h : Heap) : Prop :=
 lenN a fun n =>
 lenN b fun n1 =>
 ifT (n != n1) (
 retG (.bool false) h Ψ) (
 s63l1_E (s63l1 Ψ) a b 0 h)

def s63_A (Ψ : AVal → Heap → Prop) : Ann :=
 .seq (rA 1)
 (.seq (.seq (rA 5)
 (.cond (.seq (rA 1)
 (.leaf))
 (.leaf)))
 (.seq (.seq (rA 1)
 (.block (loopK [0, 1, 5] s63l1_K (s63l1 Ψ) (fun L1 =>
 .seq (.seq (rA 4)
 (.cond (.leaf)
 (.leaf)))
 (.seq (.block (.seq (.draw [(0, false), (1, false), (2, false), (3, false), (4, false), (5, false), (6, false), (7, false), (8, false)] [0, 0, 3, 7, 0, 0, 48, 112, 255])
 (.cond (.seq (rA 1)
 (.leaf))
 (.leaf))))
 (rA 3))))))
 (.seq (rA 1)
 (.leaf))))

theorem s63_ok {Ψ : AVal → Heap → Prop} {a : AVal} {b : AVal} {h : Heap} (H : s63 Ψ a b h) : ACalls prog 63 [a, b] h Ψ :=
 calls_of_evF func63 (by kernel_rfl) (by kernel_rfl) (by kernel_rfl)
 (Eq.mpr (by as_aux_lemma => kernel_rfl : oblF prog f63 (s63_A Ψ) Ψ = ((True) ∧ ((otP 13) ∧ (((True) ∧ ((NK s63l1_K (s63l1 Ψ 0)) ∧ (∀ n1 : Nat, (QK s63l1_K (s63l1 Ψ (n1 + 1))) ∧ (otP 1739)))) ∧ (otP 1))))) (⟨trivial, ⟨otP_ok 13, ⟨⟨trivial, ⟨fun _ _ _ _ H => H, fun _ => ⟨oI, otP_ok 1739⟩⟩⟩, otP_ok 1⟩⟩⟩))
 (Eq.mpr (by as_aux_lemma => kernel_rfl : evF prog f63 (s63_A Ψ) Ψ [a, b] h = s63 Ψ a b h) H)

/- 65 (*dictum/force.eye).world -/
def s65 (Ψ : AVal → Heap → Prop) (y : AVal) (w : Int) (h : Heap) : Prop :=
 ifT (decide (0 ≤ w)) (
 nilCheckA y fun p =>
 addOff p 1 fun p1 =>
 addOff p1 0 fun p2 =>
 ld1 h p2 fun v =>
 lenN v fun n =>
 retG (.bool (decide (w < n))) h Ψ) (
 retG (.bool false) h Ψ)

def s65_A (Ψ : AVal → Heap → Prop) : Ann :=
 .seq (rA 1)
 (.seq (.reg [⟨none, [(0, false), (1, false), (2, false)]⟩, ⟨some (7, true), [(3, false), (4, false), (5, false), (6, false), (7, false), (8, false), (9, false), (10, false)]⟩, ⟨none, [(11, false), (12, false)]⟩])
 (.leaf))

theorem s65_ok {Ψ : AVal → Heap → Prop} {y : AVal} {w : Int} {h : Heap} (H : s65 Ψ y w h) : ACalls prog 65 [y, (.int .i64 w)] h Ψ :=
 calls_of_evF func65 (by kernel_rfl) (by kernel_rfl) (by kernel_rfl)
 (Eq.mpr (by as_aux_lemma => kernel_rfl : oblF prog f65 (s65_A Ψ) Ψ = (otP 5)) (otP_ok 5))
 (Eq.mpr (by as_aux_lemma => kernel_rfl : evF prog f65 (s65_A Ψ) Ψ [y, (.int .i64 w)] h = s65 Ψ y w h) H)

/- 67 (*dictum/formula.Table).Len -/
def s67 (Ψ : AVal → Heap → Prop) (t : AVal) (h : Heap) : Prop :=
 callG prog 98 [t] h fun v h_ =>
 tBool v fun v1 =>
 ifT (!v1) (
 retG (.int .i64 0) h_ Ψ) (
 nilCheckA t fun p =>
 addOff p 0 fun p1 =>
 ld1 h_ p1 fun v2 =>
 lenN v2 fun n =>
 retG (.int .i64 n) h_ Ψ)

def s67_A (Ψ : AVal → Heap → Prop) : Ann :=
 .seq (rA 1)
 (.seq (.seq (rA 3)
 (.cond (.seq (rA 1)
 (.leaf))
 (.leaf)))
 (.seq (rA 6)
 (.leaf)))

theorem s67_ok {Ψ : AVal → Heap → Prop} {t : AVal} {h : Heap} (H : s67 Ψ t h) : ACalls prog 67 [t] h Ψ :=
 calls_of_evF func67 (by kernel_rfl) (by kernel_rfl) (by kernel_rfl)
 (Eq.mpr (by as_aux_lemma => kernel_rfl : oblF prog f67 (s67_A Ψ) Ψ = (otP 1133)) (otP_ok 1133))
 (Eq.mpr (by as_aux_lemma => kernel_rfl : evF prog f67 (s67_A Ψ) Ψ [t] h = s67 Ψ t h) H)

/- 74 slices.Contains[[]string,string] -/
def s74 (Ψ : AVal → Heap → Prop) (s : AVal) (v : ByteArray) (h : Heap) : Prop :=
 callG prog 104 [s, (.str v)] h fun v1 h_ =>
 tInt .i64 v1 fun v2 =>
 retG (.bool (decide (0 ≤ v2))) h_ Ψ

def s74_A (Ψ : AVal → Heap → Prop) : Ann :=
 .seq (rA 1)
 (.seq (rA 5)
 (.leaf))

theorem s74_ok {Ψ : AVal → Heap → Prop} {s : AVal} {v : ByteArray} {h : Heap} (H : s74 Ψ s v h) : ACalls prog 74 [s, (.str v)] h Ψ :=
 calls_of_evF func74 (by kernel_rfl) (by kernel_rfl) (by kernel_rfl)
 (Eq.mpr (by as_aux_lemma => kernel_rfl : oblF prog f74 (s74_A Ψ) Ψ = (otP 5)) (otP_ok 5))
 (Eq.mpr (by as_aux_lemma => kernel_rfl : evF prog f74 (s74_A Ψ) Ψ [s, (.str v)] h = s74 Ψ s v h) H)

/- 81 (*dictum/formula.Table).Copy -/
abbrev s81l1_T := AVal → AVal → Int → Int → Heap → Prop
abbrev s81l1_K : List Kd := [.any, .any, .int .i64, .int .i64]
def s81l1_G (F : s81l1_T) : s81l1_T := GK s81l1_K F
def s81l1_E (F : Nat → s81l1_T) : s81l1_T := EK s81l1_K F
theorem s81l1_go {F : s81l1_T} {x0 x1 : AVal} {x2 x3 : Int} {h : Heap} (H : F x0 x1 x2 x3 h) : s81l1_G F x0 x1 x2 x3 h := gJ_plain rfl H
theorem s81l1_in {F : Nat → s81l1_T} {x0 x1 : AVal} {x2 x3 : Int} {h : Heap} (n : Nat) (H : F n x0 x1 x2 x3 h) : s81l1_E F x0 x1 x2 x3 h := gJ_plain rfl ⟨n, H⟩

def s81l1 (Ψ : AVal → Heap → Prop) : Nat → s81l1_T
 | 0, _, _, _, _, _ => False
 | n1 + 1, c, t13, t14, t15, h =>
 ifT (decide (t15 < t14)) (
 ixS 4 t13 t15 fun p2 =>
 ldN 4 h p2 fun l_ =>
 tCons l_ fun v4 l_1 =>
 tInt .i64 v4 fun v5 =>
 tCons l_1 fun v6 l_2 =>
 tStr v6 fun v7 =>
 tCons l_2 fun v8 l_3 =>
 tInt .i64 v8 fun v9 =>
 tCons l_3 fun v10 l_4 =>
 tInt .i64 v10 fun v11 =>
 tNil l_4 (
 Sym.newRow 4 [(.agg [(.int .i64 0), (.str (ByteArray.mk #[])), (.int .i64 0), (.int .i64 0)])] h fun r h_2 =>
 st false h_2 (.ptr r 0 0) [(.int .i64 v5), (.str v7), (.int .i64 v9), (.int .i64 v11)] fun h_3 =>
 nilCheckA c fun p3 =>
 addOff p3 0 fun p4 =>
 ld1 h_3 p4 fun v12 =>
 ldN 4 h_3 (.ptr r 0 0) fun l_5 =>
 tCons l_5 fun v13 l_6 =>
 tInt .i64 v13 fun v14 =>
 tCons l_6 fun v15 l_7 =>
 tStr v15 fun v16 =>
 tCons l_7 fun v17 l_8 =>
 tInt .i64 v17 fun v18 =>
 tCons l_8 fun v19 l_9 =>
 tInt .i64 v19 fun v20 =>
 tNil l_9 (
 (ld1 h_3 p4 fun v21 =>
 v21 = v12) ∧
 appC 4 40 h_3 v12 (.lsl 4 [(.agg [(.int .i64 v14), (.str v16), (.int .i64 v18), (.int .i64 v20)])]) fun v22 h_4 =>
 nilCheckA c fun p5 =>
 addOff p5 0 fun p6 =>
 chk (sc v22) (
 st true h_4 p6 [v22] fun h_5 =>
 nilCheckA c fun p7 =>
 addOff p7 1 fun p8 =>
 ld1 h_5 p8 fun v23 =>
 ldN 4 h_5 (.ptr r 0 0) fun l_10 =>
 tCons l_10 fun v24 l_11 =>
 tInt .i64 v24 fun v25 =>
 tCons l_11 fun v26 l_12 =>
 tStr v26 fun v27 =>
 tCons l_12 fun v28 l_13 =>
 tInt .i64 v28 fun v29 =>
 tCons l_13 fun v30 l_14 =>
 tInt .i64 v30 fun v31 =>
 tNil l_14 (
 mapPut h_5 v23 (.agg [(.int .i64 v25), (.str v27), (.int .i64 v29), (.int .i64 v31)]) (.int .i64 t15) fun h_6 =>
 rg (t15 + 1) (
 s81l1_G (s81l1 Ψ n1) c t13 t14 (t15 + 1) h_6)))))) (
 retG c h Ψ)

def s81 (Ψ : AVal → Heap → Prop) (t : AVal) (h : Heap) : Prop :=
 callG prog 98 [t] h fun v h_ =>
 tBool v fun v1 =>
 ifT (!v1) (
 retG .nilptr h_ Ψ) (
 callG prog 44 [] h_ fun v2 h_1 =>
 nilCheckA t fun p =>
 addOff p 0 fun p1 =>
 ld1 h_1 p1 fun v3 =>
 lenN v3 fun n =>
 s81l1_E (s81l1 Ψ) v2 v3 n 0 h_1)

def s81_A (Ψ : AVal → Heap → Prop) : Ann :=
 .seq (rA 1)
 (.seq (.seq (rA 3)
 (.cond (.seq (rA 1)
 (.leaf))
 (.leaf)))
 (.seq (rA 2)
 (.seq (.seq (rA 6)
 (.block (loopK [3, 13, 14, 15] s81l1_K (s81l1 Ψ) (fun L1 =>
 .seq (rA 1)
 (.seq (.cond (.leaf)
 (.leaf))
 (.seq (.block (.seq (rA 6)
 (.seq (.draw [(0, false), (1, false), (2, false), (3, false), (4, false), (5, false), (6, true), (7, false), (8, false), (9, false), (10, false)] [0, 0, 2, 6, 14, 0, 32, 126, 255, 511, 1023])
 (.draw [(0, false), (1, false), (2, false), (3, false), (4, false), (5, false), (6, false)] [0, 1, 3, 7, 0, 0, 63]))))
 (rA 2)))))))
 (.seq (rA 2)
 (.leaf)))))

theorem s81_ok {Ψ : AVal → Heap → Prop} {t : AVal} {h : Heap} (H : s81 Ψ t h) : ACalls prog 81 [t] h Ψ :=
 calls_of_evF func81 (by kernel_rfl) (by kernel_rfl) (by kernel_rfl)
 (Eq.mpr (by as_aux_lemma => kernel_rfl : oblF prog f81 (s81_A Ψ) Ψ = ((True) ∧ ((otP 13) ∧ ((True) ∧ (((True) ∧ ((NK s81l1_K (s81l1 Ψ 0)) ∧ (∀ n1 : Nat, (QK s81l1_K (s81l1 Ψ (n1 + 1))) ∧ (otP 717)))) ∧ (otP 1)))))) (⟨trivial, ⟨otP_ok 13, ⟨trivial, ⟨⟨trivial, ⟨fun _ _ _ _ _ H => H, fun _ => ⟨oI, otP_ok 717⟩⟩⟩, otP_ok 1⟩⟩⟩⟩))
 (Eq.mpr (by as_aux_lemma => kernel_rfl : evF prog f81 (s81_A Ψ) Ψ [t] h = s81 Ψ t h) H)

/- 83 dictum/bits.Next -/
abbrev s83l1_T := AVal → Int → Heap → Prop
abbrev s83l1_K : List Kd := [.any, .int .i64]
def s83l1_G (F : s83l1_T) : s83l1_T := GK s83l1_K F
def s83l1_E (F : Nat → s83l1_T) : s83l1_T := EK s83l1_K F
theorem s83l1_go {F : s83l1_T} {x0 : AVal} {x1 : Int} {h : Heap} (H : F x0 x1 h) : s83l1_G F x0 x1 h := gJ_plain rfl H
theorem s83l1_in {F : Nat → s83l1_T} {x0 : AVal} {x1 : Int} {h : Heap} (n : Nat) (H : F n x0 x1 h) : s83l1_E F x0 x1 h := gJ_plain rfl ⟨n, H⟩

def s83l1 (Ψ : AVal → Heap → Prop) : Nat → s83l1_T
 | 0, _, _, _ => False
 | n + 1, b1, i, h =>
 ifT (decide (i < 16)) (
 ixP 16 1 b1 i fun p2 =>
 ld1 h p2 fun v4 =>
 tInt .u64 v4 fun v5 =>
 ifT (v5 != 0) (
 rg (64 * i) (
 ixP 16 1 b1 i fun p3 =>
 ld1 h p3 fun v6 =>
 tInt .u64 v6 fun v7 =>
 callG prog 118 [(.int .u64 v7)] h fun v8 h_3 =>
 tInt .i64 v8 fun v9 =>
 rg ((64 * i) + v9) (
 retG (.tuple [(.int .i64 ((64 * i) + v9)), (.bool true)]) h_3 Ψ))) (
 rg (i + 1) (
 s83l1_G (s83l1 Ψ n) b1 (i + 1) h))) (
 retG (.tuple [(.int .i64 0), (.bool false)]) h Ψ)

def s83 (Ψ : AVal → Heap → Prop) (b : AVal) (from_ : Int) (h : Heap) : Prop :=
 aggN 16 b fun cs =>
 Sym.newRow 16 [b] h fun r h_ =>
 callG prog 100 [(.int .i64 (max from_ 0))] h_ fun v h_1 =>
 tBool v fun v1 =>
 ifT (!v1) (
 retG (.tuple [(.int .i64 0), (.bool false)]) h_1 Ψ) (
 64 ≠ (0 : Int) ∧
 rg (Int.tdiv (max from_ 0) 64) (
 ixP 16 1 (.ptr r 0 0) (Int.tdiv (max from_ 0) 64) fun p =>
 ld1 h_1 p fun v2 =>
 tInt .u64 v2 fun v3 =>
 64 ≠ (0 : Int) ∧
 (0 : Int) ≤ (Int.tmod (max from_ 0) 64) ∧
 ixP 16 1 (.ptr r 0 0) (Int.tdiv (max from_ 0) 64) fun p1 =>
 st true h_1 p1 [(.int .u64 (bitsI .and .u64 v3 (IntKind.u64.wrap (18446744073709551615 * 2 ^ (min (Int.toNat (Int.tmod (max from_ 0) 64)) (IntKind.u64.bits))))))] fun h_2 =>
 64 ≠ (0 : Int) ∧
 rg (Int.tdiv (max from_ 0) 64) (
 s83l1_E (s83l1 Ψ) (.ptr r 0 0) (Int.tdiv (max from_ 0) 64) h_2)))

def s83_A (Ψ : AVal → Heap → Prop) : Ann :=
 .seq (rA 3)
 (.seq (rA 3)
 (.seq (.seq (rA 3)
 (.cond (.seq (rA 2)
 (.leaf))
 (.leaf)))
 (.seq (.draw [(0, false), (1, false), (2, false), (3, false), (4, false), (5, false), (6, false), (7, false), (8, false), (9, false)] [0, 1, 3, 7, 0, 16, 48, 127, 255, 511])
 (.seq (.seq (rA 3)
 (.block (loopK [2, 6] s83l1_K (s83l1 Ψ) (fun L1 =>
 .seq (.seq (rA 2)
 (.cond (.leaf)
 (.leaf)))
 (.seq (.block (.seq (rA 4)
 (.cond (.seq (rA 9)
 (.leaf))
 (.leaf))))
 (rA 3))))))
 (.seq (rA 2)
 (.leaf))))))

theorem s83_ok {Ψ : AVal → Heap → Prop} {b : AVal} {from_ : Int} {h : Heap} (H : s83 Ψ b from_ h) : ACalls prog 83 [b, (.int .i64 from_)] h Ψ :=
 calls_of_evF func83 (by kernel_rfl) (by kernel_rfl) (by kernel_rfl)
 (Eq.mpr (by as_aux_lemma => kernel_rfl : oblF prog f83 (s83_A Ψ) Ψ = ((True) ∧ ((True) ∧ ((otP 13) ∧ ((True) ∧ (((True) ∧ ((NK s83l1_K (s83l1 Ψ 0)) ∧ (∀ n1 : Nat, (QK s83l1_K (s83l1 Ψ (n1 + 1))) ∧ (otP 1739)))) ∧ (otP 1))))))) (⟨trivial, ⟨trivial, ⟨otP_ok 13, ⟨trivial, ⟨⟨trivial, ⟨fun _ _ _ H => H, fun _ => ⟨oI, otP_ok 1739⟩⟩⟩, otP_ok 1⟩⟩⟩⟩⟩))
 (Eq.mpr (by as_aux_lemma => kernel_rfl : evF prog f83 (s83_A Ψ) Ψ [b, (.int .i64 from_)] h = s83 Ψ b from_ h) H)

/- 85 slices.IndexFunc[[]int,int] -/
abbrev s85l1_T := AVal → AVal → Int → Int → Heap → Prop
abbrev s85l1_K : List Kd := [.any, .any, .int .i64, .int .i64]
def s85l1_G (F : s85l1_T) : s85l1_T := GK s85l1_K F
def s85l1_E (F : Nat → s85l1_T) : s85l1_T := EK s85l1_K F
theorem s85l1_go {F : s85l1_T} {x0 x1 : AVal} {x2 x3 : Int} {h : Heap} (H : F x0 x1 x2 x3 h) : s85l1_G F x0 x1 x2 x3 h := gJ_plain rfl H
theorem s85l1_in {F : Nat → s85l1_T} {x0 x1 : AVal} {x2 x3 : Int} {h : Heap} (n : Nat) (H : F n x0 x1 x2 x3 h) : s85l1_E F x0 x1 x2 x3 h := gJ_plain rfl ⟨n, H⟩

def s85l1 (Ψ : AVal → Heap → Prop) : Nat → s85l1_T
 | 0, _, _, _, _, _ => False
 | n1 + 1, s1, f1, t7, t8, h =>
 ifT (decide (t8 < t7)) (
 ixS 1 s1 t8 fun p =>
 ld1 h p fun v =>
 tInt .i64 v fun v1 =>
 callV prog f1 [(.int .i64 v1)] h fun v2 h_ =>
 tBool v2 fun v3 =>
 ifT v3 (
 retG (.int .i64 t8) h_ Ψ) (
 rg (t8 + 1) (
 s85l1_G (s85l1 Ψ n1) s1 f1 t7 (t8 + 1) h_))) (
 retG (.int .i64 (-1)) h Ψ)

def s85 (Ψ : AVal → Heap → Prop) (s : AVal) (f : AVal) (h : Heap) : Prop :=
 lenN s fun n =>
 s85l1_E (s85l1 Ψ) s f n 0 h

def s85_A (Ψ : AVal → Heap → Prop) : Ann :=
 .seq (rA 1)
 (.seq (.seq (rA 3)
 (.block (loopK [0, 1, 7, 8] s85l1_K (s85l1 Ψ) (fun L1 =>
 .seq (rA 1)
 (.seq (.cond (.leaf)
 (.leaf))
 (.seq (.block (.seq (rA 2)
 (.seq (rA 6)
 (.cond (.seq (rA 2)
 (.leaf))
 (.leaf)))))
 (rA 2)))))))
 (.seq (rA 1)
 (.leaf)))

theorem s85_ok {Ψ : AVal → Heap → Prop} {s : AVal} {f : AVal} {h : Heap} (H : s85 Ψ s f h) : ACalls prog 85 [s, f] h Ψ :=
 calls_of_evF func85 (by kernel_rfl) (by kernel_rfl) (by kernel_rfl)
 (Eq.mpr (by as_aux_lemma => kernel_rfl : oblF prog f85 (s85_A Ψ) Ψ = ((True) ∧ (((True) ∧ ((NK s85l1_K (s85l1 Ψ 0)) ∧ (∀ n1 : Nat, (QK s85l1_K (s85l1 Ψ (n1 + 1))) ∧ (otP 6861)))) ∧ (otP 1)))) (⟨trivial, ⟨⟨trivial, ⟨fun _ _ _ _ _ H => H, fun _ => ⟨oI, otP_ok 6861⟩⟩⟩, otP_ok 1⟩⟩))
 (Eq.mpr (by as_aux_lemma => kernel_rfl : evF prog f85 (s85_A Ψ) Ψ [s, f] h = s85 Ψ s f h) H)

/- 87 (*dictum/force.eye).forces$1 -/
def s87 (Ψ : AVal → Heap → Prop) (v : Int) (c0 : AVal) (c1 : AVal) (h : Heap) : Prop :=
 ld1 h c0 fun v1 =>
 addOff c1 2 fun p =>
 ld1 h p fun v2 =>
 tInt .i64 v2 fun v3 =>
 callG prog 50 [v1, (.int .i64 v), (.int .i64 v3)] h fun v4 h_ =>
 tBool v4 fun v5 =>
 ifT v5 (
 ld1 h_ c0 fun v6 =>
 addOff c1 3 fun p1 =>
 ld1 h_ p1 fun v7 =>
 tInt .i64 v7 fun v8 =>
 callG prog 50 [v6, (.int .i64 v), (.int .i64 v8)] h_ fun v9 h_1 =>
 tBool v9 fun v10 =>
 retG (.bool (!v10)) h_1 Ψ) (
 retG (.bool false) h_ Ψ)

def s87_A (Ψ : AVal → Heap → Prop) : Ann :=
 .seq (rA 1)
 (.seq (.reg [⟨none, [(0, false), (1, false), (2, false), (3, false), (4, false), (5, false)]⟩, ⟨some (10, true), [(6, false), (7, false), (8, false), (9, false), (10, false), (11, false)]⟩, ⟨none, [(12, false), (13, false)]⟩])
 (.leaf))

theorem s87_ok {Ψ : AVal → Heap → Prop} {v : Int} {c0 : AVal} {c1 : AVal} {h : Heap} (H : s87 Ψ v c0 c1 h) : ACalls prog 87 [(.int .i64 v), c0, c1] h Ψ :=
 calls_of_evF func87 (by kernel_rfl) (by kernel_rfl) (by kernel_rfl)
 (Eq.mpr (by as_aux_lemma => kernel_rfl : oblF prog f87 (s87_A Ψ) Ψ = (otP 5)) (otP_ok 5))
 (Eq.mpr (by as_aux_lemma => kernel_rfl : evF prog f87 (s87_A Ψ) Ψ [(.int .i64 v), c0, c1] h = s87 Ψ v c0 c1 h) H)

/- 89 dictum/dictumref17.fine -/
abbrev s89l1_T := AVal → Int → Heap → Prop
abbrev s89l1_K : List Kd := [.any, .int .i64]
def s89l1_G (F : s89l1_T) : s89l1_T := GK s89l1_K F
def s89l1_E (F : Nat → s89l1_T) : s89l1_T := EK s89l1_K F
theorem s89l1_go {F : s89l1_T} {x0 : AVal} {x1 : Int} {h : Heap} (H : F x0 x1 h) : s89l1_G F x0 x1 h := gJ_plain rfl H
theorem s89l1_in {F : Nat → s89l1_T} {x0 : AVal} {x1 : Int} {h : Heap} (n : Nat) (H : F n x0 x1 h) : s89l1_E F x0 x1 h := gJ_plain rfl ⟨n, H⟩

abbrev s89c2_K : List Kd := [.any, .int .i64, .bool]
def s89c2 (Ψ : AVal → Heap → Prop) (L1 : s89l1_T) (l_2 : AVal) (i1 : Int) (t31 : Bool) (h : Heap) : Prop :=
 ifT t31 (
 retG (.bool false) h Ψ) (
 rg (i1 + 1) (
 L1 l_2 (i1 + 1) h))

def s89l1 (Ψ : AVal → Heap → Prop) : Nat → s89l1_T
 | 0, _, _, _ => False
 | n + 1, l_1, i, h =>
 lenN l_1 fun n1 =>
 ifT (decide (i < n1)) (
 ixS 1 l_1 i fun p =>
 ld1 h p fun v =>
 tStr v fun v1 =>
 callG prog 121 [(.str v1)] h fun v2 h_ =>
 tBool v2 fun v3 =>
 ifT (!v3) (
 s89c2 Ψ (s89l1_G (s89l1 Ψ n)) l_1 i true h_) (
 ifT (decide (0 < i)) (
 rg (i - 1) (
 ixS 1 l_1 (i - 1) fun p1 =>
 ld1 h_ p1 fun v4 =>
 tStr v4 fun v5 =>
 ixS 1 l_1 i fun p2 =>
 ld1 h_ p2 fun v6 =>
 tStr v6 fun v7 =>
 s89c2 Ψ (s89l1_G (s89l1 Ψ n)) l_1 i (!strLt v5 v7) h_)) (
 s89c2 Ψ (s89l1_G (s89l1 Ψ n)) l_1 i false h_))) (
 retG (.bool true) h Ψ)

def s89 (Ψ : AVal → Heap → Prop) (l_ : AVal) (h : Heap) : Prop :=
 s89l1_E (s89l1 Ψ) l_ 0 h

def s89_A (Ψ : AVal → Heap → Prop) : Ann :=
 .seq (rA 1)
 (.seq (.seq (rA 1)
 (.block (loopK [0, 3] s89l1_K (s89l1 Ψ) (fun L1 =>
 .seq (.seq (rA 4)
 (.cond (.leaf)
 (.leaf)))
 (.seq (.block (cutK [0, 3, 31] s89c2_K (s89c2 Ψ (LK s89l1_K L1)) (.draw [(0, false), (1, false), (2, false), (3, false), (4, false), (5, false), (6, false), (7, false), (8, false), (9, false), (10, false), (11, false), (12, false), (13, false), (14, false), (15, false), (16, false), (17, false), (18, false), (19, false), (20, false), (21, false)] [0, 0, 3, 7, 15, 31, 63, 127, 255, 511, 1023, 1023, 3071, 8191, 16383, 1023, 1023, 99327, 230399, 524287, 1048575, 2097151])
 (.cond (.seq (rA 1)
 (.leaf))
 (.leaf))))
 (rA 3))))))
 (.seq (rA 1)
 (.leaf)))

theorem s89_ok {Ψ : AVal → Heap → Prop} {l_ : AVal} {h : Heap} (H : s89 Ψ l_ h) : ACalls prog 89 [l_] h Ψ :=
 calls_of_evF func89 (by kernel_rfl) (by kernel_rfl) (by kernel_rfl)
 (Eq.mpr (by as_aux_lemma => kernel_rfl : oblF prog f89 (s89_A Ψ) Ψ = ((True) ∧ (((True) ∧ ((NK s89l1_K (s89l1 Ψ 0)) ∧ (∀ n1 : Nat, (QK s89l1_K (s89l1 Ψ (n1 + 1))) ∧ ((otP 5) ∧ (((True) ∧ ((QK s89c2_K (s89c2 Ψ (s89l1_G (s89l1 Ψ n1)))) ∧ (otP 3))) ∧ (True)))))) ∧ (otP 1)))) (⟨trivial, ⟨⟨trivial, ⟨fun _ _ _ H => H, fun _ => ⟨oI, ⟨otP_ok 5, ⟨⟨trivial, ⟨oI, otP_ok 3⟩⟩, trivial⟩⟩⟩⟩⟩, otP_ok 1⟩⟩))
 (Eq.mpr (by as_aux_lemma => kernel_rfl : evF prog f89 (s89_A Ψ) Ψ [l_] h = s89 Ψ l_ h) H)

/- 93 dictum/measure.row -/
def s93 (Ψ : AVal → Heap → Prop) (t : AVal) (id_ : Int) (h : Heap) : Prop :=
 Sym.newRow 4 [(.agg [(.int .i64 0), (.str (ByteArray.mk #[])), (.int .i64 0), (.int .i64 0)])] h fun r h_ =>
 callG prog 81 [t] h_ fun v h_1 =>
 nilP v fun b =>
 ifT b (
 st false h_1 (.ptr r 0 0) [(.int .i64 0), (.str (ByteArray.mk #[])), (.int .i64 0), (.int .i64 0)] fun h_2 =>
 ldN 4 h_2 (.ptr r 0 0) fun l_ =>
 tCons l_ fun v1 l_1 =>
 tInt .i64 v1 fun v2 =>
 tCons l_1 fun v3 l_2 =>
 tStr v3 fun v4 =>
 tCons l_2 fun v5 l_3 =>
 tInt .i64 v5 fun v6 =>
 tCons l_3 fun v7 l_4 =>
 tInt .i64 v7 fun v8 =>
 tNil l_4 (
 retG (.tuple [(.agg [(.int .i64 v2), (.str v4), (.int .i64 v6), (.int .i64 v8)]), (.int .i64 1)]) h_2 Ψ)) (
 callG prog 86 [t, (.int .i64 id_)] h_1 fun v9 h_3 =>
 tTup v9 fun l_5 =>
 tCons l_5 fun v10 l_6 =>
 tCons l_6 fun v11 l_7 =>
 tBool v11 fun v12 =>
 tNil l_7 (
 tAgg v10 fun l_8 =>
 tCons l_8 fun v13 l_9 =>
 tInt .i64 v13 fun v14 =>
 tCons l_9 fun v15 l_10 =>
 tStr v15 fun v16 =>
 tCons l_10 fun v17 l_11 =>
 tInt .i64 v17 fun v18 =>
 tCons l_11 fun v19 l_12 =>
 tInt .i64 v19 fun v20 =>
 tNil l_12 (
 Sym.newRow 4 [(.agg [(.int .i64 0), (.str (ByteArray.mk #[])), (.int .i64 0), (.int .i64 0)])] h_3 fun r1 h_4 =>
 st false h_4 (.ptr r1 0 0) [(.int .i64 v14), (.str v16), (.int .i64 v18), (.int .i64 v20)] fun h_5 =>
 ifT (!v12) (
 ldN 4 h_5 (.ptr r1 0 0) fun l_13 =>
 tCons l_13 fun v21 l_14 =>
 tInt .i64 v21 fun v22 =>
 tCons l_14 fun v23 l_15 =>
 tStr v23 fun v24 =>
 tCons l_15 fun v25 l_16 =>
 tInt .i64 v25 fun v26 =>
 tCons l_16 fun v27 l_17 =>
 tInt .i64 v27 fun v28 =>
 tNil l_17 (
 st false h_5 (.ptr r 0 0) [(.int .i64 v22), (.str v24), (.int .i64 v26), (.int .i64 v28)] fun h_6 =>
 ldN 4 h_6 (.ptr r 0 0) fun l_18 =>
 tCons l_18 fun v29 l_19 =>
 tInt .i64 v29 fun v30 =>
 tCons l_19 fun v31 l_20 =>
 tStr v31 fun v32 =>
 tCons l_20 fun v33 l_21 =>
 tInt .i64 v33 fun v34 =>
 tCons l_21 fun v35 l_22 =>
 tInt .i64 v35 fun v36 =>
 tNil l_22 (
 retG (.tuple [(.agg [(.int .i64 v30), (.str v32), (.int .i64 v34), (.int .i64 v36)]), (.int .i64 31)]) h_6 Ψ))) (
 ldN 4 h_5 (.ptr r1 0 0) fun l_23 =>
 tCons l_23 fun v37 l_24 =>
 tInt .i64 v37 fun v38 =>
 tCons l_24 fun v39 l_25 =>
 tStr v39 fun v40 =>
 tCons l_25 fun v41 l_26 =>
 tInt .i64 v41 fun v42 =>
 tCons l_26 fun v43 l_27 =>
 tInt .i64 v43 fun v44 =>
 tNil l_27 (
 st false h_5 (.ptr r 0 0) [(.int .i64 v38), (.str v40), (.int .i64 v42), (.int .i64 v44)] fun h_7 =>
 ldN 4 h_7 (.ptr r 0 0) fun l_28 =>
 tCons l_28 fun v45 l_29 =>
 tInt .i64 v45 fun v46 =>
 tCons l_29 fun v47 l_30 =>
 tStr v47 fun v48 =>
 tCons l_30 fun v49 l_31 =>
 tInt .i64 v49 fun v50 =>
 tCons l_31 fun v51 l_32 =>
 tInt .i64 v51 fun v52 =>
 tNil l_32 (
 retG (.tuple [(.agg [(.int .i64 v46), (.str v48), (.int .i64 v50), (.int .i64 v52)]), (.int .i64 0)]) h_7 Ψ))))))

def s93_A (Ψ : AVal → Heap → Prop) : Ann :=
 .seq (rA 2)
 (.seq (.seq (rA 3)
 (.cond (.seq (rA 3)
 (.leaf))
 (.leaf)))
 (.seq (rA 9)
 (.seq (.seq (rA 2)
 (.cond (.seq (rA 3)
 (.leaf))
 (.leaf)))
 (.seq (rA 3)
 (.leaf)))))

theorem s93_ok {Ψ : AVal → Heap → Prop} {t : AVal} {id_ : Int} {h : Heap} (H : s93 Ψ t id_ h) : ACalls prog 93 [t, (.int .i64 id_)] h Ψ :=
 calls_of_evF func93 (by kernel_rfl) (by kernel_rfl) (by kernel_rfl)
 (Eq.mpr (by as_aux_lemma => kernel_rfl : oblF prog f93 (s93_A Ψ) Ψ = (otP 1160301)) (otP_ok 1160301))
 (Eq.mpr (by as_aux_lemma => kernel_rfl : evF prog f93 (s93_A Ψ) Ψ [t, (.int .i64 id_)] h = s93 Ψ t id_ h) H)

/- 95 slices.Sort[[]string,string] -/
def s95 (Ψ : AVal → Heap → Prop) (x : AVal) (h : Heap) : Prop :=
 lenN x fun n =>
 callG prog 127 [(.int .u64 (IntKind.u64.wrap n))] h fun v h_ =>
 tInt .i64 v fun v1 =>
 callG prog 126 [x, (.int .i64 0), (.int .i64 n), (.int .i64 v1)] h_ fun v2 h_1 =>
 retG (.tuple []) h_1 Ψ

def s95_A (Ψ : AVal → Heap → Prop) : Ann :=
 .seq (rA 3)
 (rA 6)

theorem s95_ok {Ψ : AVal → Heap → Prop} {x : AVal} {h : Heap} (H : s95 Ψ x h) : ACalls prog 95 [x] h Ψ :=
 calls_of_evF func95 (by kernel_rfl) (by kernel_rfl) (by kernel_rfl)
 (Eq.mpr (by as_aux_lemma => kernel_rfl : oblF prog f95 (s95_A Ψ) Ψ = (otP 1)) (otP_ok 1))
 (Eq.mpr (by as_aux_lemma => kernel_rfl : evF prog f95 (s95_A Ψ) Ψ [x] h = s95 Ψ x h) H)

/- 97 slices.Clone[[]int,int] -/
def s97 (Ψ : AVal → Heap → Prop) (s : AVal) (h : Heap) : Prop :=
 nilS s fun b =>
 ifT b (
 retG .nilsl h Ψ) (
 Sym.newRow 1 [] h fun r h_ =>
 appC 1 8 h_ (.sl r 1 0 0) s fun v h_1 =>
 retG v h_1 Ψ)

def s97_A (Ψ : AVal → Heap → Prop) : Ann :=
 .seq (rA 1)
 (.seq (.seq (rA 2)
 (.cond (.seq (rA 1)
 (.leaf))
 (.leaf)))
 (.seq (rA 4)
 (.leaf)))

theorem s97_ok {Ψ : AVal → Heap → Prop} {s : AVal} {h : Heap} (H : s97 Ψ s h) : ACalls prog 97 [s] h Ψ :=
 calls_of_evF func97 (by kernel_rfl) (by kernel_rfl) (by kernel_rfl)
 (Eq.mpr (by as_aux_lemma => kernel_rfl : oblF prog f97 (s97_A Ψ) Ψ = (otP 1133)) (otP_ok 1133))
 (Eq.mpr (by as_aux_lemma => kernel_rfl : evF prog f97 (s97_A Ψ) Ψ [s] h = s97 Ψ s h) H)

/- 99 (*dictum/formula.Table).fits -/
abbrev s99c1_K : List Kd := []
def s99c1 (Ψ : AVal → Heap → Prop) (h : Heap) : Prop :=
 retG (.int .i64 0) h Ψ

abbrev s99c2_K : List Kd := [.any, .bool]
def s99c2 (Ψ : AVal → Heap → Prop) (n : AVal) (t16 : Bool) (h : Heap) : Prop :=
 ifT t16 (
 retG (.int .i64 31) h Ψ) (
 addOff n 1 fun p =>
 ld1 h p fun v =>
 tStr v fun v1 =>
 callG prog 128 [(.str v1)] h fun v2 h_ =>
 tBool v2 fun v3 =>
 ifT (!v3) (
 retG (.int .i64 32) h_ Ψ) (
 s99c1 Ψ h_))

abbrev s99c4_K : List Kd := [.bool]
def s99c4 (Ψ : AVal → Heap → Prop) (t46 : Bool) (h : Heap) : Prop :=
 ifT t46 (
 retG (.int .i64 31) h Ψ) (
 s99c1 Ψ h)

abbrev s99c3_K : List Kd := [.any, .any, .bool]
def s99c3 (Ψ : AVal → Heap → Prop) (t1 n1 : AVal) (t26 : Bool) (h : Heap) : Prop :=
 ifT t26 (
 addOff n1 1 fun p1 =>
 ld1 h p1 fun v4 =>
 tStr v4 fun v5 =>
 ifT (!strEq v5 (ByteArray.mk #[])) (
 s99c4 Ψ true h) (
 addOff n1 2 fun p2 =>
 ld1 h p2 fun v6 =>
 tInt .i64 v6 fun v7 =>
 callG prog 120 [t1, (.int .i64 v7)] h fun v8 h_1 =>
 tBool v8 fun v9 =>
 ifT (!v9) (
 s99c4 Ψ true h_1) (
 addOff n1 3 fun p3 =>
 ld1 h_1 p3 fun v10 =>
 tInt .i64 v10 fun v11 =>
 callG prog 120 [t1, (.int .i64 v11)] h_1 fun v12 h_2 =>
 tBool v12 fun v13 =>
 s99c4 Ψ (!v13) h_2))) (
 retG (.int .i64 31) h Ψ)

def s99 (Ψ : AVal → Heap → Prop) (t : AVal) (n_Kind : Int) (n_Name : ByteArray) (n_L : Int) (n_R : Int) (h : Heap) : Prop :=
 ifT (n_Kind == 1) (
 ifT (n_L != 0) (
 s99c2 Ψ (.lptr [(.int .i64 n_Kind), (.str n_Name), (.int .i64 n_L), (.int .i64 n_R)]) true h) (
 s99c2 Ψ (.lptr [(.int .i64 n_Kind), (.str n_Name), (.int .i64 n_L), (.int .i64 n_R)]) (n_R != 0) h)) (
 ifT (n_Kind == 2) (
 eqQ prog 83 (.agg [(.int .i64 n_Kind), (.str n_Name), (.int .i64 n_L), (.int .i64 n_R)]) (.agg [(.int .i64 2), (.str (ByteArray.mk #[])), (.int .i64 0), (.int .i64 0)]) fun b =>
 ifT (!b) (
 retG (.int .i64 31) h Ψ) (
 s99c1 Ψ h)) (
 ifT (n_Kind == 3) (
 s99c3 Ψ t (.lptr [(.int .i64 n_Kind), (.str n_Name), (.int .i64 n_L), (.int .i64 n_R)]) (n_Kind == 3) h) (
 ifT (n_Kind == 4) (
 s99c3 Ψ t (.lptr [(.int .i64 n_Kind), (.str n_Name), (.int .i64 n_L), (.int .i64 n_R)]) (n_Kind == 4) h) (
 s99c3 Ψ t (.lptr [(.int .i64 n_Kind), (.str n_Name), (.int .i64 n_L), (.int .i64 n_R)]) (n_Kind == 5) h))))

def s99_A (Ψ : AVal → Heap → Prop) : Ann :=
 .seq (.reg [⟨none, [(0, true), (1, false)]⟩])
 (cutK [] s99c1_K (s99c1 Ψ) (.seq (rA 2)
 (.block (.seq (rA 2)
 (.cond (.seq (cutK [3, 16] s99c2_K (s99c2 Ψ) (.reg [⟨none, [(0, false), (1, false), (2, false), (3, false)]⟩, ⟨some (12, false), [(4, false), (5, false), (6, false)]⟩, ⟨none, [(7, false)]⟩])
 (.cond (.seq (rA 1)
 (.leaf))
 (.leaf)))
 (.seq (rA 4)
 (.cond (.seq (rA 1)
 (.leaf))
 (.leaf))))
 (.seq (rA 2)
 (.cond (.seq (rA 3)
 (.cond (.seq (rA 1)
 (.leaf))
 (.leaf)))
 (cutK [0, 3, 26] s99c3_K (s99c3 Ψ) (.seq (rA 2)
 (.cond (.leaf)
 (.seq (rA 2)
 (.cond (.leaf)
 (rA 2)))))
 (.cond (cutK [46] s99c4_K (s99c4 Ψ) (.reg [⟨none, [(0, false), (1, false), (2, false), (3, false)]⟩, ⟨some (33, false), [(4, false), (5, false), (6, false), (7, false), (8, false)]⟩, ⟨none, [(9, false), (10, false)]⟩, ⟨some (40, false), [(11, false), (12, false), (13, false), (14, false), (15, false)]⟩, ⟨none, [(16, false)]⟩])
 (.cond (.seq (rA 1)
 (.leaf))
 (.leaf)))
 (.seq (rA 1)
 (.leaf))))))))))
 (.seq (rA 1)
 (.leaf)))

theorem s99_ok {Ψ : AVal → Heap → Prop} {t : AVal} {n_Kind : Int} {n_Name : ByteArray} {n_L : Int} {n_R : Int} {h : Heap} (H : s99 Ψ t n_Kind n_Name n_L n_R h) : ACalls prog 99 [t, (.agg [(.int .i64 n_Kind), (.str n_Name), (.int .i64 n_L), (.int .i64 n_R)])] h Ψ :=
 calls_of_evF func99 (by kernel_rfl) (by kernel_rfl) (by kernel_rfl)
 (Eq.mpr (by as_aux_lemma => kernel_rfl : oblF prog f99 (s99_A Ψ) Ψ = ((True) ∧ (((True) ∧ ((True) ∧ ((((True) ∧ ((QK s99c2_K (s99c2 Ψ)) ∧ (otP 3))) ∧ (otP 13)) ∧ ((True) ∧ ((otP 13) ∧ ((otP 85) ∧ ((QK s99c3_K (s99c3 Ψ)) ∧ (((True) ∧ ((QK s99c4_K (s99c4 Ψ)) ∧ (otP 3))) ∧ (otP 1))))))))) ∧ ((QK s99c1_K (s99c1 Ψ)) ∧ (otP 1))))) (⟨trivial, ⟨⟨trivial, ⟨trivial, ⟨⟨⟨trivial, ⟨oI, otP_ok 3⟩⟩, otP_ok 13⟩, ⟨trivial, ⟨otP_ok 13, ⟨otP_ok 85, ⟨oI, ⟨⟨trivial, ⟨oI, otP_ok 3⟩⟩, otP_ok 1⟩⟩⟩⟩⟩⟩⟩⟩, ⟨oI, otP_ok 1⟩⟩⟩))
 (Eq.mpr (by as_aux_lemma => kernel_rfl : evF prog f99 (s99_A Ψ) Ψ [t, (.agg [(.int .i64 n_Kind), (.str n_Name), (.int .i64 n_L), (.int .i64 n_R)])] h = s99 Ψ t n_Kind n_Name n_L n_R h) H)

/- 103 dictum/worlds.looked -/
abbrev s103l2_T := AVal → Int → AVal → AVal → Int → Int → Heap → Prop
abbrev s103l2_K : List Kd := [.any, .int .i64, .any, .any, .int .i64, .int .i64]
def s103l2_G (F : s103l2_T) : s103l2_T := GK s103l2_K F
def s103l2_E (F : Nat → s103l2_T) : s103l2_T := EK s103l2_K F
theorem s103l2_go {F : s103l2_T} {x0 : AVal} {x1 : Int} {x2 x3 : AVal} {x4 x5 : Int} {h : Heap} (H : F x0 x1 x2 x3 x4 x5 h) : s103l2_G F x0 x1 x2 x3 x4 x5 h := gJ_plain rfl H
theorem s103l2_in {F : Nat → s103l2_T} {x0 : AVal} {x1 : Int} {x2 x3 : AVal} {x4 x5 : Int} {h : Heap} (n : Nat) (H : F n x0 x1 x2 x3 x4 x5 h) : s103l2_E F x0 x1 x2 x3 x4 x5 h := gJ_plain rfl ⟨n, H⟩

abbrev s103l3_T := AVal → Int → AVal → Int → AVal → AVal → Int → Int → Int → Int → Heap → Prop
abbrev s103l3_K : List Kd := [.any, .int .i64, .any, .int .i64, .any, .any, .int .i64, .int .i64, .int .i64, .int .i64]
def s103l3_G (F : s103l3_T) : s103l3_T := GK s103l3_K F
def s103l3_E (F : Nat → s103l3_T) : s103l3_T := EK s103l3_K F
theorem s103l3_in {F : Nat → s103l3_T} {x0 : AVal} {x1 : Int} {x2 : AVal} {x3 : Int} {x4 x5 : AVal} {x6 x7 x8 x9 : Int} {h : Heap} (n : Nat) (H : F n x0 x1 x2 x3 x4 x5 x6 x7 x8 x9 h) : s103l3_E F x0 x1 x2 x3 x4 x5 x6 x7 x8 x9 h := gJ_plain rfl ⟨n, H⟩

abbrev s103c4_K : List Kd := [.any, .int .i64, .any, .int .i64, .any, .any, .int .i64, .int .i64, .int .i64, .int .i64]
def s103c4 (Ψ : AVal → Heap → Prop) (L2 : s103l2_T) (L3 : s103l3_T) (m3 : AVal) (n7 : Int) (leq2 : AVal) (a1 : Int) (l_7 t34_2 : AVal) (t35_2 t36_2 t44_1 t45_1 : Int) (h : Heap) : Prop :=
 rg (t45_1 + 1) (
 L3 m3 n7 leq2 a1 l_7 t34_2 t35_2 t36_2 t44_1 (t45_1 + 1) h)

abbrev s103c6_K : List Kd := [.any, .int .i64, .any, .int .i64, .any, .any, .int .i64, .int .i64, .int .i64, .int .i64, .bool]
def s103c6 (Ψ : AVal → Heap → Prop) (L2 : s103l2_T) (L3 : s103l3_T) (m5 : AVal) (n9 : Int) (leq4 : AVal) (a3 : Int) (l_9 t34_4 : AVal) (t35_4 t36_4 t44_3 t45_3 : Int) (t66 : Bool) (h : Heap) : Prop :=
 ifT t66 (
 retG (.tuple [.nilfunc, (.bool false)]) h Ψ) (
 s103c4 Ψ L2 L3 m5 n9 leq4 a3 l_9 t34_4 t35_4 t36_4 t44_3 t45_3 h)

abbrev s103c5_K : List Kd := [.any, .int .i64, .any, .int .i64, .any, .any, .any, .int .i64, .int .i64, .int .i64, .int .i64, .bool]
def s103c5 (Ψ : AVal → Heap → Prop) (L2 : s103l2_T) (L3 : s103l3_T) (m4 : AVal) (n8 : Int) (leq3 : AVal) (a2 : Int) (l_8 b t34_3 : AVal) (t35_3 t36_3 t44_2 t45_2 : Int) (t57 : Bool) (h : Heap) : Prop :=
 ifT t57 (
 s103c4 Ψ L2 L3 m4 n8 leq3 a2 l_8 t34_3 t35_3 t36_3 t44_2 t45_2 h) (
 ld1 h b fun v10 =>
 tInt .i64 v10 fun v11 =>
 callV prog leq3 [(.int .i64 v11), (.int .i64 a2)] h fun v12 h_4 =>
 tBool v12 fun v13 =>
 ifT v13 (
 s103c6 Ψ L2 L3 m4 n8 leq3 a2 l_8 t34_3 t35_3 t36_3 t44_2 t45_2 true h_4) (
 callG prog 132 [l_8, (.func (.func 133) [] [m4, b])] h_4 fun v14 h_5 =>
 tBool v14 fun v15 =>
 s103c6 Ψ L2 L3 m4 n8 leq3 a2 l_8 t34_3 t35_3 t36_3 t44_2 t45_2 v15 h_5))

def s103l3 (Ψ : AVal → Heap → Prop) (L2 : s103l2_T) : Nat → s103l3_T
 | 0, _, _, _, _, _, _, _, _, _, _, _ => False
 | n6 + 1, m2, n5, leq1, a, l_6, t34_1, t35_1, t36_1, t44, t45, h =>
 ifT (decide (t45 < t44)) (
 Sym.newRow 1 [(.int .i64 0)] h fun r h_2 =>
 st true h_2 (.ptr r 0 0) [(.int .i64 t45)] fun h_3 =>
 ld1 h_3 (.ptr r 0 0) fun v16 =>
 tInt .i64 v16 fun v17 =>
 ifT (a == v17) (
 s103c5 Ψ L2 (s103l3_G (s103l3 Ψ L2 n6)) m2 n5 leq1 a l_6 (.ptr r 0 0) t34_1 t35_1 t36_1 t44 t45 true h_3) (
 ld1 h_3 (.ptr r 0 0) fun v18 =>
 tInt .i64 v18 fun v19 =>
 callV prog leq1 [(.int .i64 a), (.int .i64 v19)] h_3 fun v20 h_6 =>
 tBool v20 fun v21 =>
 s103c5 Ψ L2 (s103l3_G (s103l3 Ψ L2 n6)) m2 n5 leq1 a l_6 (.ptr r 0 0) t34_1 t35_1 t36_1 t44 t45 (!v21) h_6)) (
 rg (t36_1 + 1) (
 L2 m2 n5 leq1 t34_1 t35_1 (t36_1 + 1) h))

def s103l2 (Ψ : AVal → Heap → Prop) : Nat → s103l2_T
 | 0, _, _, _, _, _, _, _ => False
 | n4 + 1, m1, n3, leq, t34, t35, t36, h =>
 ifT (decide (t36 < t35)) (
 ixS 1 t34 t36 fun p1 =>
 ld1 h p1 fun v7 =>
 callG prog 131 [v7] h fun v8 h_1 =>
 tBool v8 fun v9 =>
 ifT (!v9) (
 retG (.tuple [.nilfunc, (.bool false)]) h_1 Ψ) (
 s103l3_E (s103l3 Ψ (s103l2_G (s103l2 Ψ n4))) m1 n3 leq t36 v7 t34 t35 t36 n3 0 h_1)) (
 retG (.tuple [leq, (.bool true)]) h Ψ)

abbrev s103c1_K : List Kd := [.any, .int .i64, .bool]
def s103c1 (Ψ : AVal → Heap → Prop) (m : AVal) (n1 : Int) (t25 : Bool) (h : Heap) : Prop :=
 ifT t25 (
 retG (.tuple [.nilfunc, (.bool false)]) h Ψ) (
 ldN 2 h m fun l_ =>
 tCons l_ fun v l_1 =>
 tCons l_1 fun v1 l_2 =>
 tNil l_2 (
 callG prog 130 [(.agg [v, v1])] h fun v2 h_ =>
 tTup v2 fun l_3 =>
 tCons l_3 fun v3 l_4 =>
 tCons l_4 fun v4 l_5 =>
 tBool v4 fun v5 =>
 tNil l_5 (
 ifT (!v5) (
 retG (.tuple [.nilfunc, (.bool false)]) h_ Ψ) (
 addOff m 1 fun p =>
 ld1 h_ p fun v6 =>
 lenN v6 fun n2 =>
 s103l2_E (s103l2 Ψ) m n1 v3 v6 n2 0 h_))))

def s103 (Ψ : AVal → Heap → Prop) (m_Up : AVal) (m_Val : AVal) (h : Heap) : Prop :=
 lenN m_Up fun n =>
 ifT (decide (n < 1)) (
 s103c1 Ψ (.lptr [m_Up, m_Val]) n true h) (
 ifT (decide (512 < n)) (
 s103c1 Ψ (.lptr [m_Up, m_Val]) n true h) (
 lenN m_Val fun n12 =>
 s103c1 Ψ (.lptr [m_Up, m_Val]) n (n12 != n) h))

def s103_A (Ψ : AVal → Heap → Prop) : Ann :=
 .seq (.reg [⟨none, [(0, true), (1, false), (2, false)]⟩])
 (.seq (rA 4)
 (.seq (cutK [1, 4, 25] s103c1_K (s103c1 Ψ) (.reg [⟨none, [(0, false), (1, false), (2, false)]⟩, ⟨some (15, false), [(3, false), (4, false)]⟩, ⟨none, [(5, false), (6, false)]⟩, ⟨some (19, false), [(7, false), (8, false), (9, false), (10, false), (11, false)]⟩, ⟨none, [(12, false)]⟩])
 (.cond (.seq (rA 2)
 (.leaf))
 (.leaf)))
 (.seq (rA 7)
 (.seq (.seq (rA 2)
 (.cond (.seq (rA 2)
 (.leaf))
 (.leaf)))
 (.seq (.seq (rA 4)
 (.block (loopK [1, 4, 5, 34, 35, 36] s103l2_K (s103l2 Ψ) (fun L2 =>
 .seq (rA 1)
 (.seq (.cond (.leaf)
 (.leaf))
 (.seq (.block (.seq (rA 5)
 (.seq (.seq (rA 3)
 (.cond (.seq (rA 2)
 (.leaf))
 (.leaf)))
 (.seq (rA 2)
 (.block (loopK [1, 4, 5, 7, 8, 34, 35, 36, 44, 45] s103l3_K (s103l3 Ψ (LK s103l2_K L2)) (fun L3 =>
 .seq (rA 1)
 (.seq (.cond (.leaf)
 (.leaf))
 (cutK [1, 4, 5, 7, 8, 34, 35, 36, 44, 45] s103c4_K (s103c4 Ψ (LK s103l2_K L2) (LK s103l3_K L3)) (.block (.seq (rA 3)
 (.seq (cutK [1, 4, 5, 7, 8, 9, 34, 35, 36, 44, 45, 57] s103c5_K (s103c5 Ψ (LK s103l2_K L2) (LK s103l3_K L3)) (.reg [⟨none, [(0, false), (1, false), (2, false), (3, false)]⟩, ⟨some (51, false), [(4, false), (5, false), (6, false), (7, false), (8, false)]⟩, ⟨none, [(9, false)]⟩])
 (.cond (.leaf)
 (.leaf)))
 (cutK [1, 4, 5, 7, 8, 34, 35, 36, 44, 45, 66] s103c6_K (s103c6 Ψ (LK s103l2_K L2) (LK s103l3_K L3)) (.reg [⟨none, [(0, false), (1, false), (2, false), (3, false), (4, false)]⟩, ⟨some (62, false), [(5, false), (6, false), (7, false)]⟩, ⟨none, [(8, false)]⟩])
 (.cond (.seq (rA 2)
 (.leaf))
 (.leaf))))))
 (rA 2))))))))))
 (rA 2)))))))
 (.seq (rA 3)
 (.leaf)))))))

theorem s103_ok {Ψ : AVal → Heap → Prop} {m_Up : AVal} {m_Val : AVal} {h : Heap} (H : s103 Ψ m_Up m_Val h) : ACalls prog 103 [(.agg [m_Up, m_Val])] h Ψ :=
 calls_of_evF func103 (by kernel_rfl) (by kernel_rfl) (by kernel_rfl)
 (Eq.mpr (by as_aux_lemma => kernel_rfl : oblF prog f103 (s103_A Ψ) Ψ = ((True) ∧ ((True) ∧ (((True) ∧ ((QK s103c1_K (s103c1 Ψ)) ∧ (otP 3))) ∧ ((True) ∧ ((otP 13) ∧ (((True) ∧ ((NK s103l2_K (s103l2 Ψ 0)) ∧ (∀ n2 : Nat, (QK s103l2_K (s103l2 Ψ (n2 + 1))) ∧ ((True) ∧ ((otP 1) ∧ (((True) ∧ ((otP 13) ∧ ((True) ∧ ((NK s103l3_K (s103l3 Ψ (s103l2_G (s103l2 Ψ n2)) 0)) ∧ (∀ n3 : Nat, (QK s103l3_K (s103l3 Ψ (s103l2_G (s103l2 Ψ n2)) (n3 + 1))) ∧ ((True) ∧ ((otP 1) ∧ (((True) ∧ (((True) ∧ ((QK s103c5_K (s103c5 Ψ (s103l2_G (s103l2 Ψ n2)) (s103l3_G (s103l3 Ψ (s103l2_G (s103l2 Ψ n2)) n3)))) ∧ (otP 1))) ∧ ((True) ∧ ((QK s103c6_K (s103c6 Ψ (s103l2_G (s103l2 Ψ n2)) (s103l3_G (s103l3 Ψ (s103l2_G (s103l2 Ψ n2)) n3)))) ∧ (otP 3))))) ∧ ((QK s103c4_K (s103c4 Ψ (s103l2_G (s103l2 Ψ n2)) (s103l3_G (s103l3 Ψ (s103l2_G (s103l2 Ψ n2)) n3)))) ∧ (True)))))))))) ∧ (True))))))) ∧ (otP 1)))))))) (⟨trivial, ⟨trivial, ⟨⟨trivial, ⟨oI, otP_ok 3⟩⟩, ⟨trivial, ⟨otP_ok 13, ⟨⟨trivial, ⟨fun _ _ _ _ _ _ _ H => H, fun _ => ⟨oI, ⟨trivial, ⟨otP_ok 1, ⟨⟨trivial, ⟨otP_ok 13, ⟨trivial, ⟨fun _ _ _ _ _ _ _ _ _ _ _ H => H, fun _ => ⟨oI, ⟨trivial, ⟨otP_ok 1, ⟨⟨trivial, ⟨⟨trivial, ⟨oI, otP_ok 1⟩⟩, ⟨trivial, ⟨oI, otP_ok 3⟩⟩⟩⟩, ⟨oI, trivial⟩⟩⟩⟩⟩⟩⟩⟩⟩, trivial⟩⟩⟩⟩⟩⟩, otP_ok 1⟩⟩⟩⟩⟩⟩))
 (Eq.mpr (by as_aux_lemma => kernel_rfl : evF prog f103 (s103_A Ψ) Ψ [(.agg [m_Up, m_Val])] h = s103 Ψ m_Up m_Val h) H)

/- 117 (*dictum/dictumref03.T).Put -/
abbrev s117c1_K : List Kd := [.any, .any]
def s117c1 (Ψ : AVal → Heap → Prop) (t1 n : AVal) (h : Heap) : Prop :=
 ldN 4 h n fun l_ =>
 tCons l_ fun v l_1 =>
 tInt .i64 v fun v1 =>
 tCons l_1 fun v2 l_2 =>
 tStr v2 fun v3 =>
 tCons l_2 fun v4 l_3 =>
 tInt .i64 v4 fun v5 =>
 tCons l_3 fun v6 l_4 =>
 tInt .i64 v6 fun v7 =>
 tNil l_4 (
 callG prog 140 [t1, (.agg [(.int .i64 v1), (.str v3), (.int .i64 v5), (.int .i64 v7)])] h fun v8 h_ =>
 tTup v8 fun l_5 =>
 tCons l_5 fun v9 l_6 =>
 tInt .i64 v9 fun v10 =>
 tCons l_6 fun v11 l_7 =>
 tBool v11 fun v12 =>
 tNil l_7 (
 ifT v12 (
 retG (.tuple [(.int .i64 v10), (.int .i64 0)]) h_ Ψ) (
 nilCheckA t1 fun p =>
 addOff p 0 fun p1 =>
 ld1 h_ p1 fun v13 =>
 lenN v13 fun n1 =>
 ifT (decide (1024 ≤ n1)) (
 retG (.tuple [(.int .i64 0), (.int .i64 30)]) h_ Ψ) (
 nilCheckA t1 fun p2 =>
 addOff p2 0 fun p3 =>
 ld1 h_ p3 fun v14 =>
 ldN 4 h_ n fun l_8 =>
 tCons l_8 fun v15 l_9 =>
 tInt .i64 v15 fun v16 =>
 tCons l_9 fun v17 l_10 =>
 tStr v17 fun v18 =>
 tCons l_10 fun v19 l_11 =>
 tInt .i64 v19 fun v20 =>
 tCons l_11 fun v21 l_12 =>
 tInt .i64 v21 fun v22 =>
 tNil l_12 (
 (ld1 h_ p3 fun v23 =>
 v23 = v14) ∧
 appC 4 40 h_ v14 (.lsl 4 [(.agg [(.int .i64 v16), (.str v18), (.int .i64 v20), (.int .i64 v22)])]) fun v24 h_1 =>
 nilCheckA t1 fun p4 =>
 addOff p4 0 fun p5 =>
 chk (sc v24) (
 st true h_1 p5 [v24] fun h_2 =>
 nilCheckA t1 fun p6 =>
 addOff p6 0 fun p7 =>
 ld1 h_2 p7 fun v25 =>
 lenN v25 fun n2 =>
 rg (n2 - 1) (
 retG (.tuple [(.int .i64 (n2 - 1)), (.int .i64 0)]) h_2 Ψ)))))))

abbrev s117c2_K : List Kd := [.any, .any, .bool]
def s117c2 (Ψ : AVal → Heap → Prop) (t2 n3 : AVal) (t19 : Bool) (h : Heap) : Prop :=
 ifT t19 (
 retG (.tuple [(.int .i64 0), (.int .i64 31)]) h Ψ) (
 addOff n3 1 fun p8 =>
 ld1 h p8 fun v26 =>
 tStr v26 fun v27 =>
 callG prog 121 [(.str v27)] h fun v28 h_3 =>
 tBool v28 fun v29 =>
 ifT (!v29) (
 retG (.tuple [(.int .i64 0), (.int .i64 32)]) h_3 Ψ) (
 s117c1 Ψ t2 n3 h_3))

abbrev s117c3_K : List Kd := [.any, .any, .bool]
def s117c3 (Ψ : AVal → Heap → Prop) (t3 n4 : AVal) (t38 : Bool) (h : Heap) : Prop :=
 ifT t38 (
 retG (.tuple [(.int .i64 0), (.int .i64 31)]) h Ψ) (
 s117c1 Ψ t3 n4 h)

abbrev s117c5_K : List Kd := [.any, .any, .bool]
def s117c5 (Ψ : AVal → Heap → Prop) (t5 n6 : AVal) (t59 : Bool) (h : Heap) : Prop :=
 ifT t59 (
 retG (.tuple [(.int .i64 0), (.int .i64 31)]) h Ψ) (
 s117c1 Ψ t5 n6 h)

abbrev s117c4_K : List Kd := [.any, .any, .bool]
def s117c4 (Ψ : AVal → Heap → Prop) (t4 n5 : AVal) (t39 : Bool) (h : Heap) : Prop :=
 ifT t39 (
 addOff n5 1 fun p9 =>
 ld1 h p9 fun v30 =>
 tStr v30 fun v31 =>
 ifT (!strEq v31 (ByteArray.mk #[])) (
 s117c5 Ψ t4 n5 true h) (
 addOff n5 2 fun p10 =>
 ld1 h p10 fun v32 =>
 tInt .i64 v32 fun v33 =>
 callG prog 24 [t4, (.int .i64 v33)] h fun v34 h_4 =>
 tBool v34 fun v35 =>
 ifT (!v35) (
 s117c5 Ψ t4 n5 true h_4) (
 addOff n5 3 fun p11 =>
 ld1 h_4 p11 fun v36 =>
 tInt .i64 v36 fun v37 =>
 callG prog 24 [t4, (.int .i64 v37)] h_4 fun v38 h_5 =>
 tBool v38 fun v39 =>
 s117c5 Ψ t4 n5 (!v39) h_5))) (
 retG (.tuple [(.int .i64 0), (.int .i64 31)]) h Ψ)

def s117 (Ψ : AVal → Heap → Prop) (t : AVal) (n_Kind : Int) (n_Name : ByteArray) (n_L : Int) (n_R : Int) (h : Heap) : Prop :=
 ifT (n_Kind == 1) (
 ifT (n_L != 0) (
 s117c2 Ψ t (.lptr [(.int .i64 n_Kind), (.str n_Name), (.int .i64 n_L), (.int .i64 n_R)]) true h) (
 s117c2 Ψ t (.lptr [(.int .i64 n_Kind), (.str n_Name), (.int .i64 n_L), (.int .i64 n_R)]) (n_R != 0) h)) (
 ifT (n_Kind == 2) (
 ifT (!strEq n_Name (ByteArray.mk #[])) (
 s117c3 Ψ t (.lptr [(.int .i64 n_Kind), (.str n_Name), (.int .i64 n_L), (.int .i64 n_R)]) true h) (
 ifT (n_L != 0) (
 s117c3 Ψ t (.lptr [(.int .i64 n_Kind), (.str n_Name), (.int .i64 n_L), (.int .i64 n_R)]) true h) (
 s117c3 Ψ t (.lptr [(.int .i64 n_Kind), (.str n_Name), (.int .i64 n_L), (.int .i64 n_R)]) (n_R != 0) h))) (
 ifT (n_Kind == 3) (
 s117c4 Ψ t (.lptr [(.int .i64 n_Kind), (.str n_Name), (.int .i64 n_L), (.int .i64 n_R)]) (n_Kind == 3) h) (
 ifT (n_Kind == 4) (
 s117c4 Ψ t (.lptr [(.int .i64 n_Kind), (.str n_Name), (.int .i64 n_L), (.int .i64 n_R)]) (n_Kind == 4) h) (
 s117c4 Ψ t (.lptr [(.int .i64 n_Kind), (.str n_Name), (.int .i64 n_L), (.int .i64 n_R)]) (n_Kind == 5) h))))

def s117_A (Ψ : AVal → Heap → Prop) : Ann :=
 .seq (.reg [⟨none, [(0, true), (1, false), (2, false)]⟩])
 (cutK [0, 3] s117c1_K (s117c1 Ψ) (.seq (rA 2)
 (.block (.seq (rA 2)
 (.cond (.seq (cutK [0, 3, 19] s117c2_K (s117c2 Ψ) (.reg [⟨none, [(0, false), (1, false), (2, false), (3, false)]⟩, ⟨some (15, false), [(4, false), (5, false), (6, false)]⟩, ⟨none, [(7, false)]⟩])
 (.cond (.seq (rA 2)
 (.leaf))
 (.leaf)))
 (.seq (rA 4)
 (.cond (.seq (rA 2)
 (.leaf))
 (.leaf))))
 (.seq (rA 2)
 (.cond (cutK [0, 3, 38] s117c3_K (s117c3 Ψ) (.reg [⟨none, [(0, false), (1, false), (2, false), (3, false)]⟩, ⟨some (29, false), [(4, false), (5, false), (6, false)]⟩, ⟨none, [(7, false), (8, false)]⟩, ⟨some (34, false), [(9, false), (10, false), (11, false)]⟩, ⟨none, [(12, false)]⟩])
 (.cond (.seq (rA 2)
 (.leaf))
 (.leaf)))
 (cutK [0, 3, 39] s117c4_K (s117c4 Ψ) (.seq (rA 2)
 (.cond (.leaf)
 (.seq (rA 2)
 (.cond (.leaf)
 (rA 2)))))
 (.cond (cutK [0, 3, 59] s117c5_K (s117c5 Ψ) (.reg [⟨none, [(0, false), (1, false), (2, false), (3, false)]⟩, ⟨some (46, false), [(4, false), (5, false), (6, false), (7, false), (8, false)]⟩, ⟨none, [(9, false), (10, false)]⟩, ⟨some (53, false), [(11, false), (12, false), (13, false), (14, false), (15, false)]⟩, ⟨none, [(16, false)]⟩])
 (.cond (.seq (rA 2)
 (.leaf))
 (.leaf)))
 (.seq (rA 2)
 (.leaf))))))))))
 (.seq (rA 8)
 (.seq (.seq (rA 1)
 (.cond (.seq (rA 3)
 (.leaf))
 (.leaf)))
 (.seq (.seq (rA 6)
 (.cond (.seq (rA 2)
 (.leaf))
 (.leaf)))
 (.seq (.draw [(0, false), (1, false), (2, false), (3, false), (4, false), (5, false), (6, true), (7, false), (8, false), (9, false), (10, false)] [0, 0, 2, 6, 14, 0, 32, 126, 255, 511, 1023])
 (.seq (rA 8)
 (.leaf)))))))

theorem s117_ok {Ψ : AVal → Heap → Prop} {t : AVal} {n_Kind : Int} {n_Name : ByteArray} {n_L : Int} {n_R : Int} {h : Heap} (H : s117 Ψ t n_Kind n_Name n_L n_R h) : ACalls prog 117 [t, (.agg [(.int .i64 n_Kind), (.str n_Name), (.int .i64 n_L), (.int .i64 n_R)])] h Ψ :=
 calls_of_evF func117 (by kernel_rfl) (by kernel_rfl) (by kernel_rfl)
 (Eq.mpr (by as_aux_lemma => kernel_rfl : oblF prog f117 (s117_A Ψ) Ψ = ((True) ∧ (((True) ∧ ((True) ∧ ((((True) ∧ ((QK s117c2_K (s117c2 Ψ)) ∧ (otP 3))) ∧ (otP 13)) ∧ ((True) ∧ (((True) ∧ ((QK s117c3_K (s117c3 Ψ)) ∧ (otP 3))) ∧ ((otP 85) ∧ ((QK s117c4_K (s117c4 Ψ)) ∧ (((True) ∧ ((QK s117c5_K (s117c5 Ψ)) ∧ (otP 3))) ∧ (otP 1))))))))) ∧ ((QK s117c1_K (s117c1 Ψ)) ∧ (otP 1338477))))) (⟨trivial, ⟨⟨trivial, ⟨trivial, ⟨⟨⟨trivial, ⟨oI, otP_ok 3⟩⟩, otP_ok 13⟩, ⟨trivial, ⟨⟨trivial, ⟨oI, otP_ok 3⟩⟩, ⟨otP_ok 85, ⟨oI, ⟨⟨trivial, ⟨oI, otP_ok 3⟩⟩, otP_ok 1⟩⟩⟩⟩⟩⟩⟩⟩, ⟨oI, otP_ok 1338477⟩⟩⟩))
 (Eq.mpr (by as_aux_lemma => kernel_rfl : evF prog f117 (s117_A Ψ) Ψ [t, (.agg [(.int .i64 n_Kind), (.str n_Name), (.int .i64 n_L), (.int .i64 n_R)])] h = s117 Ψ t n_Kind n_Name n_L n_R h) H)

/- 120 (*dictum/formula.Table).has -/
def s120 (Ψ : AVal → Heap → Prop) (t : AVal) (id_ : Int) (h : Heap) : Prop :=
 ifT (decide (0 ≤ id_)) (
 nilCheckA t fun p =>
 addOff p 0 fun p1 =>
 ld1 h p1 fun v =>
 lenN v fun n =>
 retG (.bool (decide (id_ < n))) h Ψ) (
 retG (.bool false) h Ψ)

def s120_A (Ψ : AVal → Heap → Prop) : Ann :=
 .seq (rA 1)
 (.seq (.reg [⟨none, [(0, false), (1, false), (2, false)]⟩, ⟨some (7, true), [(3, false), (4, false), (5, false), (6, false), (7, false), (8, false), (9, false)]⟩, ⟨none, [(10, false), (11, false)]⟩])
 (.leaf))

theorem s120_ok {Ψ : AVal → Heap → Prop} {t : AVal} {id_ : Int} {h : Heap} (H : s120 Ψ t id_ h) : ACalls prog 120 [t, (.int .i64 id_)] h Ψ :=
 calls_of_evF func120 (by kernel_rfl) (by kernel_rfl) (by kernel_rfl)
 (Eq.mpr (by as_aux_lemma => kernel_rfl : oblF prog f120 (s120_A Ψ) Ψ = (otP 5)) (otP_ok 5))
 (Eq.mpr (by as_aux_lemma => kernel_rfl : evF prog f120 (s120_A Ψ) Ψ [t, (.int .i64 id_)] h = s120 Ψ t id_ h) H)

/- 124 (*dictum/formula.Table).Below$1 -/
def s124 (Ψ : AVal → Heap → Prop) (id_ : Int) (c0 : AVal) (c1 : AVal) (c2 : AVal) (h : Heap) : Prop :=
 ld1 h c0 fun v =>
 mapGet (.int .i64 0) h v (.int .i64 id_) fun v1 b =>
 tInt .i64 v1 fun v2 =>
 ifT (decide (0 < v2)) (
 retG (.tuple []) h Ψ) (
 ld1 h c0 fun v3 =>
 mapPut h v3 (.int .i64 id_) (.int .i64 1) fun h_ =>
 ld1 h_ c1 fun v4 =>
 nilCheckA v4 fun p =>
 addOff p 0 fun p1 =>
 ld1 h_ p1 fun v5 =>
 ixS 4 v5 id_ fun p2 =>
 ldN 4 h_ p2 fun l_ =>
 tCons l_ fun v6 l_1 =>
 tInt .i64 v6 fun v7 =>
 tCons l_1 fun v8 l_2 =>
 tStr v8 fun v9 =>
 tCons l_2 fun v10 l_3 =>
 tInt .i64 v10 fun v11 =>
 tCons l_3 fun v12 l_4 =>
 tInt .i64 v12 fun v13 =>
 tNil l_4 (
 Sym.newRow 4 [(.agg [(.int .i64 0), (.str (ByteArray.mk #[])), (.int .i64 0), (.int .i64 0)])] h_ fun r h_1 =>
 st false h_1 (.ptr r 0 0) [(.int .i64 v7), (.str v9), (.int .i64 v11), (.int .i64 v13)] fun h_2 =>
 ld1 h_2 (.ptr r 0 0) fun v14 =>
 tInt .i64 v14 fun v15 =>
 ifT (decide (3 ≤ v15)) (
 ld1 h_2 c2 fun v16 =>
 ld1 h_2 (.ptr r 0 2) fun v17 =>
 tInt .i64 v17 fun v18 =>
 callV prog v16 [(.int .i64 v18)] h_2 fun v19 h_3 =>
 ld1 h_3 c2 fun v20 =>
 ld1 h_3 (.ptr r 0 3) fun v21 =>
 tInt .i64 v21 fun v22 =>
 callV prog v20 [(.int .i64 v22)] h_3 fun v23 h_4 =>
 retG (.tuple []) h_4 Ψ) (
 retG (.tuple []) h_2 Ψ)))

def s124_A (Ψ : AVal → Heap → Prop) : Ann :=
 .seq (.seq (rA 4)
 (.cond (.leaf)
 (.leaf)))
 (.seq (rA 3)
 (.seq (rA 9)
 (.seq (rA 3)
 (.cond (.seq (rA 4)
 (rA 4))
 (.leaf)))))

theorem s124_ok {Ψ : AVal → Heap → Prop} {id_ : Int} {c0 : AVal} {c1 : AVal} {c2 : AVal} {h : Heap} (H : s124 Ψ id_ c0 c1 c2 h) : ACalls prog 124 [(.int .i64 id_), c0, c1, c2] h Ψ :=
 calls_of_evF func124 (by kernel_rfl) (by kernel_rfl) (by kernel_rfl)
 (Eq.mpr (by as_aux_lemma => kernel_rfl : oblF prog f124 (s124_A Ψ) Ψ = (otP 13643)) (otP_ok 13643))
 (Eq.mpr (by as_aux_lemma => kernel_rfl : evF prog f124 (s124_A Ψ) Ψ [(.int .i64 id_), c0, c1, c2] h = s124 Ψ id_ c0 c1 c2 h) H)

/- 127 math/bits.Len -/
def s127 (Ψ : AVal → Heap → Prop) (x : Int) (h : Heap) : Prop :=
 callG prog 154 [(.int .u64 x)] h fun v h_ =>
 tInt .i64 v fun v1 =>
 retG (.int .i64 v1) h_ Ψ

def s127_A (Ψ : AVal → Heap → Prop) : Ann :=
 .seq (rA 1)
 (.seq (.cond (.seq (rA 4)
 (.leaf))
 (.leaf))
 (.seq (rA 3)
 (.leaf)))

theorem s127_ok {Ψ : AVal → Heap → Prop} {x : Int} {h : Heap} (H : s127 Ψ x h) : ACalls prog 127 [(.int .u64 x)] h Ψ :=
 calls_of_evF func127 (by kernel_rfl) (by kernel_rfl) (by kernel_rfl)
 (Eq.mpr (by as_aux_lemma => kernel_rfl : oblF prog f127 (s127_A Ψ) Ψ = (otP 285)) (otP_ok 285))
 (Eq.mpr (by as_aux_lemma => kernel_rfl : evF prog f127 (s127_A Ψ) Ψ [(.int .u64 x)] h = s127 Ψ x h) H)

/- 131 dictum/worlds.rising -/
abbrev s131l1_T := AVal → AVal → Int → Int → Heap → Prop
abbrev s131l1_K : List Kd := [.any, .any, .int .i64, .int .i64]
def s131l1_G (F : s131l1_T) : s131l1_T := GK s131l1_K F
def s131l1_E (F : Nat → s131l1_T) : s131l1_T := EK s131l1_K F
theorem s131l1_go {F : s131l1_T} {x0 x1 : AVal} {x2 x3 : Int} {h : Heap} (H : F x0 x1 x2 x3 h) : s131l1_G F x0 x1 x2 x3 h := gJ_plain rfl H
theorem s131l1_in {F : Nat → s131l1_T} {x0 x1 : AVal} {x2 x3 : Int} {h : Heap} (n : Nat) (H : F n x0 x1 x2 x3 h) : s131l1_E F x0 x1 x2 x3 h := gJ_plain rfl ⟨n, H⟩

abbrev s131c2_K : List Kd := [.any, .any, .int .i64, .int .i64, .bool]
def s131c2 (Ψ : AVal → Heap → Prop) (L1 : s131l1_T) (l_2 t5_1 : AVal) (t6_1 t7_1 : Int) (t27 : Bool) (h : Heap) : Prop :=
 ifT t27 (
 retG (.bool false) h Ψ) (
 rg (t7_1 + 1) (
 L1 l_2 t5_1 t6_1 (t7_1 + 1) h))

def s131l1 (Ψ : AVal → Heap → Prop) : Nat → s131l1_T
 | 0, _, _, _, _, _ => False
 | n1 + 1, l_1, t5, t6, t7, h =>
 ifT (decide (t7 < t6)) (
 ixS 1 t5 t7 fun p =>
 ld1 h p fun v =>
 tStr v fun v1 =>
 callG prog 128 [(.str v1)] h fun v2 h_ =>
 tBool v2 fun v3 =>
 ifT (!v3) (
 s131c2 Ψ (s131l1_G (s131l1 Ψ n1)) l_1 t5 t6 t7 true h_) (
 ifT (decide (0 < t7)) (
 rg (t7 - 1) (
 ixS 1 l_1 (t7 - 1) fun p1 =>
 ld1 h_ p1 fun v4 =>
 tStr v4 fun v5 =>
 s131c2 Ψ (s131l1_G (s131l1 Ψ n1)) l_1 t5 t6 t7 (!strLt v5 v1) h_)) (
 s131c2 Ψ (s131l1_G (s131l1 Ψ n1)) l_1 t5 t6 t7 false h_))) (
 retG (.bool true) h Ψ)

def s131 (Ψ : AVal → Heap → Prop) (l_ : AVal) (h : Heap) : Prop :=
 lenN l_ fun n =>
 s131l1_E (s131l1 Ψ) l_ l_ n 0 h

def s131_A (Ψ : AVal → Heap → Prop) : Ann :=
 .seq (rA 1)
 (.seq (.seq (rA 3)
 (.block (loopK [0, 5, 6, 7] s131l1_K (s131l1 Ψ) (fun L1 =>
 .seq (rA 1)
 (.seq (.cond (.leaf)
 (.leaf))
 (.seq (.block (.seq (rA 5)
 (cutK [0, 5, 6, 7, 27] s131c2_K (s131c2 Ψ (LK s131l1_K L1)) (.reg [⟨none, [(0, false), (1, false), (2, false), (3, false)]⟩, ⟨some (15, false), [(4, false), (5, false), (6, false)]⟩, ⟨some (18, true), [(7, false), (8, false), (9, false), (10, false), (11, false), (12, false), (13, false)]⟩, ⟨some (15, false), [(14, false)]⟩, ⟨none, [(15, false)]⟩])
 (.cond (.seq (rA 1)
 (.leaf))
 (.leaf)))))
 (rA 2)))))))
 (.seq (rA 1)
 (.leaf)))

theorem s131_ok {Ψ : AVal → Heap → Prop} {l_ : AVal} {h : Heap} (H : s131 Ψ l_ h) : ACalls prog 131 [l_] h Ψ :=
 calls_of_evF func131 (by kernel_rfl) (by kernel_rfl) (by kernel_rfl)
 (Eq.mpr (by as_aux_lemma => kernel_rfl : oblF prog f131 (s131_A Ψ) Ψ = ((True) ∧ (((True) ∧ ((NK s131l1_K (s131l1 Ψ 0)) ∧ (∀ n1 : Nat, (QK s131l1_K (s131l1 Ψ (n1 + 1))) ∧ ((True) ∧ ((otP 1) ∧ (((True) ∧ ((True) ∧ ((QK s131c2_K (s131c2 Ψ (s131l1_G (s131l1 Ψ n1)))) ∧ (otP 3)))) ∧ (True))))))) ∧ (otP 1)))) (⟨trivial, ⟨⟨trivial, ⟨fun _ _ _ _ _ H => H, fun _ => ⟨oI, ⟨trivial, ⟨otP_ok 1, ⟨⟨trivial, ⟨trivial, ⟨oI, otP_ok 3⟩⟩⟩, trivial⟩⟩⟩⟩⟩⟩, otP_ok 1⟩⟩))
 (Eq.mpr (by as_aux_lemma => kernel_rfl : evF prog f131 (s131_A Ψ) Ψ [l_] h = s131 Ψ l_ h) H)

/- 133 dictum/worlds.looked$1 -/
def s133 (Ψ : AVal → Heap → Prop) (s : ByteArray) (c0 : AVal) (c1 : AVal) (h : Heap) : Prop :=
 addOff c0 1 fun p =>
 ld1 h p fun v =>
 ld1 h c1 fun v1 =>
 tInt .i64 v1 fun v2 =>
 ixS 1 v v2 fun p1 =>
 ld1 h p1 fun v3 =>
 callG prog 74 [v3, (.str s)] h fun v4 h_ =>
 tBool v4 fun v5 =>
 retG (.bool (!v5)) h_ Ψ

def s133_A (Ψ : AVal → Heap → Prop) : Ann :=
 .seq (rA 1)
 (.seq (rA 9)
 (.leaf))

theorem s133_ok {Ψ : AVal → Heap → Prop} {s : ByteArray} {c0 : AVal} {c1 : AVal} {h : Heap} (H : s133 Ψ s c0 c1 h) : ACalls prog 133 [(.str s), c0, c1] h Ψ :=
 calls_of_evF func133 (by kernel_rfl) (by kernel_rfl) (by kernel_rfl)
 (Eq.mpr (by as_aux_lemma => kernel_rfl : oblF prog f133 (s133_A Ψ) Ψ = (otP 5)) (otP_ok 5))
 (Eq.mpr (by as_aux_lemma => kernel_rfl : evF prog f133 (s133_A Ψ) Ψ [(.str s), c0, c1] h = s133 Ψ s c0 c1 h) H)

/- 141 dictum/dictumref03.letter -/
def s141 (Ψ : AVal → Heap → Prop) (c : Int) (h : Heap) : Prop :=
 ifT (decide (97 ≤ c)) (
 ifT (decide (c ≤ 122)) (
 retG (.bool true) h Ψ) (
 ifT (decide (65 ≤ c)) (
 retG (.bool (decide (c ≤ 90))) h Ψ) (
 retG (.bool false) h Ψ))) (
 ifT (decide (65 ≤ c)) (
 retG (.bool (decide (c ≤ 90))) h Ψ) (
 retG (.bool false) h Ψ))

def s141_A (Ψ : AVal → Heap → Prop) : Ann :=
 .seq (rA 1)
 (.seq (.reg [⟨none, [(0, false), (1, false), (2, false)]⟩, ⟨some (5, true), [(3, false), (4, false)]⟩, ⟨none, [(5, false), (6, false)]⟩, ⟨some (9, false), [(7, false), (8, false), (9, false)]⟩, ⟨some (12, true), [(10, false), (11, false)]⟩, ⟨some (9, false), [(12, false)]⟩, ⟨none, [(13, false), (14, false)]⟩])
 (.leaf))

theorem s141_ok {Ψ : AVal → Heap → Prop} {c : Int} {h : Heap} (H : s141 Ψ c h) : ACalls prog 141 [(.int .u8 c)] h Ψ :=
 calls_of_evF func141 (by kernel_rfl) (by kernel_rfl) (by kernel_rfl)
 (Eq.mpr (by as_aux_lemma => kernel_rfl : oblF prog f141 (s141_A Ψ) Ψ = (otP 5)) (otP_ok 5))
 (Eq.mpr (by as_aux_lemma => kernel_rfl : evF prog f141 (s141_A Ψ) Ψ [(.int .u8 c)] h = s141 Ψ c h) H)

/- 144 slices.insertionSortOrdered[string] -/
abbrev s144l1_T := AVal → Int → Int → Int → Heap → Prop
abbrev s144l1_K : List Kd := [.any, .int .i64, .int .i64, .int .i64]
def s144l1_G (F : s144l1_T) : s144l1_T := GK s144l1_K F
def s144l1_E (F : Nat → s144l1_T) : s144l1_T := EK s144l1_K F
theorem s144l1_in {F : Nat → s144l1_T} {x0 : AVal} {x1 x2 x3 : Int} {h : Heap} (n : Nat) (H : F n x0 x1 x2 x3 h) : s144l1_E F x0 x1 x2 x3 h := gJ_plain rfl ⟨n, H⟩

abbrev s144l2_T := AVal → Int → Int → Int → Int → Heap → Prop
abbrev s144l2_K : List Kd := [.any, .int .i64, .int .i64, .int .i64, .int .i64]
def s144l2_G (F : s144l2_T) : s144l2_T := GK s144l2_K F
def s144l2_E (F : Nat → s144l2_T) : s144l2_T := EK s144l2_K F
abbrev s144c3_K : List Kd := [.any, .int .i64, .int .i64, .int .i64, .int .i64, .bool]
def s144c3 (Ψ : AVal → Heap → Prop) (L1 : s144l1_T) (L2 : s144l2_T) (data3 : AVal) (a3 b3 i2 j1 : Int) (t30 : Bool) (h : Heap) : Prop :=
 ifT t30 (
 rg (j1 - 1) (
 rg (j1 - 1) (
 ixS 1 data3 (j1 - 1) fun p =>
 ld1 h p fun v =>
 tStr v fun v1 =>
 ixS 1 data3 j1 fun p1 =>
 ld1 h p1 fun v2 =>
 tStr v2 fun v3 =>
 ixS 1 data3 j1 fun p2 =>
 st true h p2 [(.str v1)] fun h_ =>
 ixS 1 data3 (j1 - 1) fun p3 =>
 st true h_ p3 [(.str v3)] fun h_1 =>
 rg (j1 - 1) (
 L2 data3 a3 b3 i2 (j1 - 1) h_1)))) (
 rg (i2 + 1) (
 L1 data3 a3 b3 (i2 + 1) h))

def s144l2 (Ψ : AVal → Heap → Prop) (L1 : s144l1_T) : Nat → s144l2_T
 | 0, _, _, _, _, _, _ => False
 | n1 + 1, data2, a2, b2, i1, j, h =>
 ifT (decide (a2 < j)) (
 ixS 1 data2 j fun p4 =>
 ld1 h p4 fun v4 =>
 tStr v4 fun v5 =>
 rg (j - 1) (
 ixS 1 data2 (j - 1) fun p5 =>
 ld1 h p5 fun v6 =>
 tStr v6 fun v7 =>
 callG prog 150 [(.str v5), (.str v7)] h fun v8 h_2 =>
 tBool v8 fun v9 =>
 s144c3 Ψ L1 (s144l2_G (s144l2 Ψ L1 n1)) data2 a2 b2 i1 j v9 h_2)) (
 s144c3 Ψ L1 (s144l2_G (s144l2 Ψ L1 n1)) data2 a2 b2 i1 j false h)

def s144l1 (Ψ : AVal → Heap → Prop) : Nat → s144l1_T
 | 0, _, _, _, _, _ => False
 | n + 1, data1, a1, b1, i, h =>
 ifT (decide (i < b1)) (
 s144l2_E (s144l2 Ψ (s144l1_G (s144l1 Ψ n))) data1 a1 b1 i i h) (
 retG (.tuple []) h Ψ)

def s144 (Ψ : AVal → Heap → Prop) (data : AVal) (a : Int) (b : Int) (h : Heap) : Prop :=
 rg (a + 1) (
 s144l1_E (s144l1 Ψ) data a b (a + 1) h)

def s144_A (Ψ : AVal → Heap → Prop) : Ann :=
 .seq (rA 3)
 (.block (loopK [0, 1, 2, 6] s144l1_K (s144l1 Ψ) (fun L1 =>
 .seq (.seq (rA 3)
 (.cond (.leaf)
 (.leaf)))
 (.seq (.block (.seq (rA 2)
 (.block (loopK [0, 1, 2, 6, 7] s144l2_K (s144l2 Ψ (LK s144l1_K L1)) (fun L2 =>
 .seq (cutK [0, 1, 2, 6, 7, 30] s144c3_K (s144c3 Ψ (LK s144l1_K L1) (LK s144l2_K L2)) (.draw [(0, false), (1, false), (2, false), (3, false), (4, false), (5, false), (6, false), (7, false), (8, false), (9, false), (10, false), (11, false), (12, false), (13, false), (14, false)] [0, 0, 3, 7, 15, 15, 63, 127, 15, 15, 527, 1807, 3855, 8191, 16383])
 (.cond (.leaf)
 (.leaf)))
 (.seq (.block (.draw [(0, false), (1, false), (2, false), (3, false), (4, false), (5, false), (6, false), (7, false), (8, false), (9, false), (10, false), (11, false), (12, false), (13, false), (14, false), (15, false), (16, false), (17, false)] [0, 0, 0, 0, 8, 0, 0, 64, 224, 480, 0, 0, 3072, 7168, 16355, 32739, 65535, 131071]))
 (rA 3)))))))
 (rA 3)))))

theorem s144_ok {Ψ : AVal → Heap → Prop} {data : AVal} {a : Int} {b : Int} {h : Heap} (H : s144 Ψ data a b h) : ACalls prog 144 [data, (.int .i64 a), (.int .i64 b)] h Ψ :=
 calls_of_evF func144 (by kernel_rfl) (by kernel_rfl) (by kernel_rfl)
 (Eq.mpr (by as_aux_lemma => kernel_rfl : oblF prog f144 (s144_A Ψ) Ψ = ((True) ∧ ((NK s144l1_K (s144l1 Ψ 0)) ∧ (∀ n1 : Nat, (QK s144l1_K (s144l1 Ψ (n1 + 1))) ∧ ((otP 5) ∧ (((True) ∧ ((NK s144l2_K (s144l2 Ψ (s144l1_G (s144l1 Ψ n1)) 0)) ∧ (∀ n2 : Nat, (QK s144l2_K (s144l2 Ψ (s144l1_G (s144l1 Ψ n1)) (n2 + 1))) ∧ (((True) ∧ ((QK s144c3_K (s144c3 Ψ (s144l1_G (s144l1 Ψ n1)) (s144l2_G (s144l2 Ψ (s144l1_G (s144l1 Ψ n1)) n2)))) ∧ (otP 1))) ∧ (otP 1))))) ∧ (True))))))) (⟨trivial, ⟨fun _ _ _ _ _ H => H, fun _ => ⟨oI, ⟨otP_ok 5, ⟨⟨trivial, ⟨fun _ _ _ _ _ _ H => H, fun _ => ⟨oI, ⟨⟨trivial, ⟨oI, otP_ok 1⟩⟩, otP_ok 1⟩⟩⟩⟩, trivial⟩⟩⟩⟩⟩))
 (Eq.mpr (by as_aux_lemma => kernel_rfl : evF prog f144 (s144_A Ψ) Ψ [data, (.int .i64 a), (.int .i64 b)] h = s144 Ψ data a b h) H)

/- 155 dictum/formula.reserved -/
abbrev s155c1_K : List Kd := [.bool]
def s155c1 (Ψ : AVal → Heap → Prop) (t4 : Bool) (h : Heap) : Prop :=
 ifT t4 (
 retG (.bool true) h Ψ) (
 retG (.bool false) h Ψ)

def s155 (Ψ : AVal → Heap → Prop) (s : ByteArray) (h : Heap) : Prop :=
 ifT (strEq s (ByteArray.mk #[97, 98, 111, 114, 116])) (
 s155c1 Ψ (strEq s (ByteArray.mk #[97, 98, 111, 114, 116])) h) (
 ifT (strEq s (ByteArray.mk #[99, 97, 115, 101])) (
 s155c1 Ψ (strEq s (ByteArray.mk #[99, 97, 115, 101])) h) (
 ifT (strEq s (ByteArray.mk #[102, 97, 108, 115, 101])) (
 s155c1 Ψ (strEq s (ByteArray.mk #[102, 97, 108, 115, 101])) h) (
 ifT (strEq s (ByteArray.mk #[102, 115, 116])) (
 s155c1 Ψ (strEq s (ByteArray.mk #[102, 115, 116])) h) (
 ifT (strEq s (ByteArray.mk #[102, 117, 110])) (
 s155c1 Ψ (strEq s (ByteArray.mk #[102, 117, 110])) h) (
 ifT (strEq s (ByteArray.mk #[105, 110])) (
 s155c1 Ψ (strEq s (ByteArray.mk #[105, 110])) h) (
 ifT (strEq s (ByteArray.mk #[105, 110, 108])) (
 s155c1 Ψ (strEq s (ByteArray.mk #[105, 110, 108])) h) (
 ifT (strEq s (ByteArray.mk #[105, 110, 114])) (
 s155c1 Ψ (strEq s (ByteArray.mk #[105, 110, 114])) h) (
 ifT (strEq s (ByteArray.mk #[108, 101, 116])) (
 s155c1 Ψ (strEq s (ByteArray.mk #[108, 101, 116])) h) (
 ifT (strEq s (ByteArray.mk #[111, 102])) (
 s155c1 Ψ (strEq s (ByteArray.mk #[111, 102])) h) (
 ifT (strEq s (ByteArray.mk #[115, 110, 100])) (
 s155c1 Ψ (strEq s (ByteArray.mk #[115, 110, 100])) h) (
 s155c1 Ψ (strEq s (ByteArray.mk #[116, 114, 117, 101])) h)))))))))))

def s155_A (Ψ : AVal → Heap → Prop) : Ann :=
 .seq (rA 1)
 (.seq (.seq (rA 1)
 (.block (cutK [4] s155c1_K (s155c1 Ψ) (.seq (rA 2)
 (.cond (.leaf)
 (.seq (rA 2)
 (.cond (.leaf)
 (.seq (rA 2)
 (.cond (.leaf)
 (.seq (rA 2)
 (.cond (.leaf)
 (.seq (rA 2)
 (.cond (.leaf)
 (.seq (rA 2)
 (.cond (.leaf)
 (.seq (rA 2)
 (.cond (.leaf)
 (.seq (rA 2)
 (.cond (.leaf)
 (.seq (rA 2)
 (.cond (.leaf)
 (.seq (rA 2)
 (.cond (.leaf)
 (.seq (rA 2)
 (.cond (.leaf)
 (rA 2)))))))))))))))))))))))
 (.cond (.seq (rA 1)
 (.leaf))
 (.leaf)))))
 (.seq (rA 1)
 (.leaf)))

theorem s155_ok {Ψ : AVal → Heap → Prop} {s : ByteArray} {h : Heap} (H : s155 Ψ s h) : ACalls prog 155 [(.str s)] h Ψ :=
 calls_of_evF func155 (by kernel_rfl) (by kernel_rfl) (by kernel_rfl)
 (Eq.mpr (by as_aux_lemma => kernel_rfl : oblF prog f155 (s155_A Ψ) Ψ = ((True) ∧ (((True) ∧ ((otP 5864062014805) ∧ ((QK s155c1_K (s155c1 Ψ)) ∧ (otP 3)))) ∧ (otP 1)))) (⟨trivial, ⟨⟨trivial, ⟨otP_ok 5864062014805, ⟨oI, otP_ok 3⟩⟩⟩, otP_ok 1⟩⟩))
 (Eq.mpr (by as_aux_lemma => kernel_rfl : evF prog f155 (s155_A Ψ) Ψ [(.str s)] h = s155 Ψ s h) H)

/- 157 slices.IndexFunc[[]string,string] -/
abbrev s157l1_T := AVal → AVal → Int → Int → Heap → Prop
abbrev s157l1_K : List Kd := [.any, .any, .int .i64, .int .i64]
def s157l1_G (F : s157l1_T) : s157l1_T := GK s157l1_K F
def s157l1_E (F : Nat → s157l1_T) : s157l1_T := EK s157l1_K F
theorem s157l1_go {F : s157l1_T} {x0 x1 : AVal} {x2 x3 : Int} {h : Heap} (H : F x0 x1 x2 x3 h) : s157l1_G F x0 x1 x2 x3 h := gJ_plain rfl H
theorem s157l1_in {F : Nat → s157l1_T} {x0 x1 : AVal} {x2 x3 : Int} {h : Heap} (n : Nat) (H : F n x0 x1 x2 x3 h) : s157l1_E F x0 x1 x2 x3 h := gJ_plain rfl ⟨n, H⟩

def s157l1 (Ψ : AVal → Heap → Prop) : Nat → s157l1_T
 | 0, _, _, _, _, _ => False
 | n1 + 1, s1, f1, t7, t8, h =>
 ifT (decide (t8 < t7)) (
 ixS 1 s1 t8 fun p =>
 ld1 h p fun v =>
 tStr v fun v1 =>
 callV prog f1 [(.str v1)] h fun v2 h_ =>
 tBool v2 fun v3 =>
 ifT v3 (
 retG (.int .i64 t8) h_ Ψ) (
 rg (t8 + 1) (
 s157l1_G (s157l1 Ψ n1) s1 f1 t7 (t8 + 1) h_))) (
 retG (.int .i64 (-1)) h Ψ)

def s157 (Ψ : AVal → Heap → Prop) (s : AVal) (f : AVal) (h : Heap) : Prop :=
 lenN s fun n =>
 s157l1_E (s157l1 Ψ) s f n 0 h

def s157_A (Ψ : AVal → Heap → Prop) : Ann :=
 .seq (rA 1)
 (.seq (.seq (rA 3)
 (.block (loopK [0, 1, 7, 8] s157l1_K (s157l1 Ψ) (fun L1 =>
 .seq (rA 1)
 (.seq (.cond (.leaf)
 (.leaf))
 (.seq (.block (.seq (rA 2)
 (.seq (rA 6)
 (.cond (.seq (rA 2)
 (.leaf))
 (.leaf)))))
 (rA 2)))))))
 (.seq (rA 1)
 (.leaf)))

theorem s157_ok {Ψ : AVal → Heap → Prop} {s : AVal} {f : AVal} {h : Heap} (H : s157 Ψ s f h) : ACalls prog 157 [s, f] h Ψ :=
 calls_of_evF func157 (by kernel_rfl) (by kernel_rfl) (by kernel_rfl)
 (Eq.mpr (by as_aux_lemma => kernel_rfl : oblF prog f157 (s157_A Ψ) Ψ = ((True) ∧ (((True) ∧ ((NK s157l1_K (s157l1 Ψ 0)) ∧ (∀ n1 : Nat, (QK s157l1_K (s157l1 Ψ (n1 + 1))) ∧ (otP 6861)))) ∧ (otP 1)))) (⟨trivial, ⟨⟨trivial, ⟨fun _ _ _ _ _ H => H, fun _ => ⟨oI, otP_ok 6861⟩⟩⟩, otP_ok 1⟩⟩))
 (Eq.mpr (by as_aux_lemma => kernel_rfl : evF prog f157 (s157_A Ψ) Ψ [s, f] h = s157 Ψ s f h) H)

end Go.Proofs.YtaopdcjjcpgebaaGreatDoor

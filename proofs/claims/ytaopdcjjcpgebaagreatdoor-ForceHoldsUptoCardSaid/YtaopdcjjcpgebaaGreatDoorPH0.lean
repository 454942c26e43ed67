/- The functions that the proof meets, each as a text that Lean has checked against the program. No condition. -/
import Derived.Test.YtaopdcjjcpgebaaGreatDoorM3
import Derived.Test.YtaopdcjjcpgebaaGreatDoorChecked
import Derived.Test.YtaopdcjjcpgebaaGreatDoorM5
namespace Go.Proofs.YtaopdcjjcpgebaaGreatDoor
open Go Go.Sym Go.Proofs.Tryz
set_option maxRecDepth 100000
set_option linter.unusedVariables false

/- 3 dictum/dictumlaw18.ForceHolds -/
def s3 (Ψ : AVal → Heap → Prop) (rows : AVal) (m_Up : AVal) (m_Val : AVal) (s : AVal) (h : Heap) : Prop :=
 aggN 17 s fun cs =>
 callG prog 12 [rows] h fun v h_ =>
 tTup v fun l_ =>
 tCons l_ fun v1 l_1 =>
 tCons l_1 fun v2 l_2 =>
 tNil l_2 (
 ldN 17 h_ (.lptr cs) fun l_3 =>
 callG prog 14 [(.agg [m_Up, m_Val])] h_ fun v3 h_1 =>
 tAgg v3 fun l_4 =>
 tCons l_4 fun v4 l_5 =>
 tCons l_5 fun v5 l_6 =>
 tNil l_6 (
 (ldN 17 h_1 (.lptr cs) fun l_7 =>
 (AVal.agg l_7) = (.agg l_3)) ∧
 callG prog 13 [v1, (.agg [v4, v5]), (.agg l_3)] h_1 fun v6 h_2 =>
 tTup v6 fun l_8 =>
 tCons l_8 fun v7 l_9 =>
 tBool v7 fun v8 =>
 tCons l_9 fun v9 l_10 =>
 tInt .i64 v9 fun v10 =>
 tNil l_10 (
 ldN 17 h_2 (.lptr cs) fun l_11 =>
 callG prog 15 [v2, (.agg [m_Up, m_Val]), (.agg l_11)] h_2 fun v11 h_3 =>
 tTup v11 fun l_12 =>
 tCons l_12 fun v12 l_13 =>
 tBool v12 fun v13 =>
 tCons l_13 fun v14 l_14 =>
 tInt .i64 v14 fun v15 =>
 tNil l_14 (
 eqQ prog 4 (.bool v8) (.bool v13) fun b =>
 ifT b (
 callG prog 16 [(.int .i64 v10)] h_3 fun v16 h_4 =>
 tInt .i64 v16 fun v17 =>
 ifT (v17 == v15) (
 callG prog 17 [] h_4 fun v18 h_5 =>
 tBool v18 fun v19 =>
 retG (.bool v19) h_5 Ψ) (
 retG (.bool false) h_4 Ψ)) (
 retG (.bool false) h_3 Ψ)))))

def s3_A (Ψ : AVal → Heap → Prop) : Ann :=
 .seq (.reg [⟨none, [(0, true), (1, true), (2, false)]⟩])
 (.seq (rA 7)
 (.seq (.draw [(0, false), (1, false), (3, false), (2, false), (4, false), (5, false), (6, false), (7, false), (8, false), (9, false)] [0, 0, 2, 0, 15, 31, 63, 63, 127, 511])
 (.seq (rA 9)
 (.seq (.reg [⟨none, [(0, false), (1, false), (2, false), (3, false)]⟩, ⟨some (36, true), [(4, false), (5, false), (6, false), (7, false)]⟩, ⟨none, [(8, false), (9, false)]⟩, ⟨some (42, true), [(10, false)]⟩, ⟨none, [(11, false), (12, false)]⟩])
 (.leaf)))))

theorem s3_ok {Ψ : AVal → Heap → Prop} {rows : AVal} {m_Up : AVal} {m_Val : AVal} {s : AVal} {h : Heap} (H : s3 Ψ rows m_Up m_Val s h) : ACalls prog 3 [rows, (.agg [m_Up, m_Val]), s] h Ψ :=
 calls_of_evF func3 (by kernel_rfl) (by kernel_rfl) (by kernel_rfl)
 (Eq.mpr (by as_aux_lemma => kernel_rfl : oblF prog f3 (s3_A Ψ) Ψ = (otP 341)) (otP_ok 341))
 (Eq.mpr (by as_aux_lemma => kernel_rfl : evF prog f3 (s3_A Ψ) Ψ [rows, (.agg [m_Up, m_Val]), s] h = s3 Ψ rows m_Up m_Val s h) H)

/- 12 dictum/dictumlaw04.Tables -/
def s12 (Ψ : AVal → Heap → Prop) (rows : AVal) (h : Heap) : Prop :=
 callG prog 43 [rows] h fun v h_ =>
 tTup v fun l_ =>
 tCons l_ fun v1 l_1 =>
 tCons l_1 fun v2 l_2 =>
 tCons l_2 fun v3 l_3 =>
 tBool v3 fun v4 =>
 tNil l_3 (
 ifT (!v4) (
 callG prog 44 [] h_ fun v5 h_1 =>
 Sym.newRow 1 [(.agg [.nilsl])] h_1 fun r h_2 =>
 retG (.tuple [v5, (.ptr r 0 0)]) h_2 Ψ) (
 retG (.tuple [v1, v2]) h_ Ψ))

def s12_A (Ψ : AVal → Heap → Prop) : Ann :=
 .seq (rA 2)
 (.seq (rA 9)
 (.seq (.seq (rA 2)
 (.cond (.seq (rA 5)
 (.leaf))
 (.leaf)))
 (.seq (rA 4)
 (.leaf))))

theorem s12_ok {Ψ : AVal → Heap → Prop} {rows : AVal} {h : Heap} (H : s12 Ψ rows h) : ACalls prog 12 [rows] h Ψ :=
 calls_of_evF func12 (by kernel_rfl) (by kernel_rfl) (by kernel_rfl)
 (Eq.mpr (by as_aux_lemma => kernel_rfl : oblF prog f12 (s12_A Ψ) Ψ = (otP 4533)) (otP_ok 4533))
 (Eq.mpr (by as_aux_lemma => kernel_rfl : evF prog f12 (s12_A Ψ) Ψ [rows] h = s12 Ψ rows h) H)

/- 14 dictum/dictumref17.Copy -/
abbrev s14l1_T := AVal → AVal → AVal → Int → Heap → Prop
abbrev s14l1_K : List Kd := [.any, .any, .any, .int .i64]
def s14l1_G (F : s14l1_T) : s14l1_T := GK s14l1_K F
def s14l1_E (F : Nat → s14l1_T) : s14l1_T := EK s14l1_K F
theorem s14l1_in {F : Nat → s14l1_T} {x0 x1 x2 : AVal} {x3 : Int} {h : Heap} (n : Nat) (H : F n x0 x1 x2 x3 h) : s14l1_E F x0 x1 x2 x3 h := gJ_plain rfl ⟨n, H⟩

abbrev s14l2_T := AVal → AVal → AVal → Int → Heap → Prop
abbrev s14l2_K : List Kd := [.any, .any, .any, .int .i64]
def s14l2_G (F : s14l2_T) : s14l2_T := GK s14l2_K F
def s14l2_E (F : Nat → s14l2_T) : s14l2_T := EK s14l2_K F
theorem s14l2_in {F : Nat → s14l2_T} {x0 x1 x2 : AVal} {x3 : Int} {h : Heap} (n : Nat) (H : F n x0 x1 x2 x3 h) : s14l2_E F x0 x1 x2 x3 h := gJ_plain rfl ⟨n, H⟩

def s14l2 (Ψ : AVal → Heap → Prop) : Nat → s14l2_T
 | 0, _, _, _, _, _ => False
 | n2 + 1, m1, t2_1, out1, i1, h =>
 addOff m1 1 fun p5 =>
 ld1 h p5 fun v11 =>
 lenN v11 fun n3 =>
 ifT (decide (i1 < n3)) (
 addOff out1 1 fun p6 =>
 ld1 h p6 fun v12 =>
 addOff m1 1 fun p7 =>
 ld1 h p7 fun v13 =>
 ixS 1 v13 i1 fun p8 =>
 ld1 h p8 fun v14 =>
 Sym.newRow 1 [] h fun r3 h_7 =>
 (ld1 h_7 p8 fun v15 =>
 v15 = v14) ∧
 (ld1 h_7 p7 fun v16 =>
 v16 = v13) ∧
 (ld1 h_7 p6 fun v17 =>
 v17 = v12) ∧
 appC 1 16 h_7 (.sl r3 1 0 0) v14 fun v18 h_8 =>
 (ld1 h_8 p6 fun v19 =>
 v19 = v12) ∧
 chk (sc v18) (
 (ld1 h_8 p6 fun v20 =>
 v20 = v12) ∧
 appC 1 24 h_8 v12 (.lsl 1 [v18]) fun v21 h_9 =>
 addOff out1 1 fun p9 =>
 chk (sc v21) (
 st true h_9 p9 [v21] fun h_10 =>
 rg (i1 + 1) (
 s14l2_G (s14l2 Ψ n2) m1 t2_1 out1 (i1 + 1) h_10)))) (
 ldN 2 h out1 fun l_ =>
 tCons l_ fun v22 l_1 =>
 tCons l_1 fun v23 l_2 =>
 tNil l_2 (
 st false h t2_1 [v22, v23] fun h_11 =>
 ldN 2 h_11 t2_1 fun l_3 =>
 tCons l_3 fun v24 l_4 =>
 tCons l_4 fun v25 l_5 =>
 tNil l_5 (
 retG (.agg [v24, v25]) h_11 Ψ)))

def s14l1 (Ψ : AVal → Heap → Prop) : Nat → s14l1_T
 | 0, _, _, _, _, _ => False
 | n + 1, m, t2, out, i, h =>
 addOff m 0 fun p =>
 ld1 h p fun v =>
 lenN v fun n1 =>
 ifT (decide (i < n1)) (
 addOff out 0 fun p1 =>
 ld1 h p1 fun v1 =>
 addOff m 0 fun p2 =>
 ld1 h p2 fun v2 =>
 ixS 1 v2 i fun p3 =>
 ld1 h p3 fun v3 =>
 Sym.newRow 1 [] h fun r2 h_3 =>
 (ld1 h_3 p3 fun v4 =>
 v4 = v3) ∧
 (ld1 h_3 p2 fun v5 =>
 v5 = v2) ∧
 (ld1 h_3 p1 fun v6 =>
 v6 = v1) ∧
 appC 1 8 h_3 (.sl r2 1 0 0) v3 fun v7 h_4 =>
 (ld1 h_4 p1 fun v8 =>
 v8 = v1) ∧
 chk (sc v7) (
 (ld1 h_4 p1 fun v9 =>
 v9 = v1) ∧
 appC 1 24 h_4 v1 (.lsl 1 [v7]) fun v10 h_5 =>
 addOff out 0 fun p4 =>
 chk (sc v10) (
 st true h_5 p4 [v10] fun h_6 =>
 rg (i + 1) (
 s14l1_G (s14l1 Ψ n) m t2 out (i + 1) h_6)))) (
 s14l2_E (s14l2 Ψ) m t2 out 0 h)

def s14 (Ψ : AVal → Heap → Prop) (m_Up : AVal) (m_Val : AVal) (h : Heap) : Prop :=
 Sym.newRow 2 [(.agg [.nilsl, .nilsl])] h fun r h_ =>
 Sym.newRow 2 [(.agg [.nilsl, .nilsl])] h_ fun r1 h_1 =>
 st false h_1 (.ptr r1 0 0) [.nilsl, .nilsl] fun h_2 =>
 s14l1_E (s14l1 Ψ) (.lptr [m_Up, m_Val]) (.ptr r 0 0) (.ptr r1 0 0) 0 h_2

def s14_A (Ψ : AVal → Heap → Prop) : Ann :=
 .seq (.reg [⟨none, [(0, true), (1, false)]⟩])
 (.seq (rA 3)
 (.seq (.seq (rA 1)
 (.block (loopK [1, 2, 3, 4] s14l1_K (s14l1 Ψ) (fun L1 =>
 .seq (.seq (rA 5)
 (.cond (.leaf)
 (.leaf)))
 (.seq (.block (.draw [(0, false), (1, false), (3, false), (4, false), (5, false), (6, false), (7, false), (2, false), (8, false), (9, true), (10, false), (11, false), (12, false)] [0, 1, 0, 0, 8, 0, 56, 120, 252, 508, 1023, 2047, 4095]))
 (rA 3))))))
 (.seq (.seq (rA 1)
 (.block (loopK [1, 2, 3, 5] s14l2_K (s14l2 Ψ) (fun L2 =>
 .seq (.seq (rA 5)
 (.cond (.leaf)
 (.leaf)))
 (.seq (.block (.draw [(0, false), (1, false), (3, false), (4, false), (5, false), (6, false), (7, false), (2, false), (8, false), (9, true), (10, false), (11, false), (12, false)] [0, 1, 0, 0, 8, 0, 56, 120, 252, 508, 1023, 2047, 4095]))
 (rA 3))))))
 (.seq (rA 2)
 (.leaf)))))

theorem s14_ok {Ψ : AVal → Heap → Prop} {m_Up : AVal} {m_Val : AVal} {h : Heap} (H : s14 Ψ m_Up m_Val h) : ACalls prog 14 [(.agg [m_Up, m_Val])] h Ψ :=
 calls_of_evF func14 (by kernel_rfl) (by kernel_rfl) (by kernel_rfl)
 (Eq.mpr (by as_aux_lemma => kernel_rfl : oblF prog f14 (s14_A Ψ) Ψ = ((True) ∧ ((True) ∧ (((True) ∧ ((NK s14l1_K (s14l1 Ψ 0)) ∧ (∀ n1 : Nat, (QK s14l1_K (s14l1 Ψ (n1 + 1))) ∧ (otP 75)))) ∧ (((True) ∧ ((NK s14l2_K (s14l2 Ψ 0)) ∧ (∀ n2 : Nat, (QK s14l2_K (s14l2 Ψ (n2 + 1))) ∧ (otP 75)))) ∧ (otP 1)))))) (⟨trivial, ⟨trivial, ⟨⟨trivial, ⟨fun _ _ _ _ _ H => H, fun _ => ⟨oI, otP_ok 75⟩⟩⟩, ⟨⟨trivial, ⟨fun _ _ _ _ _ H => H, fun _ => ⟨oI, otP_ok 75⟩⟩⟩, otP_ok 1⟩⟩⟩⟩))
 (Eq.mpr (by as_aux_lemma => kernel_rfl : evF prog f14 (s14_A Ψ) Ψ [(.agg [m_Up, m_Val])] h = s14 Ψ m_Up m_Val h) H)

/- 16 dictum/dictumlaw18.num -/
def s16 (Ψ : AVal → Heap → Prop) (e : Int) (h : Heap) : Prop :=
 retG (.int .i64 e) h Ψ

def s16_A (Ψ : AVal → Heap → Prop) : Ann :=
 .seq (rA 1)
 (.seq (rA 2)
 (.leaf))

theorem s16_ok {Ψ : AVal → Heap → Prop} {e : Int} {h : Heap} (H : s16 Ψ e h) : ACalls prog 16 [(.int .i64 e)] h Ψ :=
 calls_of_evF func16 (by kernel_rfl) (by kernel_rfl) (by kernel_rfl)
 (Eq.mpr (by as_aux_lemma => kernel_rfl : oblF prog f16 (s16_A Ψ) Ψ = (otP 5)) (otP_ok 5))
 (Eq.mpr (by as_aux_lemma => kernel_rfl : evF prog f16 (s16_A Ψ) Ψ [(.int .i64 e)] h = s16 Ψ e h) H)

/- 19 dictum/force.Frame -/
def s19b2 (t2 m1 id_2 t7_1 atoms1 sets t51 : AVal) (t52 : Int) (h : Heap) (mid : Heap → (Heap → Prop) → Prop) (R : AExit → Heap → Prop) : Prop :=
 mid h fun h =>
 ld1 h sets fun v16 =>
 appC 1 8 h v16 (.lsl 1 [(.int .u64 t52)]) fun v17 h_10 =>
 chk (sc v17) (
 st true h_10 sets [v17] fun h_11 =>
 R .normal h_11)

def s19b2_B (x0 x1 x2 x3 x4 x5 x6 : AVal) (l : List AVal) (h : Heap) (mid : Heap → (Heap → Prop) → Prop) (R : AExit → Heap → Prop) : Prop := J.ci .u64 l fun y0 l => J.nil l (s19b2 x0 x1 x2 x3 x4 x5 x6 y0 h mid R)

abbrev s19c1_K : List Kd := [.any, .any, .any, .any, .any, .any, .bool]
def s19c1 (Ψ : AVal → Heap → Prop) (t1 m id_1 t7 y atoms : AVal) (t45 : Bool) (h : Heap) : Prop :=
 ifT t45 (
 st false h t7 [.nilsl, .nilsl] fun h_7 =>
 ldN 2 h_7 t7 fun l_12 =>
 tCons l_12 fun v12 l_13 =>
 tCons l_13 fun v13 l_14 =>
 tNil l_14 (
 retG (.tuple [(.bool false), (.agg [v12, v13]), (.int .i64 2)]) h_7 Ψ)) (
 Sym.newRow 1 [.nilsl] h fun r2 h_8 =>
 nilCheckA y fun p =>
 addOff p 3 fun p1 =>
 ld1 h_8 p1 fun v14 =>
 callG prog 60 [v14] h_8 fun v15 h_9 =>
 rngG prog v15 [.int .u64] h_9 (s19b2_B t1 m id_1 t7 atoms (.ptr r2 0 0) v15) (fun h =>
 ld1 h atoms fun v18 =>
 lenN v18 fun n =>
 mkS false 1 8 (.int .u64 0) h n n fun v19 h_12 =>
 Sym.newRow 1 [.nilsl] h_12 fun r3 h_13 =>
 chk (sc v19) (
 st true h_13 (.ptr r3 0 0) [v19] fun h_14 =>
 Sym.newRow 2 [(.agg [.nilsl, .nilsl])] h_14 fun r4 h_15 =>
 st false h_15 (.ptr r4 0 0) [.nilsl, .nilsl] fun h_16 =>
 Sym.newRow 1 [.nilfunc] h_16 fun r5 h_17 =>
 st true h_17 (.ptr r5 0 0) [(.func (.func 61) [] [atoms, (.ptr r2 0 0), (.ptr r3 0 0), (.ptr r5 0 0), m, (.ptr r4 0 0), t1, id_1])] fun h_18 =>
 ld1 h_18 (.ptr r5 0 0) fun v20 =>
 callV prog v20 [(.int .i64 0)] h_18 fun v21 h_19 =>
 tBool v21 fun v22 =>
 ifT v22 (
 ldN 2 h_19 (.ptr r4 0 0) fun l_15 =>
 tCons l_15 fun v23 l_16 =>
 tCons l_16 fun v24 l_17 =>
 tNil l_17 (
 st false h_19 t7 [v23, v24] fun h_20 =>
 ldN 2 h_20 t7 fun l_18 =>
 tCons l_18 fun v25 l_19 =>
 tCons l_19 fun v26 l_20 =>
 tNil l_20 (
 retG (.tuple [(.bool false), (.agg [v25, v26]), (.int .i64 0)]) h_20 Ψ))) (
 st false h_19 t7 [.nilsl, .nilsl] fun h_21 =>
 ldN 2 h_21 t7 fun l_21 =>
 tCons l_21 fun v27 l_22 =>
 tCons l_22 fun v28 l_23 =>
 tNil l_23 (
 retG (.tuple [(.bool true), (.agg [v27, v28]), (.int .i64 0)]) h_21 Ψ)))) [])

def s19 (Ψ : AVal → Heap → Prop) (t : AVal) (m_Up : AVal) (m_Val : AVal) (id_ : Int) (h : Heap) : Prop :=
 chk (sc t) (
 Sym.newRow 2 [(.agg [.nilsl, .nilsl])] h fun r h_ =>
 callG prog 45 [t, (.agg [m_Up, m_Val])] h_ fun v h_1 =>
 tTup v fun l_ =>
 tCons l_ fun v1 l_1 =>
 tCons l_1 fun v2 l_2 =>
 tInt .i64 v2 fun v3 =>
 tNil l_2 (
 ifT (v3 != 0) (
 st false h_1 (.ptr r 0 0) [.nilsl, .nilsl] fun h_2 =>
 ldN 2 h_2 (.ptr r 0 0) fun l_3 =>
 tCons l_3 fun v4 l_4 =>
 tCons l_4 fun v5 l_5 =>
 tNil l_5 (
 retG (.tuple [(.bool false), (.agg [v4, v5]), (.int .i64 v3)]) h_2 Ψ)) (
 callG prog 59 [t, (.int .i64 id_)] h_1 fun v6 h_3 =>
 tTup v6 fun l_6 =>
 tCons l_6 fun v7 l_7 =>
 tCons l_7 fun v8 l_8 =>
 tInt .i64 v8 fun v9 =>
 tNil l_8 (
 Sym.newRow 1 [.nilsl] h_3 fun r1 h_4 =>
 chk (sc v7) (
 st true h_4 (.ptr r1 0 0) [v7] fun h_5 =>
 ifT (v9 != 0) (
 st false h_5 (.ptr r 0 0) [.nilsl, .nilsl] fun h_6 =>
 ldN 2 h_6 (.ptr r 0 0) fun l_9 =>
 tCons l_9 fun v10 l_10 =>
 tCons l_10 fun v11 l_11 =>
 tNil l_11 (
 retG (.tuple [(.bool false), (.agg [v10, v11]), (.int .i64 v9)]) h_6 Ψ)) (
 lenN m_Up fun n1 =>
 ifT (decide (5 < n1)) (
 s19c1 Ψ (.lptr [t]) (.lptr [m_Up, m_Val]) (.lptr [(.int .i64 id_)]) (.ptr r 0 0) v1 (.ptr r1 0 0) true h_5) (
 ld1 h_5 (.ptr r1 0 0) fun v29 =>
 lenN v29 fun n2 =>
 s19c1 Ψ (.lptr [t]) (.lptr [m_Up, m_Val]) (.lptr [(.int .i64 id_)]) (.ptr r 0 0) v1 (.ptr r1 0 0) (decide (3 < n2)) h_5)))))))

def s19_A (Ψ : AVal → Heap → Prop) : Ann :=
 .seq (.reg [⟨none, [(0, true), (1, true), (2, true), (3, false), (4, false), (5, false)]⟩])
 (.seq (rA 8)
 (.seq (.seq (rA 2)
 (.cond (.seq (rA 5)
 (.leaf))
 (.leaf)))
 (.seq (rA 9)
 (.seq (.seq (rA 2)
 (.cond (.seq (rA 5)
 (.leaf))
 (.leaf)))
 (.seq (cutK [3, 4, 5, 7, 9, 11, 45] s19c1_K (s19c1 Ψ) (.reg [⟨none, [(0, false), (1, false), (2, false), (3, false), (4, false)]⟩, ⟨some (41, false), [(5, false), (6, false), (7, false)]⟩, ⟨none, [(8, false)]⟩])
 (.cond (.seq (rA 4)
 (.leaf))
 (.leaf)))
 (.seq (rA 1)
 (.seq (.seq (rA 5)
 (.block (.rng [(3, .any), (4, .any), (5, .any), (7, .any), (11, .any), (12, .any), (51, .any)] [(52, .int .u64)] [] (fun l a h mid R => J.cons l fun x0 l => J.cons l fun x1 l => J.cons l fun x2 l => J.cons l fun x3 l => J.cons l fun x4 l => J.cons l fun x5 l => J.cons l fun x6 l => J.nil l (s19b2_B x0 x1 x2 x3 x4 x5 x6 a h mid R)) (rA 1) (fun R =>
 .block (.reg [⟨none, [(0, false), (1, false), (2, true), (3, false), (4, false)]⟩])))))
 (.seq (rA 5)
 (.seq (rA 3)
 (.seq (rA 1)
 (.seq (rA 2)
 (.seq (.seq (rA 2)
 (.cond (.seq (.draw [(0, false), (1, false), (2, false), (3, false)] [0, 0, 3, 7])
 (.leaf))
 (.leaf)))
 (.seq (rA 4)
 (.leaf))))))))))))))

theorem s19_ok {Ψ : AVal → Heap → Prop} {t : AVal} {m_Up : AVal} {m_Val : AVal} {id_ : Int} {h : Heap} (H : s19 Ψ t m_Up m_Val id_ h) : ACalls prog 19 [t, (.agg [m_Up, m_Val]), (.int .i64 id_)] h Ψ :=
 calls_of_evF func19 (by kernel_rfl) (by kernel_rfl) (by kernel_rfl)
 (Eq.mpr (by as_aux_lemma => kernel_rfl : oblF prog f19 (s19_A Ψ) Ψ = ((True) ∧ ((True) ∧ ((otP 13) ∧ ((True) ∧ ((otP 13) ∧ (((True) ∧ ((QK s19c1_K (s19c1 Ψ)) ∧ (otP 3))) ∧ ((True) ∧ (((True) ∧ (∀ (mid : Heap → (Heap → Prop) → Prop) (R : AExit → Heap → Prop), (∀ (h : Heap) (y0 : Int) (x0 : AVal) (x1 : AVal) (x2 : AVal) (x3 : AVal) (x4 : AVal) (x5 : AVal) (x6 : AVal), OI (s19b2 x0 x1 x2 x3 x4 x5 x6 y0 h mid R)) ∧ (otP 1))) ∧ (otP 72533)))))))))) (⟨trivial, ⟨trivial, ⟨otP_ok 13, ⟨trivial, ⟨otP_ok 13, ⟨⟨trivial, ⟨oI, otP_ok 3⟩⟩, ⟨trivial, ⟨⟨trivial, fun _ _ => ⟨fun _ _ _ _ _ _ _ _ _ H => H, otP_ok 1⟩⟩, otP_ok 72533⟩⟩⟩⟩⟩⟩⟩⟩))
 (Eq.mpr (by as_aux_lemma => kernel_rfl : evF prog f19 (s19_A Ψ) Ψ [t, (.agg [m_Up, m_Val]), (.int .i64 id_)] h = s19 Ψ t m_Up m_Val id_ h) H)

/- 22 dictum/force.Valid -/
def s22 (Ψ : AVal → Heap → Prop) (t : AVal) (m_Up : AVal) (m_Val : AVal) (id_ : Int) (h : Heap) : Prop :=
 callG prog 31 [t, (.agg [m_Up, m_Val]), (.int .i64 id_)] h fun v h_ =>
 tTup v fun l_ =>
 tCons l_ fun v1 l_1 =>
 tCons l_1 fun v2 l_2 =>
 tInt .i64 v2 fun v3 =>
 tNil l_2 (
 ifT (v3 == 0) (
 lenN v1 fun n =>
 lenN m_Up fun n1 =>
 retG (.tuple [(.bool (n == n1)), (.int .i64 v3)]) h_ Ψ) (
 retG (.tuple [(.bool false), (.int .i64 v3)]) h_ Ψ))

def s22_A (Ψ : AVal → Heap → Prop) : Ann :=
 .seq (.reg [⟨none, [(0, true), (1, false), (2, false)]⟩])
 (.seq (rA 9)
 (.seq (.reg [⟨none, [(0, false), (1, false), (2, false)]⟩, ⟨some (19, true), [(3, false), (4, false), (5, false), (6, false), (7, false), (8, false)]⟩, ⟨none, [(9, false), (10, false), (11, false), (12, false)]⟩])
 (.leaf)))

theorem s22_ok {Ψ : AVal → Heap → Prop} {t : AVal} {m_Up : AVal} {m_Val : AVal} {id_ : Int} {h : Heap} (H : s22 Ψ t m_Up m_Val id_ h) : ACalls prog 22 [t, (.agg [m_Up, m_Val]), (.int .i64 id_)] h Ψ :=
 calls_of_evF func22 (by kernel_rfl) (by kernel_rfl) (by kernel_rfl)
 (Eq.mpr (by as_aux_lemma => kernel_rfl : oblF prog f22 (s22_A Ψ) Ψ = (otP 21)) (otP_ok 21))
 (Eq.mpr (by as_aux_lemma => kernel_rfl : evF prog f22 (s22_A Ψ) Ψ [t, (.agg [m_Up, m_Val]), (.int .i64 id_)] h = s22 Ψ t m_Up m_Val id_ h) H)

/- 24 (*dictum/dictumref03.T).Has -/
def s24 (Ψ : AVal → Heap → Prop) (t : AVal) (id_ : Int) (h : Heap) : Prop :=
 ifT (decide (0 ≤ id_)) (
 nilCheckA t fun p =>
 addOff p 0 fun p1 =>
 ld1 h p1 fun v =>
 lenN v fun n =>
 retG (.bool (decide (id_ < n))) h Ψ) (
 retG (.bool false) h Ψ)

def s24_A (Ψ : AVal → Heap → Prop) : Ann :=
 .seq (rA 1)
 (.seq (.reg [⟨none, [(0, false), (1, false), (2, false)]⟩, ⟨some (7, true), [(3, false), (4, false), (5, false), (6, false), (7, false), (8, false), (9, false)]⟩, ⟨none, [(10, false), (11, false)]⟩])
 (.leaf))

theorem s24_ok {Ψ : AVal → Heap → Prop} {t : AVal} {id_ : Int} {h : Heap} (H : s24 Ψ t id_ h) : ACalls prog 24 [t, (.int .i64 id_)] h Ψ :=
 calls_of_evF func24 (by kernel_rfl) (by kernel_rfl) (by kernel_rfl)
 (Eq.mpr (by as_aux_lemma => kernel_rfl : oblF prog f24 (s24_A Ψ) Ψ = (otP 5)) (otP_ok 5))
 (Eq.mpr (by as_aux_lemma => kernel_rfl : evF prog f24 (s24_A Ψ) Ψ [t, (.int .i64 id_)] h = s24 Ψ t id_ h) H)

/- 27 dictum/force.At -/
def s27 (Ψ : AVal → Heap → Prop) (t : AVal) (m_Up : AVal) (m_Val : AVal) (w : Int) (id_ : Int) (h : Heap) : Prop :=
 callG prog 45 [t, (.agg [m_Up, m_Val])] h fun v h_ =>
 tTup v fun l_ =>
 tCons l_ fun v1 l_1 =>
 tCons l_1 fun v2 l_2 =>
 tInt .i64 v2 fun v3 =>
 tNil l_2 (
 ifT (v3 != 0) (
 retG (.tuple [(.bool false), (.int .i64 v3)]) h_ Ψ) (
 callG prog 65 [v1, (.int .i64 w)] h_ fun v4 h_1 =>
 tBool v4 fun v5 =>
 ifT (!v5) (
 retG (.tuple [(.bool false), (.int .i64 2)]) h_1 Ψ) (
 callG prog 66 [t, (.int .i64 id_)] h_1 fun v6 h_2 =>
 tBool v6 fun v7 =>
 ifT (!v7) (
 retG (.tuple [(.bool false), (.int .i64 31)]) h_2 Ψ) (
 callG prog 50 [v1, (.int .i64 w), (.int .i64 id_)] h_2 fun v8 h_3 =>
 tBool v8 fun v9 =>
 retG (.tuple [(.bool v9), (.int .i64 0)]) h_3 Ψ))))

def s27_A (Ψ : AVal → Heap → Prop) : Ann :=
 .seq (.reg [⟨none, [(0, true), (1, false), (2, false)]⟩])
 (.seq (rA 8)
 (.seq (.block (.seq (rA 3)
 (.cond (.seq (rA 3)
 (.leaf))
 (.seq (rA 5)
 (.cond (.seq (rA 2)
 (.leaf))
 (.seq (rA 5)
 (.cond (.seq (rA 2)
 (.leaf))
 (.leaf))))))))
 (.seq (rA 6)
 (.leaf))))

theorem s27_ok {Ψ : AVal → Heap → Prop} {t : AVal} {m_Up : AVal} {m_Val : AVal} {w : Int} {id_ : Int} {h : Heap} (H : s27 Ψ t m_Up m_Val w id_ h) : ACalls prog 27 [t, (.agg [m_Up, m_Val]), (.int .i64 w), (.int .i64 id_)] h Ψ :=
 calls_of_evF func27 (by kernel_rfl) (by kernel_rfl) (by kernel_rfl)
 (Eq.mpr (by as_aux_lemma => kernel_rfl : oblF prog f27 (s27_A Ψ) Ψ = (otP 18508213)) (otP_ok 18508213))
 (Eq.mpr (by as_aux_lemma => kernel_rfl : evF prog f27 (s27_A Ψ) Ψ [t, (.agg [m_Up, m_Val]), (.int .i64 w), (.int .i64 id_)] h = s27 Ψ t m_Up m_Val w id_ h) H)

/- 29 dictum/force.All -/
abbrev s29l1_T := Int → AVal → AVal → AVal → Int → Int → Heap → Prop
abbrev s29l1_K : List Kd := [.int .i64, .any, .any, .any, .int .i64, .int .i64]
def s29l1_G (F : s29l1_T) : s29l1_T := GK s29l1_K F
def s29l1_E (F : Nat → s29l1_T) : s29l1_T := EK s29l1_K F
theorem s29l1_go {F : s29l1_T} {x0 : Int} {x1 x2 x3 : AVal} {x4 x5 : Int} {h : Heap} (H : F x0 x1 x2 x3 x4 x5 h) : s29l1_G F x0 x1 x2 x3 x4 x5 h := gJ_plain rfl H
theorem s29l1_in {F : Nat → s29l1_T} {x0 : Int} {x1 x2 x3 : AVal} {x4 x5 : Int} {h : Heap} (n : Nat) (H : F n x0 x1 x2 x3 x4 x5 h) : s29l1_E F x0 x1 x2 x3 x4 x5 h := gJ_plain rfl ⟨n, H⟩

abbrev s29c2_K : List Kd := [.int .i64, .any, .any, .any, .int .i64, .int .i64]
def s29c2 (Ψ : AVal → Heap → Prop) (L1 : s29l1_T) (w2 : Int) (t6_1 y1 out1 : AVal) (t30_1 t31_1 : Int) (h : Heap) : Prop :=
 rg (t31_1 + 1) (
 L1 w2 t6_1 y1 out1 t30_1 (t31_1 + 1) h)

def s29l1 (Ψ : AVal → Heap → Prop) : Nat → s29l1_T
 | 0, _, _, _, _, _, _, _ => False
 | n + 1, w1, t6, y, out, t30, t31, h =>
 ifT (decide (t31 < t30)) (
 callG prog 50 [y, (.int .i64 w1), (.int .i64 t31)] h fun v8 h_6 =>
 tBool v8 fun v9 =>
 ifT v9 (
 appC 1 8 h_6 out (.lsl 1 [(.int .i64 t31)]) fun v10 h_7 =>
 s29c2 Ψ (s29l1_G (s29l1 Ψ n)) w1 t6 y v10 t30 t31 h_7) (
 s29c2 Ψ (s29l1_G (s29l1 Ψ n)) w1 t6 y out t30 t31 h_6)) (
 callG prog 68 [out] h fun v11 h_8 =>
 tTup v11 fun l_5 =>
 tCons l_5 fun v12 l_6 =>
 tCons l_6 fun v13 l_7 =>
 tInt .i64 v13 fun v14 =>
 tNil l_7 (
 Sym.newRow 16 [(.agg [(.int .u64 0), (.int .u64 0), (.int .u64 0), (.int .u64 0), (.int .u64 0), (.int .u64 0), (.int .u64 0), (.int .u64 0), (.int .u64 0), (.int .u64 0), (.int .u64 0), (.int .u64 0), (.int .u64 0), (.int .u64 0), (.int .u64 0), (.int .u64 0)])] h_8 fun r1 h_9 =>
 aggN 16 v12 fun cs =>
 st false h_9 (.ptr r1 0 0) cs fun h_10 =>
 ldN 16 h_10 (.ptr r1 0 0) fun l_8 =>
 aggN 16 (.agg l_8) fun cs1 =>
 st false h_10 t6 cs1 fun h_11 =>
 ldN 16 h_11 t6 fun l_9 =>
 retG (.tuple [(.agg l_9), (.int .i64 0)]) h_11 Ψ))

def s29 (Ψ : AVal → Heap → Prop) (t : AVal) (m_Up : AVal) (m_Val : AVal) (w : Int) (h : Heap) : Prop :=
 Sym.newRow 16 [(.agg [(.int .u64 0), (.int .u64 0), (.int .u64 0), (.int .u64 0), (.int .u64 0), (.int .u64 0), (.int .u64 0), (.int .u64 0), (.int .u64 0), (.int .u64 0), (.int .u64 0), (.int .u64 0), (.int .u64 0), (.int .u64 0), (.int .u64 0), (.int .u64 0)])] h fun r h_ =>
 callG prog 45 [t, (.agg [m_Up, m_Val])] h_ fun v h_1 =>
 tTup v fun l_ =>
 tCons l_ fun v1 l_1 =>
 tCons l_1 fun v2 l_2 =>
 tInt .i64 v2 fun v3 =>
 tNil l_2 (
 ifT (v3 != 0) (
 st false h_1 (.ptr r 0 0) [(.int .u64 0), (.int .u64 0), (.int .u64 0), (.int .u64 0), (.int .u64 0), (.int .u64 0), (.int .u64 0), (.int .u64 0), (.int .u64 0), (.int .u64 0), (.int .u64 0), (.int .u64 0), (.int .u64 0), (.int .u64 0), (.int .u64 0), (.int .u64 0)] fun h_2 =>
 ldN 16 h_2 (.ptr r 0 0) fun l_3 =>
 retG (.tuple [(.agg l_3), (.int .i64 v3)]) h_2 Ψ) (
 callG prog 65 [v1, (.int .i64 w)] h_1 fun v4 h_3 =>
 tBool v4 fun v5 =>
 ifT (!v5) (
 st false h_3 (.ptr r 0 0) [(.int .u64 0), (.int .u64 0), (.int .u64 0), (.int .u64 0), (.int .u64 0), (.int .u64 0), (.int .u64 0), (.int .u64 0), (.int .u64 0), (.int .u64 0), (.int .u64 0), (.int .u64 0), (.int .u64 0), (.int .u64 0), (.int .u64 0), (.int .u64 0)] fun h_4 =>
 ldN 16 h_4 (.ptr r 0 0) fun l_4 =>
 retG (.tuple [(.agg l_4), (.int .i64 2)]) h_4 Ψ) (
 callG prog 67 [t] h_3 fun v6 h_5 =>
 tInt .i64 v6 fun v7 =>
 s29l1_E (s29l1 Ψ) w (.ptr r 0 0) v1 .nilsl v7 0 h_5)))

def s29_A (Ψ : AVal → Heap → Prop) : Ann :=
 .seq (.reg [⟨none, [(0, true), (1, false), (2, false)]⟩])
 (.seq (rA 8)
 (.seq (.seq (rA 2)
 (.cond (.seq (rA 4)
 (.leaf))
 (.leaf)))
 (.seq (.seq (rA 4)
 (.cond (.seq (rA 3)
 (.leaf))
 (.leaf)))
 (.seq (rA 1)
 (.seq (.seq (rA 3)
 (.block (loopK [2, 6, 8, 10, 30, 31] s29l1_K (s29l1 Ψ) (fun L1 =>
 .seq (rA 1)
 (.seq (.cond (.leaf)
 (.leaf))
 (cutK [2, 6, 8, 10, 30, 31] s29c2_K (s29c2 Ψ (LK s29l1_K L1)) (.block (.seq (rA 2)
 (.seq (rA 4)
 (.cond (.reg [⟨none, [(0, false), (1, false), (2, true), (3, false), (4, false)]⟩])
 (.leaf)))))
 (rA 2)))))))
 (.seq (rA 8)
 (.seq (rA 3)
 (.leaf))))))))

theorem s29_ok {Ψ : AVal → Heap → Prop} {t : AVal} {m_Up : AVal} {m_Val : AVal} {w : Int} {h : Heap} (H : s29 Ψ t m_Up m_Val w h) : ACalls prog 29 [t, (.agg [m_Up, m_Val]), (.int .i64 w)] h Ψ :=
 calls_of_evF func29 (by kernel_rfl) (by kernel_rfl) (by kernel_rfl)
 (Eq.mpr (by as_aux_lemma => kernel_rfl : oblF prog f29 (s29_A Ψ) Ψ = ((True) ∧ ((True) ∧ ((otP 13) ∧ ((otP 13) ∧ ((True) ∧ (((True) ∧ ((NK s29l1_K (s29l1 Ψ 0)) ∧ (∀ n1 : Nat, (QK s29l1_K (s29l1 Ψ (n1 + 1))) ∧ ((True) ∧ ((otP 1) ∧ ((otP 21) ∧ ((QK s29c2_K (s29c2 Ψ (s29l1_G (s29l1 Ψ n1)))) ∧ (True)))))))) ∧ (otP 5)))))))) (⟨trivial, ⟨trivial, ⟨otP_ok 13, ⟨otP_ok 13, ⟨trivial, ⟨⟨trivial, ⟨fun _ _ _ _ _ _ _ H => H, fun _ => ⟨oI, ⟨trivial, ⟨otP_ok 1, ⟨otP_ok 21, ⟨oI, trivial⟩⟩⟩⟩⟩⟩⟩, otP_ok 5⟩⟩⟩⟩⟩⟩))
 (Eq.mpr (by as_aux_lemma => kernel_rfl : evF prog f29 (s29_A Ψ) Ψ [t, (.agg [m_Up, m_Val]), (.int .i64 w)] h = s29 Ψ t m_Up m_Val w h) H)

/- 31 dictum/force.Worlds -/
abbrev s31l1_T := Int → AVal → AVal → Int → Int → Heap → Prop
abbrev s31l1_K : List Kd := [.int .i64, .any, .any, .int .i64, .int .i64]
def s31l1_G (F : s31l1_T) : s31l1_T := GK s31l1_K F
def s31l1_E (F : Nat → s31l1_T) : s31l1_T := EK s31l1_K F
theorem s31l1_go {F : s31l1_T} {x0 : Int} {x1 x2 : AVal} {x3 x4 : Int} {h : Heap} (H : F x0 x1 x2 x3 x4 h) : s31l1_G F x0 x1 x2 x3 x4 h := gJ_plain rfl H
theorem s31l1_in {F : Nat → s31l1_T} {x0 : Int} {x1 x2 : AVal} {x3 x4 : Int} {h : Heap} (n : Nat) (H : F n x0 x1 x2 x3 x4 h) : s31l1_E F x0 x1 x2 x3 x4 h := gJ_plain rfl ⟨n, H⟩

abbrev s31c2_K : List Kd := [.int .i64, .any, .any, .int .i64, .int .i64]
def s31c2 (Ψ : AVal → Heap → Prop) (L1 : s31l1_T) (id_2 : Int) (y1 out1 : AVal) (t27_1 t28_1 : Int) (h : Heap) : Prop :=
 rg (t28_1 + 1) (
 L1 id_2 y1 out1 t27_1 (t28_1 + 1) h)

def s31l1 (Ψ : AVal → Heap → Prop) : Nat → s31l1_T
 | 0, _, _, _, _, _, _ => False
 | n1 + 1, id_1, y, out, t27, t28, h =>
 ifT (decide (t28 < t27)) (
 callG prog 50 [y, (.int .i64 t28), (.int .i64 id_1)] h fun v6 h_2 =>
 tBool v6 fun v7 =>
 ifT v7 (
 appC 1 8 h_2 out (.lsl 1 [(.int .i64 t28)]) fun v8 h_3 =>
 s31c2 Ψ (s31l1_G (s31l1 Ψ n1)) id_1 y v8 t27 t28 h_3) (
 s31c2 Ψ (s31l1_G (s31l1 Ψ n1)) id_1 y out t27 t28 h_2)) (
 retG (.tuple [out, (.int .i64 0)]) h Ψ)

def s31 (Ψ : AVal → Heap → Prop) (t : AVal) (m_Up : AVal) (m_Val : AVal) (id_ : Int) (h : Heap) : Prop :=
 callG prog 45 [t, (.agg [m_Up, m_Val])] h fun v h_ =>
 tTup v fun l_ =>
 tCons l_ fun v1 l_1 =>
 tCons l_1 fun v2 l_2 =>
 tInt .i64 v2 fun v3 =>
 tNil l_2 (
 ifT (v3 != 0) (
 retG (.tuple [.nilsl, (.int .i64 v3)]) h_ Ψ) (
 callG prog 66 [t, (.int .i64 id_)] h_ fun v4 h_1 =>
 tBool v4 fun v5 =>
 ifT (!v5) (
 retG (.tuple [.nilsl, (.int .i64 31)]) h_1 Ψ) (
 lenN m_Up fun n =>
 s31l1_E (s31l1 Ψ) id_ v1 .nilsl n 0 h_1)))

def s31_A (Ψ : AVal → Heap → Prop) : Ann :=
 .seq (.reg [⟨none, [(0, true), (1, false), (2, false)]⟩])
 (.seq (rA 8)
 (.seq (.seq (rA 2)
 (.cond (.seq (rA 3)
 (.leaf))
 (.leaf)))
 (.seq (.seq (rA 4)
 (.cond (.seq (rA 2)
 (.leaf))
 (.leaf)))
 (.seq (rA 1)
 (.seq (.seq (rA 4)
 (.block (loopK [2, 8, 10, 27, 28] s31l1_K (s31l1 Ψ) (fun L1 =>
 .seq (rA 1)
 (.seq (.cond (.leaf)
 (.leaf))
 (cutK [2, 8, 10, 27, 28] s31c2_K (s31c2 Ψ (LK s31l1_K L1)) (.block (.seq (rA 2)
 (.seq (rA 4)
 (.cond (.reg [⟨none, [(0, false), (1, false), (2, true), (3, false), (4, false)]⟩])
 (.leaf)))))
 (rA 2)))))))
 (.seq (rA 3)
 (.leaf)))))))

theorem s31_ok {Ψ : AVal → Heap → Prop} {t : AVal} {m_Up : AVal} {m_Val : AVal} {id_ : Int} {h : Heap} (H : s31 Ψ t m_Up m_Val id_ h) : ACalls prog 31 [t, (.agg [m_Up, m_Val]), (.int .i64 id_)] h Ψ :=
 calls_of_evF func31 (by kernel_rfl) (by kernel_rfl) (by kernel_rfl)
 (Eq.mpr (by as_aux_lemma => kernel_rfl : oblF prog f31 (s31_A Ψ) Ψ = ((True) ∧ ((True) ∧ ((otP 13) ∧ ((otP 13) ∧ ((True) ∧ (((True) ∧ ((NK s31l1_K (s31l1 Ψ 0)) ∧ (∀ n1 : Nat, (QK s31l1_K (s31l1 Ψ (n1 + 1))) ∧ ((True) ∧ ((otP 1) ∧ ((otP 21) ∧ ((QK s31c2_K (s31c2 Ψ (s31l1_G (s31l1 Ψ n1)))) ∧ (True)))))))) ∧ (otP 1)))))))) (⟨trivial, ⟨trivial, ⟨otP_ok 13, ⟨otP_ok 13, ⟨trivial, ⟨⟨trivial, ⟨fun _ _ _ _ _ _ H => H, fun _ => ⟨oI, ⟨trivial, ⟨otP_ok 1, ⟨otP_ok 21, ⟨oI, trivial⟩⟩⟩⟩⟩⟩⟩, otP_ok 1⟩⟩⟩⟩⟩⟩))
 (Eq.mpr (by as_aux_lemma => kernel_rfl : evF prog f31 (s31_A Ψ) Ψ [t, (.agg [m_Up, m_Val]), (.int .i64 id_)] h = s31 Ψ t m_Up m_Val id_ h) H)

/- 33 dictum/dictumref03.Ints -/
abbrev s33l1_T := AVal → AVal → Int → Heap → Prop
abbrev s33l1_K : List Kd := [.any, .any, .int .i64]
def s33l1_G (F : s33l1_T) : s33l1_T := GK s33l1_K F
def s33l1_E (F : Nat → s33l1_T) : s33l1_T := EK s33l1_K F
theorem s33l1_go {F : s33l1_T} {x0 x1 : AVal} {x2 : Int} {h : Heap} (H : F x0 x1 x2 h) : s33l1_G F x0 x1 x2 h := gJ_plain rfl H
theorem s33l1_in {F : Nat → s33l1_T} {x0 x1 : AVal} {x2 : Int} {h : Heap} (n : Nat) (H : F n x0 x1 x2 h) : s33l1_E F x0 x1 x2 h := gJ_plain rfl ⟨n, H⟩

def s33l1 (Ψ : AVal → Heap → Prop) : Nat → s33l1_T
 | 0, _, _, _, _ => False
 | n2 + 1, a1, b1, i, h =>
 lenN a1 fun n3 =>
 ifT (decide (i < n3)) (
 ixS 1 a1 i fun p =>
 ld1 h p fun v =>
 tInt .i64 v fun v1 =>
 ixS 1 b1 i fun p1 =>
 ld1 h p1 fun v2 =>
 tInt .i64 v2 fun v3 =>
 ifT (v1 != v3) (
 retG (.bool false) h Ψ) (
 rg (i + 1) (
 s33l1_G (s33l1 Ψ n2) a1 b1 (i + 1) h))) (
 retG (.bool true) h Ψ)

def s33 (Ψ : AVal → Heap → Prop) (a : AVal) (b : AVal) (h : Heap) : Prop :=
 lenN a fun n =>
 lenN b fun n1 =>
 ifT (n != n1) (
 retG (.bool false) h Ψ) (
 s33l1_E (s33l1 Ψ) a b 0 h)

def s33_A (Ψ : AVal → Heap → Prop) : Ann :=
 .seq (rA 1)
 (.seq (.seq (rA 5)
 (.cond (.seq (rA 1)
 (.leaf))
 (.leaf)))
 (.seq (.seq (rA 1)
 (.block (loopK [0, 1, 5] s33l1_K (s33l1 Ψ) (fun L1 =>
 .seq (.seq (rA 4)
 (.cond (.leaf)
 (.leaf)))
 (.seq (.block (.seq (.draw [(0, false), (1, false), (2, false), (3, false), (4, false), (5, false), (6, false), (7, false), (8, false)] [0, 0, 3, 7, 0, 0, 48, 112, 255])
 (.cond (.seq (rA 1)
 (.leaf))
 (.leaf))))
 (rA 3))))))
 (.seq (rA 1)
 (.leaf))))

theorem s33_ok {Ψ : AVal → Heap → Prop} {a : AVal} {b : AVal} {h : Heap} (H : s33 Ψ a b h) : ACalls prog 33 [a, b] h Ψ :=
 calls_of_evF func33 (by kernel_rfl) (by kernel_rfl) (by kernel_rfl)
 (Eq.mpr (by as_aux_lemma => kernel_rfl : oblF prog f33 (s33_A Ψ) Ψ = ((True) ∧ ((otP 13) ∧ (((True) ∧ ((NK s33l1_K (s33l1 Ψ 0)) ∧ (∀ n1 : Nat, (QK s33l1_K (s33l1 Ψ (n1 + 1))) ∧ (otP 1739)))) ∧ (otP 1))))) (⟨trivial, ⟨otP_ok 13, ⟨⟨trivial, ⟨fun _ _ _ _ H => H, fun _ => ⟨oI, otP_ok 1739⟩⟩⟩, otP_ok 1⟩⟩⟩))
 (Eq.mpr (by as_aux_lemma => kernel_rfl : evF prog f33 (s33_A Ψ) Ψ [a, b] h = s33 Ψ a b h) H)

/- 36 dictum/worlds.Check -/
def s36 (Ψ : AVal → Heap → Prop) (m_Up : AVal) (m_Val : AVal) (h : Heap) : Prop :=
 callG prog 70 [(.agg [m_Up, m_Val]), .nilsl] h fun v h_ =>
 tTup v fun l_ =>
 tCons l_ fun v1 l_1 =>
 tCons l_1 fun v2 l_2 =>
 tInt .i64 v2 fun v3 =>
 tNil l_2 (
 retG (.int .i64 v3) h_ Ψ)

def s36_A (Ψ : AVal → Heap → Prop) : Ann :=
 .seq (.reg [⟨none, [(0, true), (1, false)]⟩])
 (.seq (rA 7)
 (.seq (rA 2)
 (.leaf)))

theorem s36_ok {Ψ : AVal → Heap → Prop} {m_Up : AVal} {m_Val : AVal} {h : Heap} (H : s36 Ψ m_Up m_Val h) : ACalls prog 36 [(.agg [m_Up, m_Val])] h Ψ :=
 calls_of_evF func36 (by kernel_rfl) (by kernel_rfl) (by kernel_rfl)
 (Eq.mpr (by as_aux_lemma => kernel_rfl : oblF prog f36 (s36_A Ψ) Ψ = (otP 21)) (otP_ok 21))
 (Eq.mpr (by as_aux_lemma => kernel_rfl : evF prog f36 (s36_A Ψ) Ψ [(.agg [m_Up, m_Val])] h = s36 Ψ m_Up m_Val h) H)

/- 43 dictum/dictumlaw03.Both -/
def s43 (Ψ : AVal → Heap → Prop) (rows : AVal) (h : Heap) : Prop :=
 Sym.newRow 4 [] h fun r h_ =>
 appC 4 40 h_ (.sl r 4 0 0) rows (litG true fun v h_1 =>
 callG prog 80 [rows] h_1 fun v1 h_2 =>
 tTup v1 fun l_ =>
 tCons l_ fun v2 l_1 =>
 tCons l_1 fun v3 l_2 =>
 tInt .i64 v3 fun v4 =>
 tNil l_2 (
 ifT (v4 != 0) (
 retG (.tuple [.nilptr, .nilptr, (.bool false)]) h_2 Ψ) (
 callG prog 54 [v] h_2 fun v5 h_3 =>
 tTup v5 fun l_3 =>
 tCons l_3 fun v6 l_4 =>
 tCons l_4 fun v7 l_5 =>
 tInt .i64 v7 fun v8 =>
 tNil l_5 (
 retG (.tuple [v6, v2, (.bool true)]) h_3 Ψ))))

def s43_A (Ψ : AVal → Heap → Prop) : Ann :=
 .seq (rA 3)
 (.seq (.reg [⟨none, [(0, false), (1, false), (2, true), (3, false)]⟩])
 (.seq (rA 7)
 (.seq (.seq (rA 2)
 (.cond (.seq (rA 3)
 (.leaf))
 (.leaf)))
 (.seq (rA 7)
 (.seq (rA 5)
 (.leaf))))))

theorem s43_ok {Ψ : AVal → Heap → Prop} {rows : AVal} {h : Heap} (H : s43 Ψ rows h) : ACalls prog 43 [rows] h Ψ :=
 calls_of_evF func43 (by kernel_rfl) (by kernel_rfl) (by kernel_rfl)
 (Eq.mpr (by as_aux_lemma => kernel_rfl : oblF prog f43 (s43_A Ψ) Ψ = (otP 83669)) (otP_ok 83669))
 (Eq.mpr (by as_aux_lemma => kernel_rfl : evF prog f43 (s43_A Ψ) Ψ [rows] h = s43 Ψ rows h) H)

/- 45 dictum/force.look -/
def s45 (Ψ : AVal → Heap → Prop) (t : AVal) (m_Up : AVal) (m_Val : AVal) (h : Heap) : Prop :=
 callG prog 81 [t] h fun v h_ =>
 nilP v fun b =>
 ifT b (
 retG (.tuple [.nilptr, (.int .i64 1)]) h_ Ψ) (
 callG prog 36 [(.agg [m_Up, m_Val])] h_ fun v1 h_1 =>
 tInt .i64 v1 fun v2 =>
 ifT (v2 != 0) (
 retG (.tuple [.nilptr, (.int .i64 v2)]) h_1 Ψ) (
 ∃ v3, (callG prog 82 [(.agg [m_Up, m_Val])] h_1 fun v h2 => v = v3 ∧ h2 = h_1) ∧
 newMap h_1 fun r h_3 =>
 ((callG prog 82 [(.agg [m_Up, m_Val])] h_3 fun v h2 => v = v3 ∧ h2 = h_3)) ∧
 ((AVal.agg [m_Up, m_Val]) = (.agg [m_Up, m_Val])) ∧
 ((AVal.agg [m_Up, m_Val]) = (.agg [m_Up, m_Val])) ∧
 chk (sc t) (
 chk (sc v3) (
 retG (.tuple [(.lptr [t, m_Up, m_Val, v3, (.mapr r)]), (.int .i64 0)]) h_3 Ψ))))

def s45_A (Ψ : AVal → Heap → Prop) : Ann :=
 .seq (.reg [⟨none, [(0, true), (1, false), (2, false)]⟩])
 (.seq (.seq (rA 3)
 (.cond (.seq (rA 2)
 (.leaf))
 (.leaf)))
 (.seq (.seq (rA 3)
 (.seq (rA 2)
 (.cond (.seq (rA 3)
 (.leaf))
 (.leaf))))
 (.seq (.draw [(0, false), (1, false), (2, false), (3, true), (4, false), (5, false), (6, true), (7, false), (8, false)] [0, 0, 0, 4, 0, 31, 63, 127, 255])
 (.leaf))))

theorem s45_ok {Ψ : AVal → Heap → Prop} {t : AVal} {m_Up : AVal} {m_Val : AVal} {h : Heap} (H : s45 Ψ t m_Up m_Val h) : ACalls prog 45 [t, (.agg [m_Up, m_Val])] h Ψ :=
 calls_of_evF func45 (by kernel_rfl) (by kernel_rfl) (by kernel_rfl)
 (Eq.mpr (by as_aux_lemma => kernel_rfl : oblF prog f45 (s45_A Ψ) Ψ = (otP 1158253)) (otP_ok 1158253))
 (Eq.mpr (by as_aux_lemma => kernel_rfl : evF prog f45 (s45_A Ψ) Ψ [t, (.agg [m_Up, m_Val])] h = s45 Ψ t m_Up m_Val h) H)

/- 47 dictum/bits.List -/
def s47b1 (l_1 t6 : AVal) (t7 : Int) (h : Heap) (mid : Heap → (Heap → Prop) → Prop) (R : AExit → Heap → Prop) : Prop :=
 mid h fun h =>
 ld1 h l_1 fun v1 =>
 appC 1 8 h v1 (.lsl 1 [(.int .i64 t7)]) fun v2 h_2 =>
 chk (sc v2) (
 st true h_2 l_1 [v2] fun h_3 =>
 R .normal h_3)

def s47b1_B (x0 x1 : AVal) (l : List AVal) (h : Heap) (mid : Heap → (Heap → Prop) → Prop) (R : AExit → Heap → Prop) : Prop := J.ci .i64 l fun y0 l => J.nil l (s47b1 x0 x1 y0 h mid R)

def s47 (Ψ : AVal → Heap → Prop) (b : AVal) (h : Heap) : Prop :=
 aggN 16 b fun cs =>
 Sym.newRow 1 [.nilsl] h fun r h_ =>
 ldN 16 h_ (.lptr cs) fun l_ =>
 callG prog 84 [(.agg l_)] h_ fun v h_1 =>
 rngG prog v [.int .i64] h_1 (s47b1_B (.ptr r 0 0) v) (fun h =>
 ld1 h (.ptr r 0 0) fun v3 =>
 retG v3 h Ψ) []

def s47_A (Ψ : AVal → Heap → Prop) : Ann :=
 .seq (.reg [⟨none, [(0, true), (1, false)]⟩])
 (.seq (rA 1)
 (.seq (.seq (rA 2)
 (.block (.rng [(3, .any), (6, .any)] [(7, .int .i64)] [] (fun l a h mid R => J.cons l fun x0 l => J.cons l fun x1 l => J.nil l (s47b1_B x0 x1 a h mid R)) (rA 1) (fun R =>
 .block (.reg [⟨none, [(0, false), (1, false), (2, true), (3, false), (4, false)]⟩])))))
 (.seq (rA 2)
 (.leaf))))

theorem s47_ok {Ψ : AVal → Heap → Prop} {b : AVal} {h : Heap} (H : s47 Ψ b h) : ACalls prog 47 [b] h Ψ :=
 calls_of_evF func47 (by kernel_rfl) (by kernel_rfl) (by kernel_rfl)
 (Eq.mpr (by as_aux_lemma => kernel_rfl : oblF prog f47 (s47_A Ψ) Ψ = ((True) ∧ ((True) ∧ (((True) ∧ (∀ (mid : Heap → (Heap → Prop) → Prop) (R : AExit → Heap → Prop), (∀ (h : Heap) (y0 : Int) (x0 : AVal) (x1 : AVal), OI (s47b1 x0 x1 y0 h mid R)) ∧ (otP 1))) ∧ (otP 1))))) (⟨trivial, ⟨trivial, ⟨⟨trivial, fun _ _ => ⟨fun _ _ _ _ H => H, otP_ok 1⟩⟩, otP_ok 1⟩⟩⟩))
 (Eq.mpr (by as_aux_lemma => kernel_rfl : evF prog f47 (s47_A Ψ) Ψ [b] h = s47 Ψ b h) H)

/- 49 dictum/force.Holds$1 -/
def s49 (Ψ : AVal → Heap → Prop) (id_ : Int) (c0 : AVal) (c1 : AVal) (h : Heap) : Prop :=
 ld1 h c0 fun v =>
 ld1 h c1 fun v1 =>
 tInt .i64 v1 fun v2 =>
 callG prog 50 [v, (.int .i64 v2), (.int .i64 id_)] h fun v3 h_ =>
 tBool v3 fun v4 =>
 retG (.bool (!v4)) h_ Ψ

def s49_A (Ψ : AVal → Heap → Prop) : Ann :=
 .seq (rA 1)
 (.seq (rA 6)
 (.leaf))

theorem s49_ok {Ψ : AVal → Heap → Prop} {id_ : Int} {c0 : AVal} {c1 : AVal} {h : Heap} (H : s49 Ψ id_ c0 c1 h) : ACalls prog 49 [(.int .i64 id_), c0, c1] h Ψ :=
 calls_of_evF func49 (by kernel_rfl) (by kernel_rfl) (by kernel_rfl)
 (Eq.mpr (by as_aux_lemma => kernel_rfl : oblF prog f49 (s49_A Ψ) Ψ = (otP 5)) (otP_ok 5))
 (Eq.mpr (by as_aux_lemma => kernel_rfl : evF prog f49 (s49_A Ψ) Ψ [(.int .i64 id_), c0, c1] h = s49 Ψ id_ c0 c1 h) H)

/- 51 dictum/dictumref17.Right -/
abbrev s51l2_T := AVal → Int → AVal → Int → Heap → Prop
abbrev s51l2_K : List Kd := [.any, .int .i64, .any, .int .i64]
def s51l2_G (F : s51l2_T) : s51l2_T := GK s51l2_K F
def s51l2_E (F : Nat → s51l2_T) : s51l2_T := EK s51l2_K F
theorem s51l2_go {F : s51l2_T} {x0 : AVal} {x1 : Int} {x2 : AVal} {x3 : Int} {h : Heap} (H : F x0 x1 x2 x3 h) : s51l2_G F x0 x1 x2 x3 h := gJ_plain rfl H
theorem s51l2_in {F : Nat → s51l2_T} {x0 : AVal} {x1 : Int} {x2 : AVal} {x3 : Int} {h : Heap} (n : Nat) (H : F n x0 x1 x2 x3 h) : s51l2_E F x0 x1 x2 x3 h := gJ_plain rfl ⟨n, H⟩

abbrev s51l3_T := AVal → Int → AVal → Int → Heap → Prop
abbrev s51l3_K : List Kd := [.any, .int .i64, .any, .int .i64]
def s51l3_G (F : s51l3_T) : s51l3_T := GK s51l3_K F
def s51l3_E (F : Nat → s51l3_T) : s51l3_T := EK s51l3_K F
theorem s51l3_go {F : s51l3_T} {x0 : AVal} {x1 : Int} {x2 : AVal} {x3 : Int} {h : Heap} (H : F x0 x1 x2 x3 h) : s51l3_G F x0 x1 x2 x3 h := gJ_plain rfl H
theorem s51l3_in {F : Nat → s51l3_T} {x0 : AVal} {x1 : Int} {x2 : AVal} {x3 : Int} {h : Heap} (n : Nat) (H : F n x0 x1 x2 x3 h) : s51l3_E F x0 x1 x2 x3 h := gJ_plain rfl ⟨n, H⟩

abbrev s51l4_T := AVal → Int → AVal → Int → Int → Heap → Prop
abbrev s51l4_K : List Kd := [.any, .int .i64, .any, .int .i64, .int .i64]
def s51l4_G (F : s51l4_T) : s51l4_T := GK s51l4_K F
def s51l4_E (F : Nat → s51l4_T) : s51l4_T := EK s51l4_K F
theorem s51l4_go {F : s51l4_T} {x0 : AVal} {x1 : Int} {x2 : AVal} {x3 x4 : Int} {h : Heap} (H : F x0 x1 x2 x3 x4 h) : s51l4_G F x0 x1 x2 x3 x4 h := gJ_plain rfl H
theorem s51l4_in {F : Nat → s51l4_T} {x0 : AVal} {x1 : Int} {x2 : AVal} {x3 x4 : Int} {h : Heap} (n : Nat) (H : F n x0 x1 x2 x3 x4 h) : s51l4_E F x0 x1 x2 x3 x4 h := gJ_plain rfl ⟨n, H⟩

abbrev s51c5_K : List Kd := [.any, .int .i64, .any, .int .i64, .int .i64]
def s51c5 (Ψ : AVal → Heap → Prop) (L3 : s51l3_T) (L4 : s51l4_T) (m4 : AVal) (n8 : Int) (o3 : AVal) (a3 b1 : Int) (h : Heap) : Prop :=
 rg (b1 + 1) (
 L4 m4 n8 o3 a3 (b1 + 1) h)

abbrev s51l7_T := AVal → Int → AVal → Int → Int → Int → Heap → Prop
abbrev s51l7_K : List Kd := [.any, .int .i64, .any, .int .i64, .int .i64, .int .i64]
def s51l7_G (F : s51l7_T) : s51l7_T := GK s51l7_K F
def s51l7_E (F : Nat → s51l7_T) : s51l7_T := EK s51l7_K F
theorem s51l7_go {F : s51l7_T} {x0 : AVal} {x1 : Int} {x2 : AVal} {x3 x4 x5 : Int} {h : Heap} (H : F x0 x1 x2 x3 x4 x5 h) : s51l7_G F x0 x1 x2 x3 x4 x5 h := gJ_plain rfl H
theorem s51l7_in {F : Nat → s51l7_T} {x0 : AVal} {x1 : Int} {x2 : AVal} {x3 x4 x5 : Int} {h : Heap} (n : Nat) (H : F n x0 x1 x2 x3 x4 x5 h) : s51l7_E F x0 x1 x2 x3 x4 x5 h := gJ_plain rfl ⟨n, H⟩

def s51l7 (Ψ : AVal → Heap → Prop) (L3 : s51l3_T) (L4 : s51l4_T) : Nat → s51l7_T
 | 0, _, _, _, _, _, _, _ => False
 | n11 + 1, m6, n10, o5, a5, b3, k, h =>
 addOff m6 1 fun p4 =>
 ld1 h p4 fun v13 =>
 ixS 1 v13 a5 fun p5 =>
 ld1 h p5 fun v14 =>
 lenN v14 fun n12 =>
 ifT (decide (k < n12)) (
 addOff m6 1 fun p6 =>
 ld1 h p6 fun v15 =>
 ixS 1 v15 b3 fun p7 =>
 ld1 h p7 fun v16 =>
 addOff m6 1 fun p8 =>
 ld1 h p8 fun v17 =>
 ixS 1 v17 a5 fun p9 =>
 ld1 h p9 fun v18 =>
 ixS 1 v18 k fun p10 =>
 ld1 h p10 fun v19 =>
 tStr v19 fun v20 =>
 callG prog 90 [v16, (.str v20)] h fun v21 h_2 =>
 tBool v21 fun v22 =>
 ifT (!v22) (
 retG (.tuple [.nilsl, (.bool false)]) h_2 Ψ) (
 rg (k + 1) (
 s51l7_G (s51l7 Ψ L3 L4 n11) m6 n10 o5 a5 b3 (k + 1) h_2))) (
 s51c5 Ψ L3 L4 m6 n10 o5 a5 b3 h)

abbrev s51c6_K : List Kd := [.any, .int .i64, .any, .int .i64, .int .i64, .bool]
def s51c6 (Ψ : AVal → Heap → Prop) (L3 : s51l3_T) (L4 : s51l4_T) (m5 : AVal) (n9 : Int) (o4 : AVal) (a4 b2 : Int) (t68 : Bool) (h : Heap) : Prop :=
 ifT t68 (
 s51c5 Ψ L3 L4 m5 n9 o4 a4 b2 h) (
 ixS 1 o4 b2 fun p2 =>
 ld1 h p2 fun v10 =>
 ixS 1 v10 a4 fun p3 =>
 ld1 h p3 fun v11 =>
 tBool v11 fun v12 =>
 ifT v12 (
 retG (.tuple [.nilsl, (.bool false)]) h Ψ) (
 s51l7_E (s51l7 Ψ L3 L4) m5 n9 o4 a4 b2 0 h))

def s51l4 (Ψ : AVal → Heap → Prop) (L3 : s51l3_T) : Nat → s51l4_T
 | 0, _, _, _, _, _, _ => False
 | n7 + 1, m3, n6, o2, a2, b, h =>
 ifT (decide (b < n6)) (
 ixS 1 o2 a2 fun p11 =>
 ld1 h p11 fun v23 =>
 ixS 1 v23 b fun p12 =>
 ld1 h p12 fun v24 =>
 tBool v24 fun v25 =>
 ifT (!v25) (
 s51c6 Ψ L3 (s51l4_G (s51l4 Ψ L3 n7)) m3 n6 o2 a2 b true h) (
 s51c6 Ψ L3 (s51l4_G (s51l4 Ψ L3 n7)) m3 n6 o2 a2 b (a2 == b) h)) (
 rg (a2 + 1) (
 L3 m3 n6 o2 (a2 + 1) h))

def s51l3 (Ψ : AVal → Heap → Prop) : Nat → s51l3_T
 | 0, _, _, _, _, _ => False
 | n5 + 1, m2, n4, o1, a1, h =>
 ifT (decide (a1 < n4)) (
 s51l4_E (s51l4 Ψ (s51l3_G (s51l3 Ψ n5))) m2 n4 o1 a1 0 h) (
 retG (.tuple [o1, (.bool true)]) h Ψ)

def s51l2 (Ψ : AVal → Heap → Prop) : Nat → s51l2_T
 | 0, _, _, _, _, _ => False
 | n3 + 1, m1, n2, o, a, h =>
 ifT (decide (a < n2)) (
 addOff m1 1 fun p =>
 ld1 h p fun v6 =>
 ixS 1 v6 a fun p1 =>
 ld1 h p1 fun v7 =>
 callG prog 89 [v7] h fun v8 h_1 =>
 tBool v8 fun v9 =>
 ifT (!v9) (
 retG (.tuple [.nilsl, (.bool false)]) h_1 Ψ) (
 rg (a + 1) (
 s51l2_G (s51l2 Ψ n3) m1 n2 o (a + 1) h_1))) (
 s51l3_E (s51l3 Ψ) m1 n2 o 0 h)

abbrev s51c1_K : List Kd := [.any, .int .i64, .bool]
def s51c1 (Ψ : AVal → Heap → Prop) (m : AVal) (n1 : Int) (t26 : Bool) (h : Heap) : Prop :=
 ifT t26 (
 retG (.tuple [.nilsl, (.bool false)]) h Ψ) (
 ldN 2 h m fun l_ =>
 tCons l_ fun v l_1 =>
 tCons l_1 fun v1 l_2 =>
 tNil l_2 (
 callG prog 88 [(.agg [v, v1])] h fun v2 h_ =>
 tTup v2 fun l_3 =>
 tCons l_3 fun v3 l_4 =>
 tCons l_4 fun v4 l_5 =>
 tBool v4 fun v5 =>
 tNil l_5 (
 ifT (!v5) (
 retG (.tuple [.nilsl, (.bool false)]) h_ Ψ) (
 s51l2_E (s51l2 Ψ) m n1 v3 0 h_))))

def s51 (Ψ : AVal → Heap → Prop) (m_Up : AVal) (m_Val : AVal) (h : Heap) : Prop :=
 lenN m_Up fun n =>
 ifT (decide (n < 1)) (
 s51c1 Ψ (.lptr [m_Up, m_Val]) n true h) (
 ifT (decide (512 < n)) (
 s51c1 Ψ (.lptr [m_Up, m_Val]) n true h) (
 lenN m_Val fun n17 =>
 s51c1 Ψ (.lptr [m_Up, m_Val]) n (n17 != n) h))

def s51_A (Ψ : AVal → Heap → Prop) : Ann :=
 .seq (.reg [⟨none, [(0, true), (1, false), (2, false)]⟩])
 (.seq (rA 4)
 (.seq (cutK [1, 4, 26] s51c1_K (s51c1 Ψ) (.reg [⟨none, [(0, false), (1, false), (2, false)]⟩, ⟨some (16, false), [(3, false), (4, false)]⟩, ⟨none, [(5, false), (6, false)]⟩, ⟨some (20, false), [(7, false), (8, false), (9, false), (10, false), (11, false)]⟩, ⟨none, [(12, false)]⟩])
 (.cond (.seq (rA 2)
 (.leaf))
 (.leaf)))
 (.seq (rA 7)
 (.seq (.seq (rA 2)
 (.cond (.seq (rA 2)
 (.leaf))
 (.leaf)))
 (.seq (.seq (rA 1)
 (.block (loopK [1, 4, 5, 7] s51l2_K (s51l2 Ψ) (fun L2 =>
 .seq (.seq (rA 3)
 (.cond (.leaf)
 (.leaf)))
 (.seq (.block (.seq (rA 7)
 (.cond (.seq (rA 2)
 (.leaf))
 (.leaf))))
 (rA 3))))))
 (.seq (.seq (rA 1)
 (.block (loopK [1, 4, 5, 8] s51l3_K (s51l3 Ψ) (fun L3 =>
 .seq (.seq (rA 3)
 (.cond (.leaf)
 (.leaf)))
 (.seq (.block (.seq (rA 1)
 (.block (loopK [1, 4, 5, 8, 9] s51l4_K (s51l4 Ψ (LK s51l3_K L3)) (fun L4 =>
 .seq (.seq (rA 3)
 (.cond (.leaf)
 (.leaf)))
 (cutK [1, 4, 5, 8, 9] s51c5_K (s51c5 Ψ (LK s51l3_K L3) (LK s51l4_K L4)) (.block (.seq (cutK [1, 4, 5, 8, 9, 68] s51c6_K (s51c6 Ψ (LK s51l3_K L3) (LK s51l4_K L4)) (.reg [⟨none, [(0, false), (1, false), (2, false), (3, false), (4, false), (5, false), (6, false), (7, false), (8, false)]⟩, ⟨some (64, false), [(9, false), (10, false), (11, false)]⟩, ⟨none, [(12, false)]⟩])
 (.cond (.leaf)
 (.leaf)))
 (.seq (.seq (rA 7)
 (.cond (.seq (rA 2)
 (.leaf))
 (.leaf)))
 (.seq (rA 1)
 (.block (loopK [1, 4, 5, 8, 9, 10] s51l7_K (s51l7 Ψ (LK s51l3_K L3) (LK s51l4_K L4)) (fun L7 =>
 .seq (.seq (rA 8)
 (.cond (.leaf)
 (.leaf)))
 (.seq (.block (.seq (.draw [(0, false), (1, false), (2, false), (3, false), (4, false), (5, false), (6, false), (7, false), (8, false), (9, false), (10, false), (11, false), (12, false), (13, false), (14, false)] [0, 1, 0, 7, 15, 0, 32, 0, 224, 480, 0, 2016, 4064, 8191, 16383])
 (.cond (.seq (rA 2)
 (.leaf))
 (.leaf))))
 (rA 3)))))))))
 (rA 3)))))))
 (rA 3))))))
 (.seq (rA 3)
 (.leaf))))))))

theorem s51_ok {Ψ : AVal → Heap → Prop} {m_Up : AVal} {m_Val : AVal} {h : Heap} (H : s51 Ψ m_Up m_Val h) : ACalls prog 51 [(.agg [m_Up, m_Val])] h Ψ :=
 calls_of_evF func51 (by kernel_rfl) (by kernel_rfl) (by kernel_rfl)
 (Eq.mpr (by as_aux_lemma => kernel_rfl : oblF prog f51 (s51_A Ψ) Ψ = ((True) ∧ ((True) ∧ (((True) ∧ ((QK s51c1_K (s51c1 Ψ)) ∧ (otP 3))) ∧ ((True) ∧ ((otP 13) ∧ (((True) ∧ ((NK s51l2_K (s51l2 Ψ 0)) ∧ (∀ n2 : Nat, (QK s51l2_K (s51l2 Ψ (n2 + 1))) ∧ (otP 1739)))) ∧ (((True) ∧ ((NK s51l3_K (s51l3 Ψ 0)) ∧ (∀ n3 : Nat, (QK s51l3_K (s51l3 Ψ (n3 + 1))) ∧ ((otP 5) ∧ (((True) ∧ ((NK s51l4_K (s51l4 Ψ (s51l3_G (s51l3 Ψ n3)) 0)) ∧ (∀ n4 : Nat, (QK s51l4_K (s51l4 Ψ (s51l3_G (s51l3 Ψ n3)) (n4 + 1))) ∧ ((otP 5) ∧ ((((True) ∧ ((QK s51c6_K (s51c6 Ψ (s51l3_G (s51l3 Ψ n3)) (s51l4_G (s51l4 Ψ (s51l3_G (s51l3 Ψ n3)) n4)))) ∧ (otP 1))) ∧ ((otP 13) ∧ ((True) ∧ ((NK s51l7_K (s51l7 Ψ (s51l3_G (s51l3 Ψ n3)) (s51l4_G (s51l4 Ψ (s51l3_G (s51l3 Ψ n3)) n4)) 0)) ∧ (∀ n7 : Nat, (QK s51l7_K (s51l7 Ψ (s51l3_G (s51l3 Ψ n3)) (s51l4_G (s51l4 Ψ (s51l3_G (s51l3 Ψ n3)) n4)) (n7 + 1))) ∧ (otP 1739)))))) ∧ ((QK s51c5_K (s51c5 Ψ (s51l3_G (s51l3 Ψ n3)) (s51l4_G (s51l4 Ψ (s51l3_G (s51l3 Ψ n3)) n4)))) ∧ (True))))))) ∧ (True)))))) ∧ (otP 1))))))))) (⟨trivial, ⟨trivial, ⟨⟨trivial, ⟨oI, otP_ok 3⟩⟩, ⟨trivial, ⟨otP_ok 13, ⟨⟨trivial, ⟨fun _ _ _ _ _ H => H, fun _ => ⟨oI, otP_ok 1739⟩⟩⟩, ⟨⟨trivial, ⟨fun _ _ _ _ _ H => H, fun _ => ⟨oI, ⟨otP_ok 5, ⟨⟨trivial, ⟨fun _ _ _ _ _ _ H => H, fun _ => ⟨oI, ⟨otP_ok 5, ⟨⟨⟨trivial, ⟨oI, otP_ok 1⟩⟩, ⟨otP_ok 13, ⟨trivial, ⟨fun _ _ _ _ _ _ _ H => H, fun _ => ⟨oI, otP_ok 1739⟩⟩⟩⟩⟩, ⟨oI, trivial⟩⟩⟩⟩⟩⟩, trivial⟩⟩⟩⟩⟩, otP_ok 1⟩⟩⟩⟩⟩⟩⟩))
 (Eq.mpr (by as_aux_lemma => kernel_rfl : evF prog f51 (s51_A Ψ) Ψ [(.agg [m_Up, m_Val])] h = s51 Ψ m_Up m_Val h) H)

/- 53 dictum/dictumref05.List -/
abbrev s53l1_T := AVal → AVal → Int → Heap → Prop
abbrev s53l1_K : List Kd := [.any, .any, .int .i64]
def s53l1_G (F : s53l1_T) : s53l1_T := GK s53l1_K F
def s53l1_E (F : Nat → s53l1_T) : s53l1_T := EK s53l1_K F
theorem s53l1_go {F : s53l1_T} {x0 x1 : AVal} {x2 : Int} {h : Heap} (H : F x0 x1 x2 h) : s53l1_G F x0 x1 x2 h := gJ_plain rfl H
theorem s53l1_in {F : Nat → s53l1_T} {x0 x1 : AVal} {x2 : Int} {h : Heap} (n : Nat) (H : F n x0 x1 x2 h) : s53l1_E F x0 x1 x2 h := gJ_plain rfl ⟨n, H⟩

abbrev s53c2_K : List Kd := [.any, .any, .int .i64]
def s53c2 (Ψ : AVal → Heap → Prop) (L1 : s53l1_T) (b2 l_1 : AVal) (n2 : Int) (h : Heap) : Prop :=
 rg (n2 + 1) (
 L1 b2 l_1 (n2 + 1) h)

def s53l1 (Ψ : AVal → Heap → Prop) : Nat → s53l1_T
 | 0, _, _, _, _ => False
 | n1 + 1, b1, l_, n, h =>
 ifT (decide (n < 1024)) (
 ldN 16 h b1 fun l_2 =>
 callG prog 38 [(.agg l_2), (.int .i64 n)] h fun v h_ =>
 tBool v fun v1 =>
 ifT v1 (
 appC 1 8 h_ l_ (.lsl 1 [(.int .i64 n)]) fun v2 h_1 =>
 s53c2 Ψ (s53l1_G (s53l1 Ψ n1)) b1 v2 n h_1) (
 s53c2 Ψ (s53l1_G (s53l1 Ψ n1)) b1 l_ n h_)) (
 retG l_ h Ψ)

def s53 (Ψ : AVal → Heap → Prop) (b : AVal) (h : Heap) : Prop :=
 aggN 16 b fun cs =>
 s53l1_E (s53l1 Ψ) (.lptr cs) .nilsl 0 h

def s53_A (Ψ : AVal → Heap → Prop) : Ann :=
 .seq (.reg [⟨none, [(0, true), (1, false)]⟩])
 (.seq (rA 1)
 (.seq (.seq (rA 1)
 (.block (loopK [1, 3, 4] s53l1_K (s53l1 Ψ) (fun L1 =>
 .seq (.seq (rA 2)
 (.cond (.leaf)
 (.leaf)))
 (cutK [1, 3, 4] s53c2_K (s53c2 Ψ (LK s53l1_K L1)) (.block (.seq (rA 3)
 (.cond (.reg [⟨none, [(0, false), (1, false), (2, true), (3, false), (4, false)]⟩])
 (.leaf))))
 (rA 3))))))
 (.seq (rA 2)
 (.leaf))))

theorem s53_ok {Ψ : AVal → Heap → Prop} {b : AVal} {h : Heap} (H : s53 Ψ b h) : ACalls prog 53 [b] h Ψ :=
 calls_of_evF func53 (by kernel_rfl) (by kernel_rfl) (by kernel_rfl)
 (Eq.mpr (by as_aux_lemma => kernel_rfl : oblF prog f53 (s53_A Ψ) Ψ = ((True) ∧ ((True) ∧ (((True) ∧ ((NK s53l1_K (s53l1 Ψ 0)) ∧ (∀ n1 : Nat, (QK s53l1_K (s53l1 Ψ (n1 + 1))) ∧ ((otP 5) ∧ ((otP 5) ∧ ((QK s53c2_K (s53c2 Ψ (s53l1_G (s53l1 Ψ n1)))) ∧ (True))))))) ∧ (otP 1))))) (⟨trivial, ⟨trivial, ⟨⟨trivial, ⟨fun _ _ _ _ H => H, fun _ => ⟨oI, ⟨otP_ok 5, ⟨otP_ok 5, ⟨oI, trivial⟩⟩⟩⟩⟩⟩, otP_ok 1⟩⟩⟩))
 (Eq.mpr (by as_aux_lemma => kernel_rfl : evF prog f53 (s53_A Ψ) Ψ [b] h = s53 Ψ b h) H)

/- 55 dictum/dictumlaw18.rows -/
def s55 (Ψ : AVal → Heap → Prop) (h : Heap) : Prop :=
 retG (.lsl 4 [(.agg [(.int .i64 1), (.str (ByteArray.mk #[112])), (.int .i64 0), (.int .i64 0)]), (.agg [(.int .i64 2), (.str (ByteArray.mk #[])), (.int .i64 0), (.int .i64 0)]), (.agg [(.int .i64 5), (.str (ByteArray.mk #[])), (.int .i64 0), (.int .i64 1)]), (.agg [(.int .i64 4), (.str (ByteArray.mk #[])), (.int .i64 0), (.int .i64 2)]), (.agg [(.int .i64 5), (.str (ByteArray.mk #[])), (.int .i64 2), (.int .i64 1)])]) h Ψ

def s55_A (Ψ : AVal → Heap → Prop) : Ann :=
 .seq (rA 1)
 (.seq (.reg [⟨none, [(0, false), (1, false), (2, false), (3, false), (4, false), (5, true), (6, false)]⟩])
 (.leaf))

theorem s55_ok {Ψ : AVal → Heap → Prop} {h : Heap} (H : s55 Ψ  h) : ACalls prog 55 [] h Ψ :=
 calls_of_evF func55 (by kernel_rfl) (by kernel_rfl) (by kernel_rfl)
 (Eq.mpr (by as_aux_lemma => kernel_rfl : oblF prog f55 (s55_A Ψ) Ψ = (otP 5)) (otP_ok 5))
 (Eq.mpr (by as_aux_lemma => kernel_rfl : evF prog f55 (s55_A Ψ) Ψ [] h = s55 Ψ  h) H)

/- 60 dictum/force.upsets -/
def s60 (Ψ : AVal → Heap → Prop) (above : AVal) (h : Heap) : Prop :=
 chk (sc above) (
 retG (.func (.func 96) [] [(.lptr [above])]) h Ψ)

def s60_A (Ψ : AVal → Heap → Prop) : Ann :=
 .seq (.reg [⟨none, [(0, true), (1, false)]⟩])
 (.seq (rA 2)
 (.leaf))

theorem s60_ok {Ψ : AVal → Heap → Prop} {above : AVal} {h : Heap} (H : s60 Ψ above h) : ACalls prog 60 [above] h Ψ :=
 calls_of_evF func60 (by kernel_rfl) (by kernel_rfl) (by kernel_rfl)
 (Eq.mpr (by as_aux_lemma => kernel_rfl : oblF prog f60 (s60_A Ψ) Ψ = (otP 5)) (otP_ok 5))
 (Eq.mpr (by as_aux_lemma => kernel_rfl : evF prog f60 (s60_A Ψ) Ψ [above] h = s60 Ψ above h) H)

/- 62 dictum/force.valued -/
abbrev s62l1_T := AVal → AVal → AVal → AVal → AVal → Int → Int → Heap → Prop
abbrev s62l1_K : List Kd := [.any, .any, .any, .any, .any, .int .i64, .int .i64]
def s62l1_G (F : s62l1_T) : s62l1_T := GK s62l1_K F
def s62l1_E (F : Nat → s62l1_T) : s62l1_T := EK s62l1_K F
theorem s62l1_in {F : Nat → s62l1_T} {x0 x1 x2 x3 x4 : AVal} {x5 x6 : Int} {h : Heap} (n : Nat) (H : F n x0 x1 x2 x3 x4 x5 x6 h) : s62l1_E F x0 x1 x2 x3 x4 x5 x6 h := gJ_plain rfl ⟨n, H⟩

abbrev s62l2_T := AVal → AVal → AVal → AVal → Int → AVal → Int → Int → AVal → Int → Int → Heap → Prop
abbrev s62l2_K : List Kd := [.any, .any, .any, .any, .int .i64, .any, .int .i64, .int .i64, .any, .int .i64, .int .i64]
def s62l2_G (F : s62l2_T) : s62l2_T := GK s62l2_K F
def s62l2_E (F : Nat → s62l2_T) : s62l2_T := EK s62l2_K F
theorem s62l2_go {F : s62l2_T} {x0 x1 x2 x3 : AVal} {x4 : Int} {x5 : AVal} {x6 x7 : Int} {x8 : AVal} {x9 x10 : Int} {h : Heap} (H : F x0 x1 x2 x3 x4 x5 x6 x7 x8 x9 x10 h) : s62l2_G F x0 x1 x2 x3 x4 x5 x6 x7 x8 x9 x10 h := gJ_plain rfl H
theorem s62l2_in {F : Nat → s62l2_T} {x0 x1 x2 x3 : AVal} {x4 : Int} {x5 : AVal} {x6 x7 : Int} {x8 : AVal} {x9 x10 : Int} {h : Heap} (n : Nat) (H : F n x0 x1 x2 x3 x4 x5 x6 x7 x8 x9 x10 h) : s62l2_E F x0 x1 x2 x3 x4 x5 x6 x7 x8 x9 x10 h := gJ_plain rfl ⟨n, H⟩

abbrev s62c3_K : List Kd := [.any, .any, .any, .any, .int .i64, .any, .int .i64, .int .i64, .any, .int .i64, .int .i64]
def s62c3 (Ψ : AVal → Heap → Prop) (L1 : s62l1_T) (L2 : s62l2_T) (atoms3 on3 t6_2 out2 : AVal) (w1 : Int) (t18_2 : AVal) (t19_2 t20_2 : Int) (t32_1 : AVal) (t33_1 t34_1 : Int) (h : Heap) : Prop :=
 rg (t34_1 + 1) (
 L2 atoms3 on3 t6_2 out2 w1 t18_2 t19_2 t20_2 t32_1 t33_1 (t34_1 + 1) h)

def s62l2 (Ψ : AVal → Heap → Prop) (L1 : s62l1_T) : Nat → s62l2_T
 | 0, _, _, _, _, _, _, _, _, _, _, _, _ => False
 | n4 + 1, atoms2, on2, t6_1, out1, w, t18_1, t19_1, t20_1, t32, t33, t34, h =>
 ifT (decide (t34 < t33)) (
 ixS 1 t32 t34 fun p3 =>
 ld1 h p3 fun v7 =>
 tStr v7 fun v8 =>
 ixS 1 on2 t34 fun p4 =>
 ld1 h p4 fun v9 =>
 tInt .u64 v9 fun v10 =>
 (0 : Int) ≤ w ∧
 ifT ((bitsI .and .u64 (Int.fdiv v10 (2 ^ (min (Int.toNat w) (IntKind.u64.bits)))) 1) == 1) (
 addOff out1 1 fun p5 =>
 ld1 h p5 fun v11 =>
 addOff out1 1 fun p6 =>
 ld1 h p6 fun v12 =>
 ixS 1 v12 w fun p7 =>
 ld1 h p7 fun v13 =>
 (ld1 h p7 fun v14 =>
 v14 = v13) ∧
 (ld1 h p6 fun v15 =>
 v15 = v12) ∧
 (ld1 h p5 fun v16 =>
 v16 = v11) ∧
 appC 1 16 h v13 (.lsl 1 [(.str v8)]) fun v17 h_7 =>
 (ld1 h_7 p5 fun v18 =>
 v18 = v11) ∧
 ixS 1 v11 w fun p8 =>
 chk (sc v17) (
 st true h_7 p8 [v17] fun h_8 =>
 s62c3 Ψ L1 (s62l2_G (s62l2 Ψ L1 n4)) atoms2 on2 t6_1 out1 w t18_1 t19_1 t20_1 t32 t33 t34 h_8)) (
 s62c3 Ψ L1 (s62l2_G (s62l2 Ψ L1 n4)) atoms2 on2 t6_1 out1 w t18_1 t19_1 t20_1 t32 t33 t34 h)) (
 rg (t20_1 + 1) (
 L1 atoms2 on2 t6_1 out1 t18_1 t19_1 (t20_1 + 1) h))

def s62l1 (Ψ : AVal → Heap → Prop) : Nat → s62l1_T
 | 0, _, _, _, _, _, _, _, _ => False
 | n2 + 1, atoms1, on1, t6, out, t18, t19, t20, h =>
 ifT (decide (t20 < t19)) (
 ixS 1 t18 t20 fun p =>
 ld1 h p fun v1 =>
 addOff out 0 fun p1 =>
 ld1 h p1 fun v2 =>
 callG prog 97 [v1] h fun v3 h_4 =>
 (ld1 h_4 p1 fun v4 =>
 v4 = v2) ∧
 chk (sc v3) (
 (ld1 h_4 p1 fun v5 =>
 v5 = v2) ∧
 appC 1 24 h_4 v2 (.lsl 1 [v3]) fun v6 h_5 =>
 addOff out 0 fun p2 =>
 chk (sc v6) (
 st true h_5 p2 [v6] fun h_6 =>
 lenN atoms1 fun n3 =>
 s62l2_E (s62l2 Ψ (s62l1_G (s62l1 Ψ n2))) atoms1 on1 t6 out t20 t18 t19 t20 atoms1 n3 0 h_6))) (
 ldN 2 h out fun l_ =>
 tCons l_ fun v19 l_1 =>
 tCons l_1 fun v20 l_2 =>
 tNil l_2 (
 st false h t6 [v19, v20] fun h_9 =>
 ldN 2 h_9 t6 fun l_3 =>
 tCons l_3 fun v21 l_4 =>
 tCons l_4 fun v22 l_5 =>
 tNil l_5 (
 retG (.agg [v21, v22]) h_9 Ψ)))

def s62 (Ψ : AVal → Heap → Prop) (m_Up : AVal) (m_Val : AVal) (atoms : AVal) (on : AVal) (h : Heap) : Prop :=
 Sym.newRow 2 [(.agg [.nilsl, .nilsl])] h fun r h_ =>
 lenN m_Up fun n =>
 mkS false 1 24 .nilsl h_ n n fun v h_1 =>
 chk (sc v) (
 Sym.newRow 2 [(.agg [.nilsl, .nilsl])] h_1 fun r1 h_2 =>
 st false h_2 (.ptr r1 0 0) [.nilsl, v] fun h_3 =>
 lenN m_Up fun n1 =>
 s62l1_E (s62l1 Ψ) atoms on (.ptr r 0 0) (.ptr r1 0 0) m_Up n1 0 h_3)

def s62_A (Ψ : AVal → Heap → Prop) : Ann :=
 .seq (.reg [⟨none, [(0, true), (1, false)]⟩])
 (.seq (rA 7)
 (.seq (.seq (rA 4)
 (.block (loopK [1, 2, 6, 7, 18, 19, 20] s62l1_K (s62l1 Ψ) (fun L1 =>
 .seq (rA 1)
 (.seq (.cond (.leaf)
 (.leaf))
 (.seq (.block (.seq (rA 5)
 (.seq (.draw [(0, false), (1, false), (2, false), (3, false), (4, true), (5, false), (6, false), (7, false)] [0, 1, 0, 4, 12, 31, 63, 127])
 (.seq (rA 3)
 (.block (loopK [1, 2, 6, 7, 8, 18, 19, 20, 32, 33, 34] s62l2_K (s62l2 Ψ (LK s62l1_K L1)) (fun L2 =>
 .seq (rA 1)
 (.seq (.cond (.leaf)
 (.leaf))
 (cutK [1, 2, 6, 7, 8, 18, 19, 20, 32, 33, 34] s62c3_K (s62c3 Ψ (LK s62l1_K L1) (LK s62l2_K L2)) (.block (.seq (rA 5)
 (.seq (rA 8)
 (.cond (.draw [(0, false), (1, false), (2, false), (3, false), (4, false), (5, false), (6, false), (7, false), (8, false), (9, true), (10, false), (11, false), (12, false)] [0, 1, 0, 0, 8, 0, 56, 120, 0, 256, 1016, 2047, 4095])
 (.leaf)))))
 (rA 2))))))))))
 (rA 2)))))))
 (.seq (rA 2)
 (.leaf))))

theorem s62_ok {Ψ : AVal → Heap → Prop} {m_Up : AVal} {m_Val : AVal} {atoms : AVal} {on : AVal} {h : Heap} (H : s62 Ψ m_Up m_Val atoms on h) : ACalls prog 62 [(.agg [m_Up, m_Val]), atoms, on] h Ψ :=
 calls_of_evF func62 (by kernel_rfl) (by kernel_rfl) (by kernel_rfl)
 (Eq.mpr (by as_aux_lemma => kernel_rfl : oblF prog f62 (s62_A Ψ) Ψ = ((True) ∧ ((True) ∧ (((True) ∧ ((NK s62l1_K (s62l1 Ψ 0)) ∧ (∀ n1 : Nat, (QK s62l1_K (s62l1 Ψ (n1 + 1))) ∧ ((True) ∧ ((otP 1) ∧ (((True) ∧ ((True) ∧ ((True) ∧ ((NK s62l2_K (s62l2 Ψ (s62l1_G (s62l1 Ψ n1)) 0)) ∧ (∀ n2 : Nat, (QK s62l2_K (s62l2 Ψ (s62l1_G (s62l1 Ψ n1)) (n2 + 1))) ∧ ((True) ∧ ((otP 1) ∧ ((otP 21) ∧ ((QK s62c3_K (s62c3 Ψ (s62l1_G (s62l1 Ψ n1)) (s62l2_G (s62l2 Ψ (s62l1_G (s62l1 Ψ n1)) n2)))) ∧ (True)))))))))) ∧ (True))))))) ∧ (otP 1))))) (⟨trivial, ⟨trivial, ⟨⟨trivial, ⟨fun _ _ _ _ _ _ _ _ H => H, fun _ => ⟨oI, ⟨trivial, ⟨otP_ok 1, ⟨⟨trivial, ⟨trivial, ⟨trivial, ⟨fun _ _ _ _ _ _ _ _ _ _ _ _ H => H, fun _ => ⟨oI, ⟨trivial, ⟨otP_ok 1, ⟨otP_ok 21, ⟨oI, trivial⟩⟩⟩⟩⟩⟩⟩⟩⟩, trivial⟩⟩⟩⟩⟩⟩, otP_ok 1⟩⟩⟩))
 (Eq.mpr (by as_aux_lemma => kernel_rfl : evF prog f62 (s62_A Ψ) Ψ [(.agg [m_Up, m_Val]), atoms, on] h = s62 Ψ m_Up m_Val atoms on h) H)

/- 64 (*dictum/formula.Table).Put -/
def s64 (Ψ : AVal → Heap → Prop) (t : AVal) (n_Kind : Int) (n_Name : ByteArray) (n_L : Int) (n_R : Int) (h : Heap) : Prop :=
 callG prog 98 [t] h fun v h_ =>
 tBool v fun v1 =>
 ifT (!v1) (
 retG (.tuple [(.int .i64 0), (.int .i64 1)]) h_ Ψ) (
 callG prog 99 [t, (.agg [(.int .i64 n_Kind), (.str n_Name), (.int .i64 n_L), (.int .i64 n_R)])] h_ fun v2 h_1 =>
 tInt .i64 v2 fun v3 =>
 ifT (v3 != 0) (
 retG (.tuple [(.int .i64 0), (.int .i64 v3)]) h_1 Ψ) (
 nilCheckA t fun p =>
 addOff p 1 fun p1 =>
 ld1 h_1 p1 fun v4 =>
 mapGet (.int .i64 0) h_1 v4 (.agg [(.int .i64 n_Kind), (.str n_Name), (.int .i64 n_L), (.int .i64 n_R)]) fun v5 b =>
 tInt .i64 v5 fun v6 =>
 ifT b (
 retG (.tuple [(.int .i64 v6), (.int .i64 0)]) h_1 Ψ) (
 nilCheckA t fun p2 =>
 addOff p2 0 fun p3 =>
 ld1 h_1 p3 fun v7 =>
 lenN v7 fun n =>
 ifT (decide (1024 ≤ n)) (
 retG (.tuple [(.int .i64 0), (.int .i64 30)]) h_1 Ψ) (
 nilCheckA t fun p4 =>
 addOff p4 0 fun p5 =>
 ld1 h_1 p5 fun v8 =>
 (ld1 h_1 p5 fun v9 =>
 v9 = v8) ∧
 appC 4 40 h_1 v8 (.lsl 4 [(.agg [(.int .i64 n_Kind), (.str n_Name), (.int .i64 n_L), (.int .i64 n_R)])]) fun v10 h_2 =>
 nilCheckA t fun p6 =>
 addOff p6 0 fun p7 =>
 chk (sc v10) (
 st true h_2 p7 [v10] fun h_3 =>
 nilCheckA t fun p8 =>
 addOff p8 1 fun p9 =>
 ld1 h_3 p9 fun v11 =>
 mapPut h_3 v11 (.agg [(.int .i64 n_Kind), (.str n_Name), (.int .i64 n_L), (.int .i64 n_R)]) (.int .i64 n) fun h_4 =>
 retG (.tuple [(.int .i64 n), (.int .i64 0)]) h_4 Ψ)))))

def s64_A (Ψ : AVal → Heap → Prop) : Ann :=
 .seq (.reg [⟨none, [(0, true), (1, false), (2, false)]⟩])
 (.seq (.seq (rA 3)
 (.cond (.seq (rA 2)
 (.leaf))
 (.leaf)))
 (.seq (.seq (rA 4)
 (.seq (rA 2)
 (.cond (.seq (rA 3)
 (.leaf))
 (.leaf))))
 (.seq (.seq (.draw [(0, false), (1, false), (2, false), (3, false), (4, false), (5, false), (6, false), (7, false), (8, false), (9, false), (10, false)] [0, 1, 3, 7, 0, 31, 63, 127, 127, 255, 1023])
 (.seq (rA 1)
 (.cond (.seq (rA 3)
 (.leaf))
 (.leaf))))
 (.seq (rA 6)
 (.seq (.seq (rA 2)
 (.cond (.seq (rA 2)
 (.leaf))
 (.leaf)))
 (.seq (.draw [(0, false), (1, false), (2, false), (3, false), (4, false), (5, false), (6, true), (7, false), (8, false), (9, false), (10, false)] [0, 0, 2, 6, 14, 0, 32, 126, 255, 511, 1023])
 (.seq (.draw [(0, false), (1, false), (2, false), (3, false), (4, false), (5, false), (6, false)] [0, 1, 3, 7, 0, 0, 63])
 (.seq (rA 3)
 (.leaf)))))))))

theorem s64_ok {Ψ : AVal → Heap → Prop} {t : AVal} {n_Kind : Int} {n_Name : ByteArray} {n_L : Int} {n_R : Int} {h : Heap} (H : s64 Ψ t n_Kind n_Name n_L n_R h) : ACalls prog 64 [t, (.agg [(.int .i64 n_Kind), (.str n_Name), (.int .i64 n_L), (.int .i64 n_R)])] h Ψ :=
 calls_of_evF func64 (by kernel_rfl) (by kernel_rfl) (by kernel_rfl)
 (Eq.mpr (by as_aux_lemma => kernel_rfl : oblF prog f64 (s64_A Ψ) Ψ = (otP 23206894349421)) (otP_ok 23206894349421))
 (Eq.mpr (by as_aux_lemma => kernel_rfl : evF prog f64 (s64_A Ψ) Ψ [t, (.agg [(.int .i64 n_Kind), (.str n_Name), (.int .i64 n_L), (.int .i64 n_R)])] h = s64 Ψ t n_Kind n_Name n_L n_R h) H)

/- 66 dictum/force.has -/
def s66 (Ψ : AVal → Heap → Prop) (t : AVal) (id_ : Int) (h : Heap) : Prop :=
 callG prog 86 [t, (.int .i64 id_)] h fun v h_ =>
 tTup v fun l_ =>
 tCons l_ fun v1 l_1 =>
 tCons l_1 fun v2 l_2 =>
 tBool v2 fun v3 =>
 tNil l_2 (
 tAgg v1 fun l_3 =>
 tCons l_3 fun v4 l_4 =>
 tInt .i64 v4 fun v5 =>
 tCons l_4 fun v6 l_5 =>
 tStr v6 fun v7 =>
 tCons l_5 fun v8 l_6 =>
 tInt .i64 v8 fun v9 =>
 tCons l_6 fun v10 l_7 =>
 tInt .i64 v10 fun v11 =>
 tNil l_7 (
 Sym.newRow 4 [(.agg [(.int .i64 0), (.str (ByteArray.mk #[])), (.int .i64 0), (.int .i64 0)])] h_ fun r h_1 =>
 st false h_1 (.ptr r 0 0) [(.int .i64 v5), (.str v7), (.int .i64 v9), (.int .i64 v11)] fun h_2 =>
 retG (.bool v3) h_2 Ψ))

def s66_A (Ψ : AVal → Heap → Prop) : Ann :=
 .seq (rA 1)
 (.seq (rA 9)
 (.seq (rA 2)
 (.leaf)))

theorem s66_ok {Ψ : AVal → Heap → Prop} {t : AVal} {id_ : Int} {h : Heap} (H : s66 Ψ t id_ h) : ACalls prog 66 [t, (.int .i64 id_)] h Ψ :=
 calls_of_evF func66 (by kernel_rfl) (by kernel_rfl) (by kernel_rfl)
 (Eq.mpr (by as_aux_lemma => kernel_rfl : oblF prog f66 (s66_A Ψ) Ψ = (otP 21)) (otP_ok 21))
 (Eq.mpr (by as_aux_lemma => kernel_rfl : evF prog f66 (s66_A Ψ) Ψ [t, (.int .i64 id_)] h = s66 Ψ t id_ h) H)

/- 68 dictum/bits.Of -/
abbrev s68l1_T := AVal → AVal → AVal → Int → Int → Heap → Prop
abbrev s68l1_K : List Kd := [.any, .any, .any, .int .i64, .int .i64]
def s68l1_G (F : s68l1_T) : s68l1_T := GK s68l1_K F
def s68l1_E (F : Nat → s68l1_T) : s68l1_T := EK s68l1_K F
theorem s68l1_go {F : s68l1_T} {x0 x1 x2 : AVal} {x3 x4 : Int} {h : Heap} (H : F x0 x1 x2 x3 x4 h) : s68l1_G F x0 x1 x2 x3 x4 h := gJ_plain rfl H
theorem s68l1_in {F : Nat → s68l1_T} {x0 x1 x2 : AVal} {x3 x4 : Int} {h : Heap} (n : Nat) (H : F n x0 x1 x2 x3 x4 h) : s68l1_E F x0 x1 x2 x3 x4 h := gJ_plain rfl ⟨n, H⟩

def s68l1 (Ψ : AVal → Heap → Prop) : Nat → s68l1_T
 | 0, _, _, _, _, _, _ => False
 | n1 + 1, t2, b, t7, t8, t9, h =>
 ifT (decide (t9 < t8)) (
 ixS 1 t7 t9 fun p =>
 ld1 h p fun v =>
 tInt .i64 v fun v1 =>
 callG prog 100 [(.int .i64 v1)] h fun v2 h_2 =>
 tBool v2 fun v3 =>
 ifT (!v3) (
 st false h_2 t2 [(.int .u64 0), (.int .u64 0), (.int .u64 0), (.int .u64 0), (.int .u64 0), (.int .u64 0), (.int .u64 0), (.int .u64 0), (.int .u64 0), (.int .u64 0), (.int .u64 0), (.int .u64 0), (.int .u64 0), (.int .u64 0), (.int .u64 0), (.int .u64 0)] fun h_3 =>
 ldN 16 h_3 t2 fun l_1 =>
 retG (.tuple [(.agg l_1), (.int .i64 50)]) h_3 Ψ) (
 64 ≠ (0 : Int) ∧
 rg (Int.tdiv v1 64) (
 ixP 16 1 b (Int.tdiv v1 64) fun p1 =>
 ld1 h_2 p1 fun v4 =>
 tInt .u64 v4 fun v5 =>
 64 ≠ (0 : Int) ∧
 (0 : Int) ≤ (Int.tmod v1 64) ∧
 ixP 16 1 b (Int.tdiv v1 64) fun p2 =>
 st true h_2 p2 [(.int .u64 (bitsI .or .u64 v5 (IntKind.u64.wrap (1 * 2 ^ (min (Int.toNat (Int.tmod v1 64)) (IntKind.u64.bits))))))] fun h_4 =>
 rg (t9 + 1) (
 s68l1_G (s68l1 Ψ n1) t2 b t7 t8 (t9 + 1) h_4)))) (
 ldN 16 h b fun l_2 =>
 aggN 16 (.agg l_2) fun cs =>
 st false h t2 cs fun h_5 =>
 ldN 16 h_5 t2 fun l_3 =>
 retG (.tuple [(.agg l_3), (.int .i64 0)]) h_5 Ψ)

def s68 (Ψ : AVal → Heap → Prop) (l_ : AVal) (h : Heap) : Prop :=
 Sym.newRow 16 [(.agg [(.int .u64 0), (.int .u64 0), (.int .u64 0), (.int .u64 0), (.int .u64 0), (.int .u64 0), (.int .u64 0), (.int .u64 0), (.int .u64 0), (.int .u64 0), (.int .u64 0), (.int .u64 0), (.int .u64 0), (.int .u64 0), (.int .u64 0), (.int .u64 0)])] h fun r h_ =>
 Sym.newRow 16 [(.agg [(.int .u64 0), (.int .u64 0), (.int .u64 0), (.int .u64 0), (.int .u64 0), (.int .u64 0), (.int .u64 0), (.int .u64 0), (.int .u64 0), (.int .u64 0), (.int .u64 0), (.int .u64 0), (.int .u64 0), (.int .u64 0), (.int .u64 0), (.int .u64 0)])] h_ fun r1 h_1 =>
 lenN l_ fun n =>
 s68l1_E (s68l1 Ψ) (.ptr r 0 0) (.ptr r1 0 0) l_ n 0 h_1

def s68_A (Ψ : AVal → Heap → Prop) : Ann :=
 .seq (rA 2)
 (.seq (rA 1)
 (.seq (.seq (rA 3)
 (.block (loopK [2, 4, 7, 8, 9] s68l1_K (s68l1 Ψ) (fun L1 =>
 .seq (rA 1)
 (.seq (.cond (.leaf)
 (.leaf))
 (.seq (.block (.seq (rA 3)
 (.seq (.seq (rA 3)
 (.cond (.seq (rA 3)
 (.leaf))
 (.leaf)))
 (.draw [(0, false), (1, false), (2, false), (3, false), (4, false), (5, false), (6, false), (7, false), (8, false), (9, false)] [0, 1, 3, 7, 0, 16, 48, 127, 255, 511]))))
 (rA 2)))))))
 (.seq (rA 3)
 (.leaf))))

theorem s68_ok {Ψ : AVal → Heap → Prop} {l_ : AVal} {h : Heap} (H : s68 Ψ l_ h) : ACalls prog 68 [l_] h Ψ :=
 calls_of_evF func68 (by kernel_rfl) (by kernel_rfl) (by kernel_rfl)
 (Eq.mpr (by as_aux_lemma => kernel_rfl : oblF prog f68 (s68_A Ψ) Ψ = ((True) ∧ ((True) ∧ (((True) ∧ ((NK s68l1_K (s68l1 Ψ 0)) ∧ (∀ n1 : Nat, (QK s68l1_K (s68l1 Ψ (n1 + 1))) ∧ (otP 14029)))) ∧ (otP 1))))) (⟨trivial, ⟨trivial, ⟨⟨trivial, ⟨fun _ _ _ _ _ _ H => H, fun _ => ⟨oI, otP_ok 14029⟩⟩⟩, otP_ok 1⟩⟩⟩))
 (Eq.mpr (by as_aux_lemma => kernel_rfl : evF prog f68 (s68_A Ψ) Ψ [l_] h = s68 Ψ l_ h) H)

/- 70 dictum/worlds.asked -/
abbrev s70l1_T := AVal → AVal → AVal → Int → Int → Heap → Prop
abbrev s70l1_K : List Kd := [.any, .any, .any, .int .i64, .int .i64]
def s70l1_G (F : s70l1_T) : s70l1_T := GK s70l1_K F
def s70l1_E (F : Nat → s70l1_T) : s70l1_T := EK s70l1_K F
theorem s70l1_go {F : s70l1_T} {x0 x1 x2 : AVal} {x3 x4 : Int} {h : Heap} (H : F x0 x1 x2 x3 x4 h) : s70l1_G F x0 x1 x2 x3 x4 h := gJ_plain rfl H
theorem s70l1_in {F : Nat → s70l1_T} {x0 x1 x2 : AVal} {x3 x4 : Int} {h : Heap} (n : Nat) (H : F n x0 x1 x2 x3 x4 h) : s70l1_E F x0 x1 x2 x3 x4 h := gJ_plain rfl ⟨n, H⟩

abbrev s70c2_K : List Kd := [.any, .any, .any, .int .i64, .int .i64, .bool]
def s70c2 (Ψ : AVal → Heap → Prop) (L1 : s70l1_T) (m1 leq1 t17_1 : AVal) (t18_1 t19_1 : Int) (t31 : Bool) (h : Heap) : Prop :=
 ifT t31 (
 retG (.tuple [.nilfunc, (.int .i64 2)]) h Ψ) (
 rg (t19_1 + 1) (
 L1 m1 leq1 t17_1 t18_1 (t19_1 + 1) h))

def s70l1 (Ψ : AVal → Heap → Prop) : Nat → s70l1_T
 | 0, _, _, _, _, _, _ => False
 | n1 + 1, m, leq, t17, t18, t19, h =>
 ifT (decide (t19 < t18)) (
 ixS 1 t17 t19 fun p =>
 ld1 h p fun v4 =>
 tInt .i64 v4 fun v5 =>
 ifT (decide (v5 < 0)) (
 s70c2 Ψ (s70l1_G (s70l1 Ψ n1)) m leq t17 t18 t19 true h) (
 addOff m 0 fun p1 =>
 ld1 h p1 fun v6 =>
 lenN v6 fun n2 =>
 s70c2 Ψ (s70l1_G (s70l1 Ψ n1)) m leq t17 t18 t19 (decide (n2 ≤ v5)) h)) (
 retG (.tuple [leq, (.int .i64 0)]) h Ψ)

def s70 (Ψ : AVal → Heap → Prop) (m_Up : AVal) (m_Val : AVal) (worlds : AVal) (h : Heap) : Prop :=
 callG prog 103 [(.agg [m_Up, m_Val])] h fun v h_ =>
 tTup v fun l_ =>
 tCons l_ fun v1 l_1 =>
 tCons l_1 fun v2 l_2 =>
 tBool v2 fun v3 =>
 tNil l_2 (
 ifT (!v3) (
 retG (.tuple [.nilfunc, (.int .i64 170)]) h_ Ψ) (
 lenN worlds fun n =>
 s70l1_E (s70l1 Ψ) (.lptr [m_Up, m_Val]) v1 worlds n 0 h_))

def s70_A (Ψ : AVal → Heap → Prop) : Ann :=
 .seq (.reg [⟨none, [(0, true), (1, false), (2, false)]⟩])
 (.seq (rA 7)
 (.seq (.seq (rA 2)
 (.cond (.seq (rA 2)
 (.leaf))
 (.leaf)))
 (.seq (.seq (rA 3)
 (.block (loopK [2, 6, 17, 18, 19] s70l1_K (s70l1 Ψ) (fun L1 =>
 .seq (rA 1)
 (.seq (.cond (.leaf)
 (.leaf))
 (.seq (.block (.seq (rA 3)
 (cutK [2, 6, 17, 18, 19, 31] s70c2_K (s70c2 Ψ (LK s70l1_K L1)) (.reg [⟨none, [(0, false), (1, false), (2, false)]⟩, ⟨some (25, false), [(3, false), (4, false), (5, false), (6, false), (7, false)]⟩, ⟨none, [(8, false)]⟩])
 (.cond (.seq (rA 2)
 (.leaf))
 (.leaf)))))
 (rA 2)))))))
 (.seq (rA 3)
 (.leaf)))))

theorem s70_ok {Ψ : AVal → Heap → Prop} {m_Up : AVal} {m_Val : AVal} {worlds : AVal} {h : Heap} (H : s70 Ψ m_Up m_Val worlds h) : ACalls prog 70 [(.agg [m_Up, m_Val]), worlds] h Ψ :=
 calls_of_evF func70 (by kernel_rfl) (by kernel_rfl) (by kernel_rfl)
 (Eq.mpr (by as_aux_lemma => kernel_rfl : oblF prog f70 (s70_A Ψ) Ψ = ((True) ∧ ((True) ∧ ((otP 13) ∧ (((True) ∧ ((NK s70l1_K (s70l1 Ψ 0)) ∧ (∀ n1 : Nat, (QK s70l1_K (s70l1 Ψ (n1 + 1))) ∧ ((True) ∧ ((otP 1) ∧ (((True) ∧ ((True) ∧ ((QK s70c2_K (s70c2 Ψ (s70l1_G (s70l1 Ψ n1)))) ∧ (otP 3)))) ∧ (True))))))) ∧ (otP 1)))))) (⟨trivial, ⟨trivial, ⟨otP_ok 13, ⟨⟨trivial, ⟨fun _ _ _ _ _ _ H => H, fun _ => ⟨oI, ⟨trivial, ⟨otP_ok 1, ⟨⟨trivial, ⟨trivial, ⟨oI, otP_ok 3⟩⟩⟩, trivial⟩⟩⟩⟩⟩⟩, otP_ok 1⟩⟩⟩⟩))
 (Eq.mpr (by as_aux_lemma => kernel_rfl : evF prog f70 (s70_A Ψ) Ψ [(.agg [m_Up, m_Val]), worlds] h = s70 Ψ m_Up m_Val worlds h) H)

/- 80 dictum/dictumref03.From -/
abbrev s80l1_T := AVal → AVal → Int → Heap → Prop
abbrev s80l1_K : List Kd := [.any, .any, .int .i64]
def s80l1_G (F : s80l1_T) : s80l1_T := GK s80l1_K F
def s80l1_E (F : Nat → s80l1_T) : s80l1_T := EK s80l1_K F
theorem s80l1_go {F : s80l1_T} {x0 x1 : AVal} {x2 : Int} {h : Heap} (H : F x0 x1 x2 h) : s80l1_G F x0 x1 x2 h := gJ_plain rfl H
theorem s80l1_in {F : Nat → s80l1_T} {x0 x1 : AVal} {x2 : Int} {h : Heap} (n : Nat) (H : F n x0 x1 x2 h) : s80l1_E F x0 x1 x2 h := gJ_plain rfl ⟨n, H⟩

def s80l1 (Ψ : AVal → Heap → Prop) : Nat → s80l1_T
 | 0, _, _, _, _ => False
 | n + 1, rows1, t, i, h =>
 lenN rows1 fun n1 =>
 ifT (decide (i < n1)) (
 ixS 4 rows1 i fun p =>
 ldN 4 h p fun l_ =>
 tCons l_ fun v l_1 =>
 tInt .i64 v fun v1 =>
 tCons l_1 fun v2 l_2 =>
 tStr v2 fun v3 =>
 tCons l_2 fun v4 l_3 =>
 tInt .i64 v4 fun v5 =>
 tCons l_3 fun v6 l_4 =>
 tInt .i64 v6 fun v7 =>
 tNil l_4 (
 callG prog 117 [t, (.agg [(.int .i64 v1), (.str v3), (.int .i64 v5), (.int .i64 v7)])] h fun v8 h_1 =>
 tTup v8 fun l_5 =>
 tCons l_5 fun v9 l_6 =>
 tInt .i64 v9 fun v10 =>
 tCons l_6 fun v11 l_7 =>
 tInt .i64 v11 fun v12 =>
 tNil l_7 (
 ifT (v12 != 0) (
 retG (.tuple [.nilptr, (.int .i64 v12)]) h_1 Ψ) (
 ifT (v10 != i) (
 retG (.tuple [.nilptr, (.int .i64 31)]) h_1 Ψ) (
 rg (i + 1) (
 s80l1_G (s80l1 Ψ n) rows1 t (i + 1) h_1)))))) (
 retG (.tuple [t, (.int .i64 0)]) h Ψ)

def s80 (Ψ : AVal → Heap → Prop) (rows : AVal) (h : Heap) : Prop :=
 Sym.newRow 1 [(.agg [.nilsl])] h fun r h_ =>
 s80l1_E (s80l1 Ψ) rows (.ptr r 0 0) 0 h_

def s80_A (Ψ : AVal → Heap → Prop) : Ann :=
 .seq (rA 2)
 (.seq (rA 3)
 (.seq (.seq (rA 1)
 (.block (loopK [0, 4, 5] s80l1_K (s80l1 Ψ) (fun L1 =>
 .seq (.seq (rA 4)
 (.cond (.leaf)
 (.leaf)))
 (.seq (.block (.seq (rA 11)
 (.seq (.seq (rA 2)
 (.cond (.seq (rA 3)
 (.leaf))
 (.leaf)))
 (.seq (rA 3)
 (.cond (.seq (rA 2)
 (.leaf))
 (.leaf))))))
 (rA 3))))))
 (.seq (rA 3)
 (.leaf))))

theorem s80_ok {Ψ : AVal → Heap → Prop} {rows : AVal} {h : Heap} (H : s80 Ψ rows h) : ACalls prog 80 [rows] h Ψ :=
 calls_of_evF func80 (by kernel_rfl) (by kernel_rfl) (by kernel_rfl)
 (Eq.mpr (by as_aux_lemma => kernel_rfl : oblF prog f80 (s80_A Ψ) Ψ = ((True) ∧ ((True) ∧ (((True) ∧ ((NK s80l1_K (s80l1 Ψ 0)) ∧ (∀ n1 : Nat, (QK s80l1_K (s80l1 Ψ (n1 + 1))) ∧ (otP 1717963)))) ∧ (otP 1))))) (⟨trivial, ⟨trivial, ⟨⟨trivial, ⟨fun _ _ _ _ H => H, fun _ => ⟨oI, otP_ok 1717963⟩⟩⟩, otP_ok 1⟩⟩⟩))
 (Eq.mpr (by as_aux_lemma => kernel_rfl : evF prog f80 (s80_A Ψ) Ψ [rows] h = s80 Ψ rows h) H)

/- 82 dictum/force.order -/
abbrev s82l1_T := AVal → AVal → Int → Int → Heap → Prop
abbrev s82l1_K : List Kd := [.any, .any, .int .i64, .int .i64]
def s82l1_G (F : s82l1_T) : s82l1_T := GK s82l1_K F
def s82l1_E (F : Nat → s82l1_T) : s82l1_T := EK s82l1_K F
theorem s82l1_in {F : Nat → s82l1_T} {x0 x1 : AVal} {x2 x3 : Int} {h : Heap} (n : Nat) (H : F n x0 x1 x2 x3 h) : s82l1_E F x0 x1 x2 x3 h := gJ_plain rfl ⟨n, H⟩

abbrev s82l2_T := AVal → AVal → Int → AVal → AVal → Int → Int → Heap → Prop
abbrev s82l2_K : List Kd := [.any, .any, .int .i64, .any, .any, .int .i64, .int .i64]
def s82l2_G (F : s82l2_T) : s82l2_T := GK s82l2_K F
def s82l2_E (F : Nat → s82l2_T) : s82l2_T := EK s82l2_K F
theorem s82l2_go {F : s82l2_T} {x0 x1 : AVal} {x2 : Int} {x3 x4 : AVal} {x5 x6 : Int} {h : Heap} (H : F x0 x1 x2 x3 x4 x5 x6 h) : s82l2_G F x0 x1 x2 x3 x4 x5 x6 h := gJ_plain rfl H
theorem s82l2_in {F : Nat → s82l2_T} {x0 x1 : AVal} {x2 : Int} {x3 x4 : AVal} {x5 x6 : Int} {h : Heap} (n : Nat) (H : F n x0 x1 x2 x3 x4 x5 x6 h) : s82l2_E F x0 x1 x2 x3 x4 x5 x6 h := gJ_plain rfl ⟨n, H⟩

abbrev s82l3_T := AVal → AVal → Int → AVal → AVal → Int → Int → AVal → Int → Int → Heap → Prop
abbrev s82l3_K : List Kd := [.any, .any, .int .i64, .any, .any, .int .i64, .int .i64, .any, .int .i64, .int .i64]
def s82l3_G (F : s82l3_T) : s82l3_T := GK s82l3_K F
def s82l3_E (F : Nat → s82l3_T) : s82l3_T := EK s82l3_K F
theorem s82l3_go {F : s82l3_T} {x0 x1 : AVal} {x2 : Int} {x3 x4 : AVal} {x5 x6 : Int} {x7 : AVal} {x8 x9 : Int} {h : Heap} (H : F x0 x1 x2 x3 x4 x5 x6 x7 x8 x9 h) : s82l3_G F x0 x1 x2 x3 x4 x5 x6 x7 x8 x9 h := gJ_plain rfl H
theorem s82l3_in {F : Nat → s82l3_T} {x0 x1 : AVal} {x2 : Int} {x3 x4 : AVal} {x5 x6 : Int} {x7 : AVal} {x8 x9 : Int} {h : Heap} (n : Nat) (H : F n x0 x1 x2 x3 x4 x5 x6 x7 x8 x9 h) : s82l3_E F x0 x1 x2 x3 x4 x5 x6 x7 x8 x9 h := gJ_plain rfl ⟨n, H⟩

abbrev s82c4_K : List Kd := [.any, .any, .int .i64, .any, .any, .int .i64, .int .i64, .any, .int .i64, .int .i64]
def s82c4 (Ψ : AVal → Heap → Prop) (L1 : s82l1_T) (L2 : s82l2_T) (L3 : s82l3_T) (m3 out3 : AVal) (w2 : Int) (in_2 wait2 : AVal) (t16_3 t17_3 : Int) (t36_1 : AVal) (t37_1 t38_1 : Int) (h : Heap) : Prop :=
 rg (t38_1 + 1) (
 L3 m3 out3 w2 in_2 wait2 t16_3 t17_3 t36_1 t37_1 (t38_1 + 1) h)

def s82l3 (Ψ : AVal → Heap → Prop) (L1 : s82l1_T) (L2 : s82l2_T) : Nat → s82l3_T
 | 0, _, _, _, _, _, _, _, _, _, _, _ => False
 | n6 + 1, m2, out2, w1, in_1, wait1, t16_2, t17_2, t36, t37, t38, h =>
 ifT (decide (t38 < t37)) (
 ixS 1 t36 t38 fun p3 =>
 ld1 h p3 fun v5 =>
 tInt .i64 v5 fun v6 =>
 mapGet (.int .i64 0) h in_1 (.int .i64 v6) fun v7 b =>
 tInt .i64 v7 fun v8 =>
 ifT (v8 == 0) (
 mapGet (.int .i64 0) h in_1 (.int .i64 v6) fun v9 b1 =>
 tInt .i64 v9 fun v10 =>
 rg (v10 + 1) (
 mapPut h in_1 (.int .i64 v6) (.int .i64 (v10 + 1)) fun h_4 =>
 appC 1 8 h_4 wait1 (.lsl 1 [(.int .i64 v6)]) fun v11 h_5 =>
 s82c4 Ψ L1 L2 (s82l3_G (s82l3 Ψ L1 L2 n6)) m2 out2 w1 in_1 v11 t16_2 t17_2 t36 t37 t38 h_5)) (
 s82c4 Ψ L1 L2 (s82l3_G (s82l3 Ψ L1 L2 n6)) m2 out2 w1 in_1 wait1 t16_2 t17_2 t36 t37 t38 h)) (
 slX 1 wait1 1 none fun v12 =>
 L2 m2 out2 w1 in_1 v12 t16_2 t17_2 h)

abbrev s82l5_T := AVal → AVal → Int → AVal → Int → Int → Int → Int → Heap → Prop
abbrev s82l5_K : List Kd := [.any, .any, .int .i64, .any, .int .i64, .int .i64, .int .i64, .int .i64]
def s82l5_G (F : s82l5_T) : s82l5_T := GK s82l5_K F
def s82l5_E (F : Nat → s82l5_T) : s82l5_T := EK s82l5_K F
theorem s82l5_go {F : s82l5_T} {x0 x1 : AVal} {x2 : Int} {x3 : AVal} {x4 x5 x6 x7 : Int} {h : Heap} (H : F x0 x1 x2 x3 x4 x5 x6 x7 h) : s82l5_G F x0 x1 x2 x3 x4 x5 x6 x7 h := gJ_plain rfl H
theorem s82l5_in {F : Nat → s82l5_T} {x0 x1 : AVal} {x2 : Int} {x3 : AVal} {x4 x5 x6 x7 : Int} {h : Heap} (n : Nat) (H : F n x0 x1 x2 x3 x4 x5 x6 x7 h) : s82l5_E F x0 x1 x2 x3 x4 x5 x6 x7 h := gJ_plain rfl ⟨n, H⟩

abbrev s82c6_K : List Kd := [.any, .any, .int .i64, .any, .int .i64, .int .i64, .int .i64, .int .i64]
def s82c6 (Ψ : AVal → Heap → Prop) (L1 : s82l1_T) (L5 : s82l5_T) (m5 out5 : AVal) (w4 : Int) (in_4 : AVal) (t16_5 t17_5 t57_1 t58_1 : Int) (h : Heap) : Prop :=
 rg (t58_1 + 1) (
 L5 m5 out5 w4 in_4 t16_5 t17_5 t57_1 (t58_1 + 1) h)

def s82l5 (Ψ : AVal → Heap → Prop) (L1 : s82l1_T) : Nat → s82l5_T
 | 0, _, _, _, _, _, _, _, _, _ => False
 | n9 + 1, m4, out4, w3, in_3, t16_4, t17_4, t57, t58, h =>
 ifT (decide (t58 < t57)) (
 mapGet (.int .i64 0) h in_3 (.int .i64 t58) fun v14 b2 =>
 tInt .i64 v14 fun v15 =>
 ifT (decide (0 < v15)) (
 ixS 1 out4 w3 fun p5 =>
 ld1 h p5 fun v16 =>
 appC 1 8 h v16 (.lsl 1 [(.int .i64 t58)]) fun v17 h_6 =>
 ixS 1 out4 w3 fun p6 =>
 chk (sc v17) (
 st true h_6 p6 [v17] fun h_7 =>
 s82c6 Ψ L1 (s82l5_G (s82l5 Ψ L1 n9)) m4 out4 w3 in_3 t16_4 t17_4 t57 t58 h_7)) (
 s82c6 Ψ L1 (s82l5_G (s82l5 Ψ L1 n9)) m4 out4 w3 in_3 t16_4 t17_4 t57 t58 h)) (
 rg (t17_4 + 1) (
 L1 m4 out4 t16_4 (t17_4 + 1) h))

def s82l2 (Ψ : AVal → Heap → Prop) (L1 : s82l1_T) : Nat → s82l2_T
 | 0, _, _, _, _, _, _, _, _ => False
 | n3 + 1, m1, out1, w, in_, wait, t16_1, t17_1, h =>
 lenN wait fun n4 =>
 ifT (decide (0 < n4)) (
 addOff m1 0 fun p =>
 ld1 h p fun v1 =>
 ixS 1 wait 0 fun p1 =>
 ld1 h p1 fun v2 =>
 tInt .i64 v2 fun v3 =>
 ixS 1 v1 v3 fun p2 =>
 ld1 h p2 fun v4 =>
 lenN v4 fun n5 =>
 s82l3_E (s82l3 Ψ L1 (s82l2_G (s82l2 Ψ L1 n3))) m1 out1 w in_ wait t16_1 t17_1 v4 n5 0 h) (
 addOff m1 0 fun p4 =>
 ld1 h p4 fun v13 =>
 lenN v13 fun n8 =>
 s82l5_E (s82l5 Ψ L1) m1 out1 w in_ t16_1 t17_1 n8 0 h)

def s82l1 (Ψ : AVal → Heap → Prop) : Nat → s82l1_T
 | 0, _, _, _, _, _ => False
 | n2 + 1, m, out, t16, t17, h =>
 ifT (decide (t17 < t16)) (
 newMap h fun r h_1 =>
 mapPut h_1 (.mapr r) (.int .i64 t17) (.int .i64 1) fun h_2 =>
 Sym.newRow 1 [(.int .i64 t17)] h_2 fun r1 h_3 =>
 s82l2_E (s82l2 Ψ (s82l1_G (s82l1 Ψ n2))) m out t17 (.mapr r) (.sl r1 1 0 1) t16 t17 h_3) (
 retG out h Ψ)

def s82 (Ψ : AVal → Heap → Prop) (m_Up : AVal) (m_Val : AVal) (h : Heap) : Prop :=
 lenN m_Up fun n =>
 mkS false 1 24 .nilsl h n n fun v h_ =>
 lenN m_Up fun n1 =>
 s82l1_E (s82l1 Ψ) (.lptr [m_Up, m_Val]) v n1 0 h_

def s82_A (Ψ : AVal → Heap → Prop) : Ann :=
 .seq (.reg [⟨none, [(0, true), (1, false)]⟩])
 (.seq (rA 5)
 (.seq (.seq (rA 4)
 (.block (loopK [1, 3, 16, 17] s82l1_K (s82l1 Ψ) (fun L1 =>
 .seq (rA 1)
 (.seq (.cond (.leaf)
 (.leaf))
 (.seq (.block (.seq (rA 2)
 (.seq (rA 5)
 (.seq (.seq (rA 3)
 (.block (loopK [1, 3, 4, 5, 6, 16, 17] s82l2_K (s82l2 Ψ (LK s82l1_K L1)) (fun L2 =>
 .seq (.seq (rA 3)
 (.cond (.leaf)
 (.leaf)))
 (.seq (.block (.seq (.draw [(0, false), (1, false), (2, false), (3, false), (4, false), (5, false), (6, false), (7, false), (8, false)] [0, 1, 0, 4, 12, 31, 63, 127, 0])
 (.block (loopK [1, 3, 4, 5, 6, 16, 17, 36, 37, 38] s82l3_K (s82l3 Ψ (LK s82l1_K L1) (LK s82l2_K L2)) (fun L3 =>
 .seq (rA 1)
 (.seq (.cond (.leaf)
 (.leaf))
 (cutK [1, 3, 4, 5, 6, 16, 17, 36, 37, 38] s82c4_K (s82c4 Ψ (LK s82l1_K L1) (LK s82l2_K L2) (LK s82l3_K L3)) (.block (.seq (rA 3)
 (.seq (rA 4)
 (.cond (.seq (rA 5)
 (.reg [⟨none, [(0, false), (1, false), (2, true), (3, false), (4, false)]⟩]))
 (.leaf)))))
 (rA 2))))))))
 (rA 3))))))
 (.seq (rA 4)
 (.block (loopK [1, 3, 4, 5, 16, 17, 57, 58] s82l5_K (s82l5 Ψ (LK s82l1_K L1)) (fun L5 =>
 .seq (rA 1)
 (.seq (.cond (.leaf)
 (.leaf))
 (cutK [1, 3, 4, 5, 16, 17, 57, 58] s82c6_K (s82c6 Ψ (LK s82l1_K L1) (LK s82l5_K L5)) (.block (.seq (rA 2)
 (.seq (rA 4)
 (.cond (.reg [⟨none, [(0, false), (1, false), (2, false), (3, false), (4, false), (5, false), (6, false), (7, true), (8, false), (9, false), (10, false)]⟩])
 (.leaf)))))
 (rA 2)))))))))))
 (rA 2)))))))
 (.seq (rA 2)
 (.leaf))))

theorem s82_ok {Ψ : AVal → Heap → Prop} {m_Up : AVal} {m_Val : AVal} {h : Heap} (H : s82 Ψ m_Up m_Val h) : ACalls prog 82 [(.agg [m_Up, m_Val])] h Ψ :=
 calls_of_evF func82 (by kernel_rfl) (by kernel_rfl) (by kernel_rfl)
 (Eq.mpr (by as_aux_lemma => kernel_rfl : oblF prog f82 (s82_A Ψ) Ψ = ((True) ∧ ((True) ∧ (((True) ∧ ((NK s82l1_K (s82l1 Ψ 0)) ∧ (∀ n1 : Nat, (QK s82l1_K (s82l1 Ψ (n1 + 1))) ∧ ((True) ∧ ((otP 1) ∧ (((True) ∧ ((True) ∧ (((True) ∧ ((NK s82l2_K (s82l2 Ψ (s82l1_G (s82l1 Ψ n1)) 0)) ∧ (∀ n2 : Nat, (QK s82l2_K (s82l2 Ψ (s82l1_G (s82l1 Ψ n1)) (n2 + 1))) ∧ ((otP 5) ∧ (((True) ∧ ((NK s82l3_K (s82l3 Ψ (s82l1_G (s82l1 Ψ n1)) (s82l2_G (s82l2 Ψ (s82l1_G (s82l1 Ψ n1)) n2)) 0)) ∧ (∀ n3 : Nat, (QK s82l3_K (s82l3 Ψ (s82l1_G (s82l1 Ψ n1)) (s82l2_G (s82l2 Ψ (s82l1_G (s82l1 Ψ n1)) n2)) (n3 + 1))) ∧ ((True) ∧ ((otP 1) ∧ ((otP 53) ∧ ((QK s82c4_K (s82c4 Ψ (s82l1_G (s82l1 Ψ n1)) (s82l2_G (s82l2 Ψ (s82l1_G (s82l1 Ψ n1)) n2)) (s82l3_G (s82l3 Ψ (s82l1_G (s82l1 Ψ n1)) (s82l2_G (s82l2 Ψ (s82l1_G (s82l1 Ψ n1)) n2)) n3)))) ∧ (True)))))))) ∧ (True)))))) ∧ ((True) ∧ ((NK s82l5_K (s82l5 Ψ (s82l1_G (s82l1 Ψ n1)) 0)) ∧ (∀ n5 : Nat, (QK s82l5_K (s82l5 Ψ (s82l1_G (s82l1 Ψ n1)) (n5 + 1))) ∧ ((True) ∧ ((otP 1) ∧ ((otP 21) ∧ ((QK s82c6_K (s82c6 Ψ (s82l1_G (s82l1 Ψ n1)) (s82l5_G (s82l5 Ψ (s82l1_G (s82l1 Ψ n1)) n5)))) ∧ (True))))))))))) ∧ (True))))))) ∧ (otP 1))))) (⟨trivial, ⟨trivial, ⟨⟨trivial, ⟨fun _ _ _ _ _ H => H, fun _ => ⟨oI, ⟨trivial, ⟨otP_ok 1, ⟨⟨trivial, ⟨trivial, ⟨⟨trivial, ⟨fun _ _ _ _ _ _ _ _ H => H, fun _ => ⟨oI, ⟨otP_ok 5, ⟨⟨trivial, ⟨fun _ _ _ _ _ _ _ _ _ _ _ H => H, fun _ => ⟨oI, ⟨trivial, ⟨otP_ok 1, ⟨otP_ok 53, ⟨oI, trivial⟩⟩⟩⟩⟩⟩⟩, trivial⟩⟩⟩⟩⟩, ⟨trivial, ⟨fun _ _ _ _ _ _ _ _ _ H => H, fun _ => ⟨oI, ⟨trivial, ⟨otP_ok 1, ⟨otP_ok 21, ⟨oI, trivial⟩⟩⟩⟩⟩⟩⟩⟩⟩⟩, trivial⟩⟩⟩⟩⟩⟩, otP_ok 1⟩⟩⟩))
 (Eq.mpr (by as_aux_lemma => kernel_rfl : evF prog f82 (s82_A Ψ) Ψ [(.agg [m_Up, m_Val])] h = s82 Ψ m_Up m_Val h) H)

/- 84 dictum/bits.All -/
def s84 (Ψ : AVal → Heap → Prop) (b : AVal) (h : Heap) : Prop :=
 aggN 16 b fun cs =>
 retG (.func (.func 119) [] [(.lptr cs)]) h Ψ

def s84_A (Ψ : AVal → Heap → Prop) : Ann :=
 .seq (.reg [⟨none, [(0, true), (1, false)]⟩])
 (.seq (rA 2)
 (.leaf))

theorem s84_ok {Ψ : AVal → Heap → Prop} {b : AVal} {h : Heap} (H : s84 Ψ b h) : ACalls prog 84 [b] h Ψ :=
 calls_of_evF func84 (by kernel_rfl) (by kernel_rfl) (by kernel_rfl)
 (Eq.mpr (by as_aux_lemma => kernel_rfl : oblF prog f84 (s84_A Ψ) Ψ = (otP 5)) (otP_ok 5))
 (Eq.mpr (by as_aux_lemma => kernel_rfl : evF prog f84 (s84_A Ψ) Ψ [b] h = s84 Ψ b h) H)

/- 86 (*dictum/formula.Table).Node -/
abbrev s86c1_K : List Kd := [.any, .int .i64, .any, .bool]
def s86c1 (Ψ : AVal → Heap → Prop) (t1 : AVal) (id_1 : Int) (t4 : AVal) (t14 : Bool) (h : Heap) : Prop :=
 ifT t14 (
 st false h t4 [(.int .i64 0), (.str (ByteArray.mk #[])), (.int .i64 0), (.int .i64 0)] fun h_1 =>
 ldN 4 h_1 t4 fun l_ =>
 tCons l_ fun v l_1 =>
 tInt .i64 v fun v1 =>
 tCons l_1 fun v2 l_2 =>
 tStr v2 fun v3 =>
 tCons l_2 fun v4 l_3 =>
 tInt .i64 v4 fun v5 =>
 tCons l_3 fun v6 l_4 =>
 tInt .i64 v6 fun v7 =>
 tNil l_4 (
 retG (.tuple [(.agg [(.int .i64 v1), (.str v3), (.int .i64 v5), (.int .i64 v7)]), (.bool false)]) h_1 Ψ)) (
 nilCheckA t1 fun p =>
 addOff p 0 fun p1 =>
 ld1 h p1 fun v8 =>
 ixS 4 v8 id_1 fun p2 =>
 ldN 4 h p2 fun l_5 =>
 tCons l_5 fun v9 l_6 =>
 tInt .i64 v9 fun v10 =>
 tCons l_6 fun v11 l_7 =>
 tStr v11 fun v12 =>
 tCons l_7 fun v13 l_8 =>
 tInt .i64 v13 fun v14 =>
 tCons l_8 fun v15 l_9 =>
 tInt .i64 v15 fun v16 =>
 tNil l_9 (
 st false h t4 [(.int .i64 v10), (.str v12), (.int .i64 v14), (.int .i64 v16)] fun h_2 =>
 ldN 4 h_2 t4 fun l_10 =>
 tCons l_10 fun v17 l_11 =>
 tInt .i64 v17 fun v18 =>
 tCons l_11 fun v19 l_12 =>
 tStr v19 fun v20 =>
 tCons l_12 fun v21 l_13 =>
 tInt .i64 v21 fun v22 =>
 tCons l_13 fun v23 l_14 =>
 tInt .i64 v23 fun v24 =>
 tNil l_14 (
 retG (.tuple [(.agg [(.int .i64 v18), (.str v20), (.int .i64 v22), (.int .i64 v24)]), (.bool true)]) h_2 Ψ)))

def s86 (Ψ : AVal → Heap → Prop) (t : AVal) (id_ : Int) (h : Heap) : Prop :=
 Sym.newRow 4 [(.agg [(.int .i64 0), (.str (ByteArray.mk #[])), (.int .i64 0), (.int .i64 0)])] h fun r h_ =>
 callG prog 98 [t] h_ fun v25 h_3 =>
 tBool v25 fun v26 =>
 ifT (!v26) (
 s86c1 Ψ t id_ (.ptr r 0 0) true h_3) (
 callG prog 120 [t, (.int .i64 id_)] h_3 fun v27 h_4 =>
 tBool v27 fun v28 =>
 s86c1 Ψ t id_ (.ptr r 0 0) (!v28) h_4)

def s86_A (Ψ : AVal → Heap → Prop) : Ann :=
 .seq (rA 2)
 (.seq (cutK [0, 1, 4, 14] s86c1_K (s86c1 Ψ) (.reg [⟨none, [(0, false), (1, false), (2, false), (3, false)]⟩, ⟨some (9, false), [(4, false), (5, false), (6, false), (7, false)]⟩, ⟨none, [(8, false)]⟩])
 (.cond (.seq (rA 3)
 (.leaf))
 (.leaf)))
 (.seq (rA 9)
 (.leaf)))

theorem s86_ok {Ψ : AVal → Heap → Prop} {t : AVal} {id_ : Int} {h : Heap} (H : s86 Ψ t id_ h) : ACalls prog 86 [t, (.int .i64 id_)] h Ψ :=
 calls_of_evF func86 (by kernel_rfl) (by kernel_rfl) (by kernel_rfl)
 (Eq.mpr (by as_aux_lemma => kernel_rfl : oblF prog f86 (s86_A Ψ) Ψ = ((True) ∧ (((True) ∧ ((QK s86c1_K (s86c1 Ψ)) ∧ (otP 3))) ∧ (otP 1)))) (⟨trivial, ⟨⟨trivial, ⟨oI, otP_ok 3⟩⟩, otP_ok 1⟩⟩))
 (Eq.mpr (by as_aux_lemma => kernel_rfl : evF prog f86 (s86_A Ψ) Ψ [t, (.int .i64 id_)] h = s86 Ψ t id_ h) H)

/- 88 dictum/dictumref17.Order -/
abbrev s88l1_T := AVal → Int → AVal → Int → Heap → Prop
abbrev s88l1_K : List Kd := [.any, .int .i64, .any, .int .i64]
def s88l1_G (F : s88l1_T) : s88l1_T := GK s88l1_K F
def s88l1_E (F : Nat → s88l1_T) : s88l1_T := EK s88l1_K F
theorem s88l1_in {F : Nat → s88l1_T} {x0 : AVal} {x1 : Int} {x2 : AVal} {x3 : Int} {h : Heap} (n : Nat) (H : F n x0 x1 x2 x3 h) : s88l1_E F x0 x1 x2 x3 h := gJ_plain rfl ⟨n, H⟩

abbrev s88l2_T := AVal → Int → AVal → Int → AVal → Int → Heap → Prop
abbrev s88l2_K : List Kd := [.any, .int .i64, .any, .int .i64, .any, .int .i64]
def s88l2_G (F : s88l2_T) : s88l2_T := GK s88l2_K F
def s88l2_E (F : Nat → s88l2_T) : s88l2_T := EK s88l2_K F
theorem s88l2_go {F : s88l2_T} {x0 : AVal} {x1 : Int} {x2 : AVal} {x3 : Int} {x4 : AVal} {x5 : Int} {h : Heap} (H : F x0 x1 x2 x3 x4 x5 h) : s88l2_G F x0 x1 x2 x3 x4 x5 h := gJ_plain rfl H
theorem s88l2_in {F : Nat → s88l2_T} {x0 : AVal} {x1 : Int} {x2 : AVal} {x3 : Int} {x4 : AVal} {x5 : Int} {h : Heap} (n : Nat) (H : F n x0 x1 x2 x3 x4 x5 h) : s88l2_E F x0 x1 x2 x3 x4 x5 h := gJ_plain rfl ⟨n, H⟩

abbrev s88l3_T := AVal → Int → AVal → Int → AVal → Int → AVal → Int → Heap → Prop
abbrev s88l3_K : List Kd := [.any, .int .i64, .any, .int .i64, .any, .int .i64, .any, .int .i64]
def s88l3_G (F : s88l3_T) : s88l3_T := GK s88l3_K F
def s88l3_E (F : Nat → s88l3_T) : s88l3_T := EK s88l3_K F
theorem s88l3_go {F : s88l3_T} {x0 : AVal} {x1 : Int} {x2 : AVal} {x3 : Int} {x4 : AVal} {x5 : Int} {x6 : AVal} {x7 : Int} {h : Heap} (H : F x0 x1 x2 x3 x4 x5 x6 x7 h) : s88l3_G F x0 x1 x2 x3 x4 x5 x6 x7 h := gJ_plain rfl H
theorem s88l3_in {F : Nat → s88l3_T} {x0 : AVal} {x1 : Int} {x2 : AVal} {x3 : Int} {x4 : AVal} {x5 : Int} {x6 : AVal} {x7 : Int} {h : Heap} (n : Nat) (H : F n x0 x1 x2 x3 x4 x5 x6 x7 h) : s88l3_E F x0 x1 x2 x3 x4 x5 x6 x7 h := gJ_plain rfl ⟨n, H⟩

abbrev s88c4_K : List Kd := [.any, .int .i64, .any, .int .i64, .any, .int .i64, .any, .int .i64]
def s88c4 (Ψ : AVal → Heap → Prop) (L1 : s88l1_T) (L2 : s88l2_T) (L3 : s88l3_T) (m3 : AVal) (n9 : Int) (out3 : AVal) (a3 : Int) (wait2 : AVal) (i2 : Int) (row1 : AVal) (k1 : Int) (h : Heap) : Prop :=
 rg (k1 + 1) (
 L3 m3 n9 out3 a3 wait2 i2 row1 (k1 + 1) h)

abbrev s88c5_K : List Kd := [.any, .int .i64, .any, .int .i64, .any, .int .i64, .any, .int .i64, .int .i64, .bool]
def s88c5 (Ψ : AVal → Heap → Prop) (L1 : s88l1_T) (L2 : s88l2_T) (L3 : s88l3_T) (m4 : AVal) (n10 : Int) (out4 : AVal) (a4 : Int) (wait3 : AVal) (i3 : Int) (row2 : AVal) (k2 b : Int) (t65 : Bool) (h : Heap) : Prop :=
 ifT t65 (
 retG (.tuple [.nilsl, (.bool false)]) h Ψ) (
 ixS 1 out4 a4 fun p7 =>
 ld1 h p7 fun v9 =>
 ixS 1 v9 b fun p8 =>
 ld1 h p8 fun v10 =>
 tBool v10 fun v11 =>
 ifT (!v11) (
 ixS 1 out4 a4 fun p9 =>
 ld1 h p9 fun v12 =>
 ixS 1 v12 b fun p10 =>
 st true h p10 [(.bool true)] fun h_5 =>
 appC 1 8 h_5 wait3 (.lsl 1 [(.int .i64 b)]) fun v13 h_6 =>
 s88c4 Ψ L1 L2 L3 m4 n10 out4 a4 v13 i3 row2 k2 h_6) (
 s88c4 Ψ L1 L2 L3 m4 n10 out4 a4 wait3 i3 row2 k2 h))

def s88l3 (Ψ : AVal → Heap → Prop) (L1 : s88l1_T) (L2 : s88l2_T) : Nat → s88l3_T
 | 0, _, _, _, _, _, _, _, _, _ => False
 | n7 + 1, m2, n6, out2, a2, wait1, i1, row, k, h =>
 lenN row fun n8 =>
 ifT (decide (k < n8)) (
 ixS 1 row k fun p6 =>
 ld1 h p6 fun v7 =>
 tInt .i64 v7 fun v8 =>
 ifT (decide (v8 < 0)) (
 s88c5 Ψ L1 L2 (s88l3_G (s88l3 Ψ L1 L2 n7)) m2 n6 out2 a2 wait1 i1 row k v8 true h) (
 s88c5 Ψ L1 L2 (s88l3_G (s88l3 Ψ L1 L2 n7)) m2 n6 out2 a2 wait1 i1 row k v8 (decide (n6 ≤ v8)) h)) (
 rg (i1 + 1) (
 L2 m2 n6 out2 a2 wait1 (i1 + 1) h))

def s88l2 (Ψ : AVal → Heap → Prop) (L1 : s88l1_T) : Nat → s88l2_T
 | 0, _, _, _, _, _, _, _ => False
 | n4 + 1, m1, n3, out1, a1, wait, i, h =>
 lenN wait fun n5 =>
 ifT (decide (i < n5)) (
 addOff m1 0 fun p3 =>
 ld1 h p3 fun v3 =>
 ixS 1 wait i fun p4 =>
 ld1 h p4 fun v4 =>
 tInt .i64 v4 fun v5 =>
 ixS 1 v3 v5 fun p5 =>
 ld1 h p5 fun v6 =>
 s88l3_E (s88l3 Ψ L1 (s88l2_G (s88l2 Ψ L1 n4))) m1 n3 out1 a1 wait i v6 0 h) (
 rg (a1 + 1) (
 L1 m1 n3 out1 (a1 + 1) h))

def s88l1 (Ψ : AVal → Heap → Prop) : Nat → s88l1_T
 | 0, _, _, _, _, _ => False
 | n2 + 1, m, n1, out, a, h =>
 ifT (decide (a < n1)) (
 mkS false 1 1 (.bool false) h n1 n1 fun v1 h_1 =>
 ixS 1 out a fun p =>
 chk (sc v1) (
 st true h_1 p [v1] fun h_2 =>
 ixS 1 out a fun p1 =>
 ld1 h_2 p1 fun v2 =>
 ixS 1 v2 a fun p2 =>
 st true h_2 p2 [(.bool true)] fun h_3 =>
 Sym.newRow 1 [(.int .i64 a)] h_3 fun r h_4 =>
 s88l2_E (s88l2 Ψ (s88l1_G (s88l1 Ψ n2))) m n1 out a (.sl r 1 0 1) 0 h_4)) (
 retG (.tuple [out, (.bool true)]) h Ψ)

def s88 (Ψ : AVal → Heap → Prop) (m_Up : AVal) (m_Val : AVal) (h : Heap) : Prop :=
 lenN m_Up fun n =>
 mkS false 1 24 .nilsl h n n fun v h_ =>
 s88l1_E (s88l1 Ψ) (.lptr [m_Up, m_Val]) n v 0 h_

def s88_A (Ψ : AVal → Heap → Prop) : Ann :=
 .seq (.reg [⟨none, [(0, true), (1, false), (2, false)]⟩])
 (.seq (rA 4)
 (.seq (rA 3)
 (.seq (.seq (rA 1)
 (.block (loopK [1, 4, 5, 6] s88l1_K (s88l1 Ψ) (fun L1 =>
 .seq (.seq (rA 3)
 (.cond (.leaf)
 (.leaf)))
 (.seq (.block (.seq (rA 6)
 (.seq (rA 7)
 (.seq (rA 3)
 (.seq (rA 1)
 (.block (loopK [1, 4, 5, 6, 7, 8] s88l2_K (s88l2 Ψ (LK s88l1_K L1)) (fun L2 =>
 .seq (.seq (rA 4)
 (.cond (.leaf)
 (.leaf)))
 (.seq (.block (.seq (.draw [(0, false), (1, false), (2, false), (3, false), (4, false), (5, false), (6, false), (7, false), (8, false)] [0, 1, 0, 0, 12, 28, 63, 127, 255])
 (.seq (rA 1)
 (.block (loopK [1, 4, 5, 6, 7, 8, 9, 10] s88l3_K (s88l3 Ψ (LK s88l1_K L1) (LK s88l2_K L2)) (fun L3 =>
 .seq (.seq (rA 4)
 (.cond (.leaf)
 (.leaf)))
 (cutK [1, 4, 5, 6, 7, 8, 9, 10] s88c4_K (s88c4 Ψ (LK s88l1_K L1) (LK s88l2_K L2) (LK s88l3_K L3)) (.block (.seq (rA 5)
 (.seq (cutK [1, 4, 5, 6, 7, 8, 9, 10, 11, 65] s88c5_K (s88c5 Ψ (LK s88l1_K L1) (LK s88l2_K L2) (LK s88l3_K L3)) (.reg [⟨none, [(0, false), (1, false), (2, false)]⟩, ⟨some (61, false), [(3, false), (4, false), (5, false)]⟩, ⟨none, [(6, false)]⟩])
 (.cond (.seq (rA 2)
 (.leaf))
 (.leaf)))
 (.seq (rA 8)
 (.cond (.seq (rA 7)
 (.reg [⟨none, [(0, false), (1, false), (2, true), (3, false), (4, false)]⟩]))
 (.leaf))))))
 (rA 3))))))))
 (rA 3))))))))))
 (rA 3))))))
 (.seq (rA 3)
 (.leaf)))))

theorem s88_ok {Ψ : AVal → Heap → Prop} {m_Up : AVal} {m_Val : AVal} {h : Heap} (H : s88 Ψ m_Up m_Val h) : ACalls prog 88 [(.agg [m_Up, m_Val])] h Ψ :=
 calls_of_evF func88 (by kernel_rfl) (by kernel_rfl) (by kernel_rfl)
 (Eq.mpr (by as_aux_lemma => kernel_rfl : oblF prog f88 (s88_A Ψ) Ψ = ((True) ∧ ((True) ∧ ((True) ∧ (((True) ∧ ((NK s88l1_K (s88l1 Ψ 0)) ∧ (∀ n1 : Nat, (QK s88l1_K (s88l1 Ψ (n1 + 1))) ∧ ((otP 5) ∧ (((True) ∧ ((True) ∧ ((True) ∧ ((True) ∧ ((NK s88l2_K (s88l2 Ψ (s88l1_G (s88l1 Ψ n1)) 0)) ∧ (∀ n2 : Nat, (QK s88l2_K (s88l2 Ψ (s88l1_G (s88l1 Ψ n1)) (n2 + 1))) ∧ ((otP 5) ∧ (((True) ∧ ((True) ∧ ((NK s88l3_K (s88l3 Ψ (s88l1_G (s88l1 Ψ n1)) (s88l2_G (s88l2 Ψ (s88l1_G (s88l1 Ψ n1)) n2)) 0)) ∧ (∀ n3 : Nat, (QK s88l3_K (s88l3 Ψ (s88l1_G (s88l1 Ψ n1)) (s88l2_G (s88l2 Ψ (s88l1_G (s88l1 Ψ n1)) n2)) (n3 + 1))) ∧ ((otP 5) ∧ (((True) ∧ (((True) ∧ ((QK s88c5_K (s88c5 Ψ (s88l1_G (s88l1 Ψ n1)) (s88l2_G (s88l2 Ψ (s88l1_G (s88l1 Ψ n1)) n2)) (s88l3_G (s88l3 Ψ (s88l1_G (s88l1 Ψ n1)) (s88l2_G (s88l2 Ψ (s88l1_G (s88l1 Ψ n1)) n2)) n3)))) ∧ (otP 3))) ∧ (otP 13))) ∧ ((QK s88c4_K (s88c4 Ψ (s88l1_G (s88l1 Ψ n1)) (s88l2_G (s88l2 Ψ (s88l1_G (s88l1 Ψ n1)) n2)) (s88l3_G (s88l3 Ψ (s88l1_G (s88l1 Ψ n1)) (s88l2_G (s88l2 Ψ (s88l1_G (s88l1 Ψ n1)) n2)) n3)))) ∧ (True)))))))) ∧ (True))))))))) ∧ (True)))))) ∧ (otP 1)))))) (⟨trivial, ⟨trivial, ⟨trivial, ⟨⟨trivial, ⟨fun _ _ _ _ _ H => H, fun _ => ⟨oI, ⟨otP_ok 5, ⟨⟨trivial, ⟨trivial, ⟨trivial, ⟨trivial, ⟨fun _ _ _ _ _ _ _ H => H, fun _ => ⟨oI, ⟨otP_ok 5, ⟨⟨trivial, ⟨trivial, ⟨fun _ _ _ _ _ _ _ _ _ H => H, fun _ => ⟨oI, ⟨otP_ok 5, ⟨⟨trivial, ⟨⟨trivial, ⟨oI, otP_ok 3⟩⟩, otP_ok 13⟩⟩, ⟨oI, trivial⟩⟩⟩⟩⟩⟩⟩, trivial⟩⟩⟩⟩⟩⟩⟩⟩, trivial⟩⟩⟩⟩⟩, otP_ok 1⟩⟩⟩⟩))
 (Eq.mpr (by as_aux_lemma => kernel_rfl : evF prog f88 (s88_A Ψ) Ψ [(.agg [m_Up, m_Val])] h = s88 Ψ m_Up m_Val h) H)

/- 90 dictum/dictumref17.has -/
abbrev s90l1_T := AVal → ByteArray → Int → Heap → Prop
abbrev s90l1_K : List Kd := [.any, .str, .int .i64]
def s90l1_G (F : s90l1_T) : s90l1_T := GK s90l1_K F
def s90l1_E (F : Nat → s90l1_T) : s90l1_T := EK s90l1_K F
theorem s90l1_go {F : s90l1_T} {x0 : AVal} {x1 : ByteArray} {x2 : Int} {h : Heap} (H : F x0 x1 x2 h) : s90l1_G F x0 x1 x2 h := gJ_plain rfl H
theorem s90l1_in {F : Nat → s90l1_T} {x0 : AVal} {x1 : ByteArray} {x2 : Int} {h : Heap} (n : Nat) (H : F n x0 x1 x2 h) : s90l1_E F x0 x1 x2 h := gJ_plain rfl ⟨n, H⟩

def s90l1 (Ψ : AVal → Heap → Prop) : Nat → s90l1_T
 | 0, _, _, _, _ => False
 | n + 1, l_1, s1, i, h =>
 lenN l_1 fun n1 =>
 ifT (decide (i < n1)) (
 ixS 1 l_1 i fun p =>
 ld1 h p fun v =>
 tStr v fun v1 =>
 ifT (strEq v1 s1) (
 retG (.bool true) h Ψ) (
 rg (i + 1) (
 s90l1_G (s90l1 Ψ n) l_1 s1 (i + 1) h))) (
 retG (.bool false) h Ψ)

def s90 (Ψ : AVal → Heap → Prop) (l_ : AVal) (s : ByteArray) (h : Heap) : Prop :=
 s90l1_E (s90l1 Ψ) l_ s 0 h

def s90_A (Ψ : AVal → Heap → Prop) : Ann :=
 .seq (rA 1)
 (.seq (.seq (rA 1)
 (.block (loopK [0, 1, 5] s90l1_K (s90l1 Ψ) (fun L1 =>
 .seq (.seq (rA 4)
 (.cond (.leaf)
 (.leaf)))
 (.seq (.block (.seq (rA 6)
 (.cond (.seq (rA 1)
 (.leaf))
 (.leaf))))
 (rA 3))))))
 (.seq (rA 1)
 (.leaf)))

theorem s90_ok {Ψ : AVal → Heap → Prop} {l_ : AVal} {s : ByteArray} {h : Heap} (H : s90 Ψ l_ s h) : ACalls prog 90 [l_, (.str s)] h Ψ :=
 calls_of_evF func90 (by kernel_rfl) (by kernel_rfl) (by kernel_rfl)
 (Eq.mpr (by as_aux_lemma => kernel_rfl : oblF prog f90 (s90_A Ψ) Ψ = ((True) ∧ (((True) ∧ ((NK s90l1_K (s90l1 Ψ 0)) ∧ (∀ n1 : Nat, (QK s90l1_K (s90l1 Ψ (n1 + 1))) ∧ (otP 1739)))) ∧ (otP 1)))) (⟨trivial, ⟨⟨trivial, ⟨fun _ _ _ _ H => H, fun _ => ⟨oI, otP_ok 1739⟩⟩⟩, otP_ok 1⟩⟩))
 (Eq.mpr (by as_aux_lemma => kernel_rfl : evF prog f90 (s90_A Ψ) Ψ [l_, (.str s)] h = s90 Ψ l_ s h) H)

/- 94 (*dictum/formula.Table).Below -/
abbrev s94l1_T := AVal → AVal → Heap → Prop
abbrev s94l1_K : List Kd := [.any, .any]
def s94l1_G (F : s94l1_T) : s94l1_T := GK s94l1_K F
def s94l1_E (F : Nat → s94l1_T) : s94l1_T := EK s94l1_K F
theorem s94l1_go {F : s94l1_T} {x0 x1 : AVal} {h : Heap} (H : F x0 x1 h) : s94l1_G F x0 x1 h := gJ_plain rfl H
theorem s94l1_in {F : Nat → s94l1_T} {x0 x1 : AVal} {h : Heap} (n : Nat) (H : F n x0 x1 h) : s94l1_E F x0 x1 h := gJ_plain rfl ⟨n, H⟩

def s94l1 (Ψ : AVal → Heap → Prop) : Nat → s94l1_T
 | 0, _, _, _ => False
 | n + 1, l_, t25, h =>
 nextM h t25 fun v8 h_9 =>
 extractA v8 0 fun v9 =>
 tBool v9 fun v10 =>
 ifT v10 (
 entryA h_9 t25 fun v11 =>
 extractA v11 0 fun v12 =>
 tInt .i64 v12 fun v13 =>
 appC 1 8 h_9 l_ (.lsl 1 [(.int .i64 v13)]) fun v14 h_10 =>
 s94l1_G (s94l1 Ψ n) v14 t25 h_10) (
 callG prog 125 [l_] h_9 fun v15 h_11 =>
 retG (.tuple [l_, (.int .i64 0)]) h_11 Ψ)

def s94 (Ψ : AVal → Heap → Prop) (t : AVal) (id_ : Int) (h : Heap) : Prop :=
 chk (sc t) (
 callG prog 98 [t] h fun v h_ =>
 tBool v fun v1 =>
 ifT (!v1) (
 retG (.tuple [.nilsl, (.int .i64 1)]) h_ Ψ) (
 callG prog 120 [t, (.int .i64 id_)] h_ fun v2 h_1 =>
 tBool v2 fun v3 =>
 ifT (!v3) (
 retG (.tuple [.nilsl, (.int .i64 31)]) h_1 Ψ) (
 newMap h_1 fun r h_2 =>
 Sym.newRow 1 [.nilmap] h_2 fun r1 h_3 =>
 st true h_3 (.ptr r1 0 0) [(.mapr r)] fun h_4 =>
 Sym.newRow 1 [.nilfunc] h_4 fun r2 h_5 =>
 st true h_5 (.ptr r2 0 0) [(.func (.func 124) [] [(.ptr r1 0 0), (.lptr [t]), (.ptr r2 0 0)])] fun h_6 =>
 ld1 h_6 (.ptr r2 0 0) fun v4 =>
 callV prog v4 [(.int .i64 id_)] h_6 fun v5 h_7 =>
 ld1 h_7 (.ptr r1 0 0) fun v6 =>
 rangeM h_7 v6 fun v7 h_8 =>
 s94l1_E (s94l1 Ψ) .nilsl v7 h_8)))

def s94_A (Ψ : AVal → Heap → Prop) : Ann :=
 .seq (.reg [⟨none, [(0, true), (1, false), (2, false)]⟩])
 (.seq (.block (.seq (rA 4)
 (.cond (.seq (rA 2)
 (.leaf))
 (.seq (rA 5)
 (.cond (.seq (rA 2)
 (.leaf))
 (.leaf))))))
 (.seq (rA 3)
 (.seq (rA 1)
 (.seq (rA 2)
 (.seq (rA 3)
 (.seq (rA 1)
 (.seq (.seq (rA 2)
 (.block (loopK [8, 25] s94l1_K (s94l1 Ψ) (fun L1 =>
 .seq (rA 2)
 (.seq (.cond (.leaf)
 (.leaf))
 (.block (.seq (rA 3)
 (.reg [⟨none, [(0, false), (1, false), (2, true), (3, false), (4, false)]⟩]))))))))
 (.seq (rA 2)
 (.seq (rA 3)
 (.leaf))))))))))

theorem s94_ok {Ψ : AVal → Heap → Prop} {t : AVal} {id_ : Int} {h : Heap} (H : s94 Ψ t id_ h) : ACalls prog 94 [t, (.int .i64 id_)] h Ψ :=
 calls_of_evF func94 (by kernel_rfl) (by kernel_rfl) (by kernel_rfl)
 (Eq.mpr (by as_aux_lemma => kernel_rfl : oblF prog f94 (s94_A Ψ) Ψ = ((True) ∧ ((otP 845) ∧ ((True) ∧ ((True) ∧ ((True) ∧ ((True) ∧ ((True) ∧ (((True) ∧ ((NK s94l1_K (s94l1 Ψ 0)) ∧ (∀ n1 : Nat, (QK s94l1_K (s94l1 Ψ (n1 + 1))) ∧ (otP 77)))) ∧ (otP 5)))))))))) (⟨trivial, ⟨otP_ok 845, ⟨trivial, ⟨trivial, ⟨trivial, ⟨trivial, ⟨trivial, ⟨⟨trivial, ⟨fun _ _ _ H => H, fun _ => ⟨oI, otP_ok 77⟩⟩⟩, otP_ok 5⟩⟩⟩⟩⟩⟩⟩⟩))
 (Eq.mpr (by as_aux_lemma => kernel_rfl : evF prog f94 (s94_A Ψ) Ψ [t, (.int .i64 id_)] h = s94 Ψ t id_ h) H)

/- 96 dictum/force.upsets$1 -/
abbrev s96l1_T := AVal → AVal → Int → Int → Heap → Prop
abbrev s96l1_K : List Kd := [.any, .any, .int .u64, .int .u64]
def s96l1_G (F : s96l1_T) : s96l1_T := GK s96l1_K F
def s96l1_E (F : Nat → s96l1_T) : s96l1_T := EK s96l1_K F
theorem s96l1_go {F : s96l1_T} {x0 x1 : AVal} {x2 x3 : Int} {h : Heap} (H : F x0 x1 x2 x3 h) : s96l1_G F x0 x1 x2 x3 h := gJ_plain rfl H
theorem s96l1_in {F : Nat → s96l1_T} {x0 x1 : AVal} {x2 x3 : Int} {h : Heap} (n : Nat) (H : F n x0 x1 x2 x3 h) : s96l1_E F x0 x1 x2 x3 h := gJ_plain rfl ⟨n, H⟩

abbrev s96l2_T := AVal → AVal → Int → Bool → Int → Int → AVal → Int → Int → Heap → Prop
abbrev s96l2_K : List Kd := [.any, .any, .int .u64, .bool, .int .u64, .int .u64, .any, .int .i64, .int .i64]
def s96l2_G (F : s96l2_T) : s96l2_T := GK s96l2_K F
def s96l2_E (F : Nat → s96l2_T) : s96l2_T := EK s96l2_K F
theorem s96l2_go {F : s96l2_T} {x0 x1 : AVal} {x2 : Int} {x3 : Bool} {x4 x5 : Int} {x6 : AVal} {x7 x8 : Int} {h : Heap} (H : F x0 x1 x2 x3 x4 x5 x6 x7 x8 h) : s96l2_G F x0 x1 x2 x3 x4 x5 x6 x7 x8 h := gJ_plain rfl H
theorem s96l2_in {F : Nat → s96l2_T} {x0 x1 : AVal} {x2 : Int} {x3 : Bool} {x4 x5 : Int} {x6 : AVal} {x7 x8 : Int} {h : Heap} (n : Nat) (H : F n x0 x1 x2 x3 x4 x5 x6 x7 x8 h) : s96l2_E F x0 x1 x2 x3 x4 x5 x6 x7 x8 h := gJ_plain rfl ⟨n, H⟩

abbrev s96l3_T := AVal → AVal → Int → Bool → Int → Int → Int → AVal → Int → Int → AVal → Int → Int → Heap → Prop
abbrev s96l3_K : List Kd := [.any, .any, .int .u64, .bool, .int .i64, .int .u64, .int .u64, .any, .int .i64, .int .i64, .any, .int .i64, .int .i64]
def s96l3_G (F : s96l3_T) : s96l3_T := GK s96l3_K F
def s96l3_E (F : Nat → s96l3_T) : s96l3_T := EK s96l3_K F
theorem s96l3_go {F : s96l3_T} {x0 x1 : AVal} {x2 : Int} {x3 : Bool} {x4 x5 x6 : Int} {x7 : AVal} {x8 x9 : Int} {x10 : AVal} {x11 x12 : Int} {h : Heap} (H : F x0 x1 x2 x3 x4 x5 x6 x7 x8 x9 x10 x11 x12 h) : s96l3_G F x0 x1 x2 x3 x4 x5 x6 x7 x8 x9 x10 x11 x12 h := gJ_plain rfl H
theorem s96l3_in {F : Nat → s96l3_T} {x0 x1 : AVal} {x2 : Int} {x3 : Bool} {x4 x5 x6 : Int} {x7 : AVal} {x8 x9 : Int} {x10 : AVal} {x11 x12 : Int} {h : Heap} (n : Nat) (H : F n x0 x1 x2 x3 x4 x5 x6 x7 x8 x9 x10 x11 x12 h) : s96l3_E F x0 x1 x2 x3 x4 x5 x6 x7 x8 x9 x10 x11 x12 h := gJ_plain rfl ⟨n, H⟩

abbrev s96c4_K : List Kd := [.any, .any, .int .u64, .bool, .int .i64, .int .u64, .int .u64, .any, .int .i64, .int .i64, .any, .int .i64, .int .i64]
def s96c4 (Ψ : AVal → Heap → Prop) (L1 : s96l1_T) (L2 : s96l2_T) (L3 : s96l3_T) (yield4 t1_3 : AVal) (set_2 : Int) (closed2 : Bool) (w1 t11_3 t12_3 : Int) (t15_2 : AVal) (t16_2 t17_2 : Int) (t22_1 : AVal) (t23_1 t24_1 : Int) (h : Heap) : Prop :=
 rg (t24_1 + 1) (
 L3 yield4 t1_3 set_2 closed2 w1 t11_3 t12_3 t15_2 t16_2 t17_2 t22_1 t23_1 (t24_1 + 1) h)

def s96l3 (Ψ : AVal → Heap → Prop) (L1 : s96l1_T) (L2 : s96l2_T) : Nat → s96l3_T
 | 0, _, _, _, _, _, _, _, _, _, _, _, _, _, _ => False
 | n5 + 1, yield3, t1_2, set_1, closed1, w, t11_2, t12_2, t15_1, t16_1, t17_1, t22, t23, t24, h =>
 ifT (decide (t24 < t23)) (
 ixS 1 t22 t24 fun p1 =>
 ld1 h p1 fun v3 =>
 tInt .i64 v3 fun v4 =>
 ifT closed1 (
 (0 : Int) ≤ w ∧
 ifT ((bitsI .and .u64 (Int.fdiv set_1 (2 ^ (min (Int.toNat w) (IntKind.u64.bits)))) 1) == 0) (
 s96c4 Ψ L1 L2 (s96l3_G (s96l3 Ψ L1 L2 n5)) yield3 t1_2 set_1 true w t11_2 t12_2 t15_1 t16_1 t17_1 t22 t23 t24 h) (
 (0 : Int) ≤ v4 ∧
 s96c4 Ψ L1 L2 (s96l3_G (s96l3 Ψ L1 L2 n5)) yield3 t1_2 set_1 ((bitsI .and .u64 (Int.fdiv set_1 (2 ^ (min (Int.toNat v4) (IntKind.u64.bits)))) 1) == 1) w t11_2 t12_2 t15_1 t16_1 t17_1 t22 t23 t24 h)) (
 s96c4 Ψ L1 L2 (s96l3_G (s96l3 Ψ L1 L2 n5)) yield3 t1_2 set_1 false w t11_2 t12_2 t15_1 t16_1 t17_1 t22 t23 t24 h)) (
 rg (t17_1 + 1) (
 L2 yield3 t1_2 set_1 closed1 t11_2 t12_2 t15_1 t16_1 (t17_1 + 1) h))

abbrev s96c5_K : List Kd := [.any, .any, .int .u64, .int .u64, .bool]
def s96c5 (Ψ : AVal → Heap → Prop) (L1 : s96l1_T) (yield5 t1_4 : AVal) (t11_4 t12_4 : Int) (t51 : Bool) (h : Heap) : Prop :=
 ifT t51 (
 retG (.tuple []) h Ψ) (
 L1 yield5 t1_4 t11_4 (IntKind.u64.wrap (t12_4 + 1)) h)

def s96l2 (Ψ : AVal → Heap → Prop) (L1 : s96l1_T) : Nat → s96l2_T
 | 0, _, _, _, _, _, _, _, _, _, _ => False
 | n3 + 1, yield2, t1_1, set_, closed, t11_1, t12_1, t15, t16, t17, h =>
 ifT (decide (t17 < t16)) (
 ixS 1 t15 t17 fun p =>
 ld1 h p fun v2 =>
 lenN v2 fun n4 =>
 s96l3_E (s96l3 Ψ L1 (s96l2_G (s96l2 Ψ L1 n3))) yield2 t1_1 set_ closed t17 t11_1 t12_1 t15 t16 t17 v2 n4 0 h) (
 ifT closed (
 callV prog yield2 [(.int .u64 set_)] h fun v5 h_ =>
 tBool v5 fun v6 =>
 s96c5 Ψ L1 yield2 t1_1 t11_1 t12_1 (!v6) h_) (
 s96c5 Ψ L1 yield2 t1_1 t11_1 t12_1 false h))

def s96l1 (Ψ : AVal → Heap → Prop) : Nat → s96l1_T
 | 0, _, _, _, _, _ => False
 | n1 + 1, yield1, t1, t11, t12, h =>
 ifT (decide (t12 < t11)) (
 ld1 h t1 fun v1 =>
 lenN v1 fun n2 =>
 s96l2_E (s96l2 Ψ (s96l1_G (s96l1 Ψ n1))) yield1 t1 t12 true t11 t12 v1 n2 0 h) (
 retG (.tuple []) h Ψ)

def s96 (Ψ : AVal → Heap → Prop) (yield : AVal) (c0 : AVal) (h : Heap) : Prop :=
 ld1 h c0 fun v =>
 lenN v fun n =>
 (0 : Int) ≤ n ∧
 s96l1_E (s96l1 Ψ) yield c0 (IntKind.u64.wrap (1 * 2 ^ (min (Int.toNat n) (IntKind.u64.bits)))) 0 h

def s96_A (Ψ : AVal → Heap → Prop) : Ann :=
 .seq (rA 4)
 (.block (loopK [0, 1, 11, 12] s96l1_K (s96l1 Ψ) (fun L1 =>
 .seq (rA 1)
 (.seq (.cond (.leaf)
 (.leaf))
 (.seq (.block (.seq (rA 2)
 (.seq (rA 1)
 (.seq (.seq (rA 3)
 (.block (loopK [0, 1, 3, 4, 11, 12, 15, 16, 17] s96l2_K (s96l2 Ψ (LK s96l1_K L1)) (fun L2 =>
 .seq (rA 1)
 (.seq (.cond (.leaf)
 (.leaf))
 (.seq (.block (.seq (rA 5)
 (.seq (rA 3)
 (.block (loopK [0, 1, 3, 4, 5, 11, 12, 15, 16, 17, 22, 23, 24] s96l3_K (s96l3 Ψ (LK s96l1_K L1) (LK s96l2_K L2)) (fun L3 =>
 .seq (rA 1)
 (.seq (.cond (.leaf)
 (.leaf))
 (cutK [0, 1, 3, 4, 5, 11, 12, 15, 16, 17, 22, 23, 24] s96c4_K (s96c4 Ψ (LK s96l1_K L1) (LK s96l2_K L2) (LK s96l3_K L3)) (.block (.seq (rA 3)
 (.reg [⟨none, [(0, false), (1, false)]⟩, ⟨some (29, true), [(2, false), (3, false), (4, false), (5, false), (6, false), (7, false)]⟩, ⟨some (35, false), [(8, false), (9, false), (10, false), (11, false), (12, false)]⟩, ⟨some (29, true), [(13, false)]⟩, ⟨none, [(14, false), (15, false)]⟩])))
 (rA 2)))))))))
 (rA 2)))))))
 (cutK [0, 1, 11, 12, 51] s96c5_K (s96c5 Ψ (LK s96l1_K L1)) (.reg [⟨none, [(0, false), (1, false)]⟩, ⟨some (46, true), [(2, false), (3, false), (4, false), (5, false)]⟩, ⟨none, [(6, false)]⟩])
 (.cond (.leaf)
 (.leaf)))))))
 (rA 2))))))

theorem s96_ok {Ψ : AVal → Heap → Prop} {yield : AVal} {c0 : AVal} {h : Heap} (H : s96 Ψ yield c0 h) : ACalls prog 96 [yield, c0] h Ψ :=
 calls_of_evF func96 (by kernel_rfl) (by kernel_rfl) (by kernel_rfl)
 (Eq.mpr (by as_aux_lemma => kernel_rfl : oblF prog f96 (s96_A Ψ) Ψ = ((True) ∧ ((NK s96l1_K (s96l1 Ψ 0)) ∧ (∀ n1 : Nat, (QK s96l1_K (s96l1 Ψ (n1 + 1))) ∧ ((True) ∧ ((otP 1) ∧ (((True) ∧ ((True) ∧ (((True) ∧ ((NK s96l2_K (s96l2 Ψ (s96l1_G (s96l1 Ψ n1)) 0)) ∧ (∀ n2 : Nat, (QK s96l2_K (s96l2 Ψ (s96l1_G (s96l1 Ψ n1)) (n2 + 1))) ∧ ((True) ∧ ((otP 1) ∧ (((True) ∧ ((True) ∧ ((NK s96l3_K (s96l3 Ψ (s96l1_G (s96l1 Ψ n1)) (s96l2_G (s96l2 Ψ (s96l1_G (s96l1 Ψ n1)) n2)) 0)) ∧ (∀ n3 : Nat, (QK s96l3_K (s96l3 Ψ (s96l1_G (s96l1 Ψ n1)) (s96l2_G (s96l2 Ψ (s96l1_G (s96l1 Ψ n1)) n2)) (n3 + 1))) ∧ ((True) ∧ ((otP 1) ∧ ((otP 1) ∧ ((QK s96c4_K (s96c4 Ψ (s96l1_G (s96l1 Ψ n1)) (s96l2_G (s96l2 Ψ (s96l1_G (s96l1 Ψ n1)) n2)) (s96l3_G (s96l3 Ψ (s96l1_G (s96l1 Ψ n1)) (s96l2_G (s96l2 Ψ (s96l1_G (s96l1 Ψ n1)) n2)) n3)))) ∧ (True))))))))) ∧ (True))))))) ∧ ((True) ∧ ((QK s96c5_K (s96c5 Ψ (s96l1_G (s96l1 Ψ n1)))) ∧ (otP 1)))))) ∧ (True)))))))) (⟨trivial, ⟨fun _ _ _ _ _ H => H, fun _ => ⟨oI, ⟨trivial, ⟨otP_ok 1, ⟨⟨trivial, ⟨trivial, ⟨⟨trivial, ⟨fun _ _ _ _ _ _ _ _ _ _ H => H, fun _ => ⟨oI, ⟨trivial, ⟨otP_ok 1, ⟨⟨trivial, ⟨trivial, ⟨fun _ _ _ _ _ _ _ _ _ _ _ _ _ _ H => H, fun _ => ⟨oI, ⟨trivial, ⟨otP_ok 1, ⟨otP_ok 1, ⟨oI, trivial⟩⟩⟩⟩⟩⟩⟩⟩, trivial⟩⟩⟩⟩⟩⟩, ⟨trivial, ⟨oI, otP_ok 1⟩⟩⟩⟩⟩, trivial⟩⟩⟩⟩⟩⟩))
 (Eq.mpr (by as_aux_lemma => kernel_rfl : evF prog f96 (s96_A Ψ) Ψ [yield, c0] h = s96 Ψ yield c0 h) H)

/- 98 (*dictum/formula.Table).alive -/
def s98 (Ψ : AVal → Heap → Prop) (t : AVal) (h : Heap) : Prop :=
 nilP t fun b =>
 ifT (!b) (
 nilCheckA t fun p =>
 addOff p 1 fun p1 =>
 ld1 h p1 fun v =>
 nilM v fun b1 =>
 retG (.bool (!b1)) h Ψ) (
 retG (.bool false) h Ψ)

def s98_A (Ψ : AVal → Heap → Prop) : Ann :=
 .seq (rA 1)
 (.seq (.reg [⟨none, [(0, false), (1, false), (2, false)]⟩, ⟨some (5, true), [(3, false), (4, false), (5, false), (6, false), (7, false)]⟩, ⟨none, [(8, false), (9, false)]⟩])
 (.leaf))

theorem s98_ok {Ψ : AVal → Heap → Prop} {t : AVal} {h : Heap} (H : s98 Ψ t h) : ACalls prog 98 [t] h Ψ :=
 calls_of_evF func98 (by kernel_rfl) (by kernel_rfl) (by kernel_rfl)
 (Eq.mpr (by as_aux_lemma => kernel_rfl : oblF prog f98 (s98_A Ψ) Ψ = (otP 5)) (otP_ok 5))
 (Eq.mpr (by as_aux_lemma => kernel_rfl : evF prog f98 (s98_A Ψ) Ψ [t] h = s98 Ψ t h) H)

/- 100 dictum/bits.inside -/
def s100 (Ψ : AVal → Heap → Prop) (n : Int) (h : Heap) : Prop :=
 ifT (decide (0 ≤ n)) (
 retG (.bool (decide (n < 1024))) h Ψ) (
 retG (.bool false) h Ψ)

def s100_A (Ψ : AVal → Heap → Prop) : Ann :=
 .seq (rA 1)
 (.seq (.reg [⟨none, [(0, false), (1, false), (2, false)]⟩, ⟨some (5, true), [(3, false), (4, false)]⟩, ⟨none, [(5, false), (6, false)]⟩])
 (.leaf))

theorem s100_ok {Ψ : AVal → Heap → Prop} {n : Int} {h : Heap} (H : s100 Ψ n h) : ACalls prog 100 [(.int .i64 n)] h Ψ :=
 calls_of_evF func100 (by kernel_rfl) (by kernel_rfl) (by kernel_rfl)
 (Eq.mpr (by as_aux_lemma => kernel_rfl : oblF prog f100 (s100_A Ψ) Ψ = (otP 5)) (otP_ok 5))
 (Eq.mpr (by as_aux_lemma => kernel_rfl : evF prog f100 (s100_A Ψ) Ψ [(.int .i64 n)] h = s100 Ψ n h) H)

/- 104 slices.Index[[]string,string] -/
abbrev s104l1_T := AVal → ByteArray → Int → Int → Heap → Prop
abbrev s104l1_K : List Kd := [.any, .str, .int .i64, .int .i64]
def s104l1_G (F : s104l1_T) : s104l1_T := GK s104l1_K F
def s104l1_E (F : Nat → s104l1_T) : s104l1_T := EK s104l1_K F
theorem s104l1_go {F : s104l1_T} {x0 : AVal} {x1 : ByteArray} {x2 x3 : Int} {h : Heap} (H : F x0 x1 x2 x3 h) : s104l1_G F x0 x1 x2 x3 h := gJ_plain rfl H
theorem s104l1_in {F : Nat → s104l1_T} {x0 : AVal} {x1 : ByteArray} {x2 x3 : Int} {h : Heap} (n : Nat) (H : F n x0 x1 x2 x3 h) : s104l1_E F x0 x1 x2 x3 h := gJ_plain rfl ⟨n, H⟩

def s104l1 (Ψ : AVal → Heap → Prop) : Nat → s104l1_T
 | 0, _, _, _, _, _ => False
 | n1 + 1, s1, v1, t7, t8, h =>
 ifT (decide (t8 < t7)) (
 ixS 1 s1 t8 fun p =>
 ld1 h p fun v2 =>
 tStr v2 fun v3 =>
 ifT (strEq v1 v3) (
 retG (.int .i64 t8) h Ψ) (
 rg (t8 + 1) (
 s104l1_G (s104l1 Ψ n1) s1 v1 t7 (t8 + 1) h))) (
 retG (.int .i64 (-1)) h Ψ)

def s104 (Ψ : AVal → Heap → Prop) (s : AVal) (v : ByteArray) (h : Heap) : Prop :=
 lenN s fun n =>
 s104l1_E (s104l1 Ψ) s v n 0 h

def s104_A (Ψ : AVal → Heap → Prop) : Ann :=
 .seq (rA 1)
 (.seq (.seq (rA 3)
 (.block (loopK [0, 1, 7, 8] s104l1_K (s104l1 Ψ) (fun L1 =>
 .seq (rA 1)
 (.seq (.cond (.leaf)
 (.leaf))
 (.seq (.block (.seq (rA 2)
 (.seq (rA 6)
 (.cond (.seq (rA 2)
 (.leaf))
 (.leaf)))))
 (rA 2)))))))
 (.seq (rA 1)
 (.leaf)))

theorem s104_ok {Ψ : AVal → Heap → Prop} {s : AVal} {v : ByteArray} {h : Heap} (H : s104 Ψ s v h) : ACalls prog 104 [s, (.str v)] h Ψ :=
 calls_of_evF func104 (by kernel_rfl) (by kernel_rfl) (by kernel_rfl)
 (Eq.mpr (by as_aux_lemma => kernel_rfl : oblF prog f104 (s104_A Ψ) Ψ = ((True) ∧ (((True) ∧ ((NK s104l1_K (s104l1 Ψ 0)) ∧ (∀ n1 : Nat, (QK s104l1_K (s104l1 Ψ (n1 + 1))) ∧ (otP 6861)))) ∧ (otP 1)))) (⟨trivial, ⟨⟨trivial, ⟨fun _ _ _ _ _ H => H, fun _ => ⟨oI, otP_ok 6861⟩⟩⟩, otP_ok 1⟩⟩))
 (Eq.mpr (by as_aux_lemma => kernel_rfl : evF prog f104 (s104_A Ψ) Ψ [s, (.str v)] h = s104 Ψ s v h) H)

/- 119 dictum/bits.All$1 -/
abbrev s119l1_T := AVal → AVal → Int → Bool → Heap → Prop
abbrev s119l1_K : List Kd := [.any, .any, .int .i64, .bool]
def s119l1_G (F : s119l1_T) : s119l1_T := GK s119l1_K F
def s119l1_E (F : Nat → s119l1_T) : s119l1_T := EK s119l1_K F
theorem s119l1_go {F : s119l1_T} {x0 x1 : AVal} {x2 : Int} {x3 : Bool} {h : Heap} (H : F x0 x1 x2 x3 h) : s119l1_G F x0 x1 x2 x3 h := gJ_plain rfl H
theorem s119l1_in {F : Nat → s119l1_T} {x0 x1 : AVal} {x2 : Int} {x3 : Bool} {h : Heap} (n : Nat) (H : F n x0 x1 x2 x3 h) : s119l1_E F x0 x1 x2 x3 h := gJ_plain rfl ⟨n, H⟩

def s119l1 (Ψ : AVal → Heap → Prop) : Nat → s119l1_T
 | 0, _, _, _, _, _ => False
 | n1 + 1, yield1, t1, n, more, h =>
 ifT more (
 callV prog yield1 [(.int .i64 n)] h fun v5 h_1 =>
 tBool v5 fun v6 =>
 ifT (!v6) (
 retG (.tuple []) h_1 Ψ) (
 ldN 16 h_1 t1 fun l_4 =>
 rg (n + 1) (
 callG prog 83 [(.agg l_4), (.int .i64 (n + 1))] h_1 fun v7 h_2 =>
 tTup v7 fun l_5 =>
 tCons l_5 fun v8 l_6 =>
 tInt .i64 v8 fun v9 =>
 tCons l_6 fun v10 l_7 =>
 tBool v10 fun v11 =>
 tNil l_7 (
 s119l1_G (s119l1 Ψ n1) yield1 t1 v9 v11 h_2)))) (
 retG (.tuple []) h Ψ)

def s119 (Ψ : AVal → Heap → Prop) (yield : AVal) (c0 : AVal) (h : Heap) : Prop :=
 ldN 16 h c0 fun l_ =>
 callG prog 83 [(.agg l_), (.int .i64 0)] h fun v h_ =>
 tTup v fun l_1 =>
 tCons l_1 fun v1 l_2 =>
 tInt .i64 v1 fun v2 =>
 tCons l_2 fun v3 l_3 =>
 tBool v3 fun v4 =>
 tNil l_3 (
 s119l1_E (s119l1 Ψ) yield c0 v2 v4 h_)

def s119_A (Ψ : AVal → Heap → Prop) : Ann :=
 .seq (rA 7)
 (.block (loopK [0, 1, 3, 4] s119l1_K (s119l1 Ψ) (fun L1 =>
 .seq (.seq (rA 1)
 (.cond (.leaf)
 (.leaf)))
 (.seq (.block (.seq (rA 4)
 (.cond (.leaf)
 (.leaf))))
 (rA 9)))))

theorem s119_ok {Ψ : AVal → Heap → Prop} {yield : AVal} {c0 : AVal} {h : Heap} (H : s119 Ψ yield c0 h) : ACalls prog 119 [yield, c0] h Ψ :=
 calls_of_evF func119 (by kernel_rfl) (by kernel_rfl) (by kernel_rfl)
 (Eq.mpr (by as_aux_lemma => kernel_rfl : oblF prog f119 (s119_A Ψ) Ψ = ((True) ∧ ((NK s119l1_K (s119l1 Ψ 0)) ∧ (∀ n1 : Nat, (QK s119l1_K (s119l1 Ψ (n1 + 1))) ∧ (otP 715))))) (⟨trivial, ⟨fun _ _ _ _ _ H => H, fun _ => ⟨oI, otP_ok 715⟩⟩⟩))
 (Eq.mpr (by as_aux_lemma => kernel_rfl : evF prog f119 (s119_A Ψ) Ψ [yield, c0] h = s119 Ψ yield c0 h) H)

/- 121 dictum/dictumref03.Word -/
abbrev s121l2_T := ByteArray → Int → Heap → Prop
abbrev s121l2_K : List Kd := [.str, .int .i64]
def s121l2_G (F : s121l2_T) : s121l2_T := GK s121l2_K F
def s121l2_E (F : Nat → s121l2_T) : s121l2_T := EK s121l2_K F
theorem s121l2_go {F : s121l2_T} {x0 : ByteArray} {x1 : Int} {h : Heap} (H : F x0 x1 h) : s121l2_G F x0 x1 h := gJ_plain rfl H
theorem s121l2_in {F : Nat → s121l2_T} {x0 : ByteArray} {x1 : Int} {h : Heap} (n : Nat) (H : F n x0 x1 h) : s121l2_E F x0 x1 h := gJ_plain rfl ⟨n, H⟩

abbrev s121c3_K : List Kd := [.str, .int .i64, .bool]
def s121c3 (Ψ : AVal → Heap → Prop) (L2 : s121l2_T) (s3 : ByteArray) (i1 : Int) (t55 : Bool) (h : Heap) : Prop :=
 ifT t55 (
 retG (.bool false) h Ψ) (
 rg (i1 + 1) (
 L2 s3 (i1 + 1) h))

abbrev s121l4_T := ByteArray → AVal → Int → Heap → Prop
abbrev s121l4_K : List Kd := [.str, .any, .int .i64]
def s121l4_G (F : s121l4_T) : s121l4_T := GK s121l4_K F
def s121l4_E (F : Nat → s121l4_T) : s121l4_T := EK s121l4_K F
theorem s121l4_go {F : s121l4_T} {x0 : ByteArray} {x1 : AVal} {x2 : Int} {h : Heap} (H : F x0 x1 x2 h) : s121l4_G F x0 x1 x2 h := gJ_plain rfl H
theorem s121l4_in {F : Nat → s121l4_T} {x0 : ByteArray} {x1 : AVal} {x2 : Int} {h : Heap} (n : Nat) (H : F n x0 x1 x2 h) : s121l4_E F x0 x1 x2 h := gJ_plain rfl ⟨n, H⟩

def s121l4 (Ψ : AVal → Heap → Prop) : Nat → s121l4_T
 | 0, _, _, _, _ => False
 | n1 + 1, s4, l_, i2, h =>
 lenN l_ fun n2 =>
 ifT (decide (i2 < n2)) (
 ixS 1 l_ i2 fun p =>
 ld1 h p fun v3 =>
 tStr v3 fun v4 =>
 ifT (strEq v4 s4) (
 retG (.bool false) h Ψ) (
 rg (i2 + 1) (
 s121l4_G (s121l4 Ψ n1) s4 l_ (i2 + 1) h))) (
 retG (.bool true) h Ψ)

def s121l2 (Ψ : AVal → Heap → Prop) : Nat → s121l2_T
 | 0, _, _, _ => False
 | n + 1, s2, i, h =>
 ifT (decide (i < (s2.size : Int))) (
 ((0 : Int) ≤ i ∧ i < (s2.size : Int)) ∧
 callG prog 141 [(.int .u8 (btA s2 i))] h fun v h_ =>
 tBool v fun v1 =>
 ifT (!v1) (
 ((0 : Int) ≤ i ∧ i < (s2.size : Int)) ∧
 ifT (decide (48 ≤ (btA s2 i))) (
 ((0 : Int) ≤ i ∧ i < (s2.size : Int)) ∧
 ifT (!(decide ((btA s2 i) ≤ 57))) (
 ((0 : Int) ≤ i ∧ i < (s2.size : Int)) ∧
 ifT ((btA s2 i) != 95) (
 ((0 : Int) ≤ i ∧ i < (s2.size : Int)) ∧
 s121c3 Ψ (s121l2_G (s121l2 Ψ n)) s2 i ((btA s2 i) != 39) h_) (
 s121c3 Ψ (s121l2_G (s121l2 Ψ n)) s2 i false h_)) (
 s121c3 Ψ (s121l2_G (s121l2 Ψ n)) s2 i false h_)) (
 ((0 : Int) ≤ i ∧ i < (s2.size : Int)) ∧
 ifT ((btA s2 i) != 95) (
 ((0 : Int) ≤ i ∧ i < (s2.size : Int)) ∧
 s121c3 Ψ (s121l2_G (s121l2 Ψ n)) s2 i ((btA s2 i) != 39) h_) (
 s121c3 Ψ (s121l2_G (s121l2 Ψ n)) s2 i false h_))) (
 s121c3 Ψ (s121l2_G (s121l2 Ψ n)) s2 i false h_)) (
 callG prog 142 [] h fun v2 h_1 =>
 s121l4_E (s121l4 Ψ) s2 v2 0 h_1)

abbrev s121c1_K : List Kd := [.str, .bool]
def s121c1 (Ψ : AVal → Heap → Prop) (s1 : ByteArray) (t19 : Bool) (h : Heap) : Prop :=
 ifT t19 (
 retG (.bool false) h Ψ) (
 s121l2_E (s121l2 Ψ) s1 1 h)

def s121 (Ψ : AVal → Heap → Prop) (s : ByteArray) (h : Heap) : Prop :=
 ifT (decide ((s.size : Int) < 1)) (
 s121c1 Ψ s true h) (
 ifT (decide (31 < (s.size : Int))) (
 s121c1 Ψ s true h) (
 ((0 : Int) ≤ 0 ∧ 0 < (s.size : Int)) ∧
 callG prog 141 [(.int .u8 (btA s 0))] h fun v5 h_2 =>
 tBool v5 fun v6 =>
 s121c1 Ψ s (!v6) h_2))

def s121_A (Ψ : AVal → Heap → Prop) : Ann :=
 .seq (rA 1)
 (.seq (cutK [0, 19] s121c1_K (s121c1 Ψ) (.reg [⟨none, [(0, false), (1, false), (2, false), (3, false)]⟩, ⟨some (9, false), [(4, false), (5, false), (6, false)]⟩, ⟨none, [(7, false), (8, false)]⟩, ⟨some (14, false), [(9, false), (10, false), (11, false), (12, false)]⟩, ⟨none, [(13, false)]⟩])
 (.cond (.seq (rA 1)
 (.leaf))
 (.leaf)))
 (.seq (.seq (rA 1)
 (.block (loopK [0, 3] s121l2_K (s121l2 Ψ) (fun L2 =>
 .seq (.seq (rA 4)
 (.cond (.leaf)
 (.leaf)))
 (.seq (.block (cutK [0, 3, 55] s121c3_K (s121c3 Ψ (LK s121l2_K L2)) (.reg [⟨none, [(0, false), (1, false), (2, false), (3, false), (4, false), (5, false)]⟩, ⟨some (31, true), [(6, false), (7, false), (8, false), (9, false), (10, false)]⟩, ⟨some (36, true), [(11, false), (12, false), (13, false), (14, false)]⟩, ⟨some (31, true), [(15, false), (16, false)]⟩, ⟨none, [(17, false), (18, false)]⟩, ⟨some (44, true), [(19, false), (20, false), (21, false), (22, false)]⟩, ⟨none, [(23, false), (24, false)]⟩, ⟨some (50, true), [(25, false), (26, false), (27, false), (28, false)]⟩, ⟨none, [(29, false)]⟩])
 (.cond (.seq (rA 1)
 (.leaf))
 (.leaf))))
 (rA 3))))))
 (.seq (rA 2)
 (.seq (.seq (rA 1)
 (.block (loopK [0, 4, 5] s121l4_K (s121l4 Ψ) (fun L4 =>
 .seq (.seq (rA 4)
 (.cond (.leaf)
 (.leaf)))
 (.seq (.block (.seq (rA 6)
 (.cond (.seq (rA 1)
 (.leaf))
 (.leaf))))
 (rA 3))))))
 (.seq (rA 1)
 (.leaf))))))

theorem s121_ok {Ψ : AVal → Heap → Prop} {s : ByteArray} {h : Heap} (H : s121 Ψ s h) : ACalls prog 121 [(.str s)] h Ψ :=
 calls_of_evF func121 (by kernel_rfl) (by kernel_rfl) (by kernel_rfl)
 (Eq.mpr (by as_aux_lemma => kernel_rfl : oblF prog f121 (s121_A Ψ) Ψ = ((True) ∧ (((True) ∧ ((QK s121c1_K (s121c1 Ψ)) ∧ (otP 3))) ∧ (((True) ∧ ((NK s121l2_K (s121l2 Ψ 0)) ∧ (∀ n2 : Nat, (QK s121l2_K (s121l2 Ψ (n2 + 1))) ∧ ((otP 5) ∧ (((True) ∧ ((QK s121c3_K (s121c3 Ψ (s121l2_G (s121l2 Ψ n2)))) ∧ (otP 3))) ∧ (True)))))) ∧ ((True) ∧ (((True) ∧ ((NK s121l4_K (s121l4 Ψ 0)) ∧ (∀ n4 : Nat, (QK s121l4_K (s121l4 Ψ (n4 + 1))) ∧ (otP 1739)))) ∧ (otP 1))))))) (⟨trivial, ⟨⟨trivial, ⟨oI, otP_ok 3⟩⟩, ⟨⟨trivial, ⟨fun _ _ _ H => H, fun _ => ⟨oI, ⟨otP_ok 5, ⟨⟨trivial, ⟨oI, otP_ok 3⟩⟩, trivial⟩⟩⟩⟩⟩, ⟨trivial, ⟨⟨trivial, ⟨fun _ _ _ _ H => H, fun _ => ⟨oI, otP_ok 1739⟩⟩⟩, otP_ok 1⟩⟩⟩⟩⟩))
 (Eq.mpr (by as_aux_lemma => kernel_rfl : evF prog f121 (s121_A Ψ) Ψ [(.str s)] h = s121 Ψ s h) H)

/- 126 slices.pdqsortOrdered[string] -/
abbrev s126l1_T := AVal → Int → Int → Int → Bool → Bool → Heap → Prop
abbrev s126l1_K : List Kd := [.any, .int .i64, .int .i64, .int .i64, .bool, .bool]
def s126l1_G (F : s126l1_T) : s126l1_T := GK s126l1_K F
def s126l1_E (F : Nat → s126l1_T) : s126l1_T := EK s126l1_K F
theorem s126l1_in {F : Nat → s126l1_T} {x0 : AVal} {x1 x2 x3 : Int} {x4 x5 : Bool} {h : Heap} (n : Nat) (H : F n x0 x1 x2 x3 x4 x5 h) : s126l1_E F x0 x1 x2 x3 x4 x5 h := gJ_plain rfl ⟨n, H⟩

abbrev s126c5_K : List Kd := [.any, .int .i64, .int .i64, .int .i64, .bool, .bool, .int .i64, .int .i64, .bool]
def s126c5 (Ψ : AVal → Heap → Prop) (L1 : s126l1_T) (data5 : AVal) (a5 b5 limit5 : Int) (wasBalanced4 wasPartitioned4 : Bool) (length3 pivot2 : Int) (t87 : Bool) (h : Heap) : Prop :=
 ifT t87 (
 callG prog 151 [data5, (.int .i64 a5), (.int .i64 b5), (.int .i64 pivot2)] h fun v7 h_3 =>
 tInt .i64 v7 fun v8 =>
 L1 data5 v8 b5 limit5 wasBalanced4 wasPartitioned4 h_3) (
 callG prog 152 [data5, (.int .i64 a5), (.int .i64 b5), (.int .i64 pivot2)] h fun v9 h_4 =>
 tTup v9 fun l_3 =>
 tCons l_3 fun v10 l_4 =>
 tInt .i64 v10 fun v11 =>
 tCons l_4 fun v12 l_5 =>
 tBool v12 fun v13 =>
 tNil l_5 (
 rg (v11 - a5) (
 rg (b5 - v11) (
 8 ≠ (0 : Int) ∧
 rg (Int.tdiv length3 8) (
 ifT (decide ((v11 - a5) < (b5 - v11))) (
 callG prog 126 [data5, (.int .i64 a5), (.int .i64 v11), (.int .i64 limit5)] h_4 fun v14 h_5 =>
 rg (v11 + 1) (
 L1 data5 (v11 + 1) b5 limit5 (decide ((Int.tdiv length3 8) ≤ (v11 - a5))) v13 h_5)) (
 rg (v11 + 1) (
 callG prog 126 [data5, (.int .i64 (v11 + 1)), (.int .i64 b5), (.int .i64 limit5)] h_4 fun v15 h_6 =>
 L1 data5 a5 v11 limit5 (decide ((Int.tdiv length3 8) ≤ (b5 - v11))) v13 h_6)))))))

abbrev s126c4_K : List Kd := [.any, .int .i64, .int .i64, .int .i64, .bool, .bool, .int .i64, .int .i64]
def s126c4 (Ψ : AVal → Heap → Prop) (L1 : s126l1_T) (data4 : AVal) (a4 b4 limit4 : Int) (wasBalanced3 wasPartitioned3 : Bool) (length2 pivot1 : Int) (h : Heap) : Prop :=
 ifT (decide (0 < a4)) (
 rg (a4 - 1) (
 ixS 1 data4 (a4 - 1) fun p =>
 ld1 h p fun v16 =>
 tStr v16 fun v17 =>
 ixS 1 data4 pivot1 fun p1 =>
 ld1 h p1 fun v18 =>
 tStr v18 fun v19 =>
 callG prog 150 [(.str v17), (.str v19)] h fun v20 h_7 =>
 tBool v20 fun v21 =>
 s126c5 Ψ L1 data4 a4 b4 limit4 wasBalanced3 wasPartitioned3 length2 pivot1 (!v21) h_7)) (
 s126c5 Ψ L1 data4 a4 b4 limit4 wasBalanced3 wasPartitioned3 length2 pivot1 false h)

abbrev s126c6_K : List Kd := [.any, .int .i64, .int .i64, .int .i64, .bool, .bool, .int .i64, .int .i64, .bool]
def s126c6 (Ψ : AVal → Heap → Prop) (L1 : s126l1_T) (data6 : AVal) (a6 b6 limit6 : Int) (wasBalanced5 wasPartitioned5 : Bool) (length4 pivot3 : Int) (t68 : Bool) (h : Heap) : Prop :=
 ifT t68 (
 callG prog 149 [data6, (.int .i64 a6), (.int .i64 b6)] h fun v22 h_8 =>
 tBool v22 fun v23 =>
 ifT v23 (
 retG (.tuple []) h_8 Ψ) (
 s126c4 Ψ L1 data6 a6 b6 limit6 wasBalanced5 wasPartitioned5 length4 pivot3 h_8)) (
 s126c4 Ψ L1 data6 a6 b6 limit6 wasBalanced5 wasPartitioned5 length4 pivot3 h)

abbrev s126c3_K : List Kd := [.any, .int .i64, .int .i64, .int .i64, .bool, .bool, .int .i64, .int .i64, .int .i64]
def s126c3 (Ψ : AVal → Heap → Prop) (L1 : s126l1_T) (data3 : AVal) (a3 b3 limit3 : Int) (wasBalanced2 wasPartitioned2 : Bool) (length1 pivot hint : Int) (h : Heap) : Prop :=
 ifT wasBalanced2 (
 ifT wasPartitioned2 (
 s126c6 Ψ L1 data3 a3 b3 limit3 wasBalanced2 wasPartitioned2 length1 pivot (hint == 1) h) (
 s126c6 Ψ L1 data3 a3 b3 limit3 wasBalanced2 wasPartitioned2 length1 pivot false h)) (
 s126c6 Ψ L1 data3 a3 b3 limit3 wasBalanced2 wasPartitioned2 length1 pivot false h)

abbrev s126c2_K : List Kd := [.any, .int .i64, .int .i64, .int .i64, .bool, .bool, .int .i64]
def s126c2 (Ψ : AVal → Heap → Prop) (L1 : s126l1_T) (data2 : AVal) (a2 b2 limit2 : Int) (wasBalanced1 wasPartitioned1 : Bool) (length : Int) (h : Heap) : Prop :=
 callG prog 147 [data2, (.int .i64 a2), (.int .i64 b2)] h fun v2 h_2 =>
 tTup v2 fun l_ =>
 tCons l_ fun v3 l_1 =>
 tInt .i64 v3 fun v4 =>
 tCons l_1 fun v5 l_2 =>
 tInt .i64 v5 fun v6 =>
 tNil l_2 (
 ifT (v6 == 2) (
 callG prog 148 [data2, (.int .i64 a2), (.int .i64 b2)] h_2 fun v24 h_9 =>
 rg (b2 - 1) (
 rg (v4 - a2) (
 rg ((b2 - 1) - (v4 - a2)) (
 s126c3 Ψ L1 data2 a2 b2 limit2 wasBalanced1 wasPartitioned1 length ((b2 - 1) - (v4 - a2)) 1 h_9)))) (
 s126c3 Ψ L1 data2 a2 b2 limit2 wasBalanced1 wasPartitioned1 length v4 v6 h_2))

def s126l1 (Ψ : AVal → Heap → Prop) : Nat → s126l1_T
 | 0, _, _, _, _, _, _, _ => False
 | n + 1, data1, a1, b1, limit1, wasBalanced, wasPartitioned, h =>
 rg (b1 - a1) (
 ifT (decide ((b1 - a1) ≤ 12)) (
 callG prog 144 [data1, (.int .i64 a1), (.int .i64 b1)] h fun v h_ =>
 retG (.tuple []) h_ Ψ) (
 ifT (limit1 == 0) (
 callG prog 145 [data1, (.int .i64 a1), (.int .i64 b1)] h fun v1 h_1 =>
 retG (.tuple []) h_1 Ψ) (
 ifT (!wasBalanced) (
 callG prog 146 [data1, (.int .i64 a1), (.int .i64 b1)] h fun v25 h_10 =>
 rg (limit1 - 1) (
 s126c2 Ψ (s126l1_G (s126l1 Ψ n)) data1 a1 b1 (limit1 - 1) wasBalanced wasPartitioned (b1 - a1) h_10)) (
 s126c2 Ψ (s126l1_G (s126l1 Ψ n)) data1 a1 b1 limit1 wasBalanced wasPartitioned (b1 - a1) h))))

def s126 (Ψ : AVal → Heap → Prop) (data : AVal) (a : Int) (b : Int) (limit : Int) (h : Heap) : Prop :=
 s126l1_E (s126l1 Ψ) data a b limit true true h

def s126_A (Ψ : AVal → Heap → Prop) : Ann :=
 .seq (rA 1)
 (.seq (rA 1)
 (.block (loopK [0, 1, 2, 3, 8, 9] s126l1_K (s126l1 Ψ) (fun L1 =>
 .block (.seq (rA 4)
 (.seq (.seq (rA 2)
 (.cond (.seq (rA 4)
 (.leaf))
 (.leaf)))
 (.seq (.seq (rA 2)
 (.cond (.seq (rA 4)
 (.leaf))
 (.leaf)))
 (cutK [0, 1, 2, 3, 8, 9, 10] s126c2_K (s126c2 Ψ (LK s126l1_K L1)) (.seq (rA 2)
 (.cond (.seq (rA 4)
 (rA 3))
 (.leaf)))
 (.seq (rA 9)
 (cutK [0, 1, 2, 3, 8, 9, 10, 11, 12] s126c3_K (s126c3 Ψ (LK s126l1_K L1)) (.seq (rA 2)
 (.cond (.seq (rA 4)
 (.seq (rA 7)
 (rA 1)))
 (.leaf)))
 (cutK [0, 1, 2, 3, 8, 9, 10, 11] s126c4_K (s126c4 Ψ (LK s126l1_K L1)) (cutK [0, 1, 2, 3, 8, 9, 10, 11, 68] s126c6_K (s126c6 Ψ (LK s126l1_K L1)) (.reg [⟨none, [(0, false), (1, false)]⟩, ⟨some (62, true), [(2, false)]⟩, ⟨none, [(3, false), (4, false)]⟩, ⟨some (65, true), [(5, false), (6, false)]⟩, ⟨none, [(7, false)]⟩])
 (.cond (.seq (rA 4)
 (.cond (.leaf)
 (.leaf)))
 (.leaf)))
 (.seq (cutK [0, 1, 2, 3, 8, 9, 10, 11, 87] s126c5_K (s126c5 Ψ (LK s126l1_K L1)) (.draw [(0, false), (1, false), (2, false), (3, false), (4, false), (5, false), (6, false), (7, false), (8, false), (9, false), (10, false), (11, false), (12, false), (13, false), (14, false)] [0, 1, 3, 7, 7, 23, 63, 127, 7, 7, 775, 1799, 4095, 8191, 16383])
 (.cond (.seq (rA 6)
 (.seq (rA 2)
 (.leaf)))
 (.leaf)))
 (.seq (rA 10)
 (.seq (rA 2)
 (.seq (rA 8)
 (.seq (rA 3)
 (.seq (rA 3)
 (.cond (.seq (rA 4)
 (.seq (rA 5)
 (rA 3)))
 (.seq (rA 4)
 (.seq (rA 6)
 (rA 2)))))))))))))))))))))

theorem s126_ok {Ψ : AVal → Heap → Prop} {data : AVal} {a : Int} {b : Int} {limit : Int} {h : Heap} (H : s126 Ψ data a b limit h) : ACalls prog 126 [data, (.int .i64 a), (.int .i64 b), (.int .i64 limit)] h Ψ :=
 calls_of_evF func126 (by kernel_rfl) (by kernel_rfl) (by kernel_rfl)
 (Eq.mpr (by as_aux_lemma => kernel_rfl : oblF prog f126 (s126_A Ψ) Ψ = ((True) ∧ ((True) ∧ ((NK s126l1_K (s126l1 Ψ 0)) ∧ (∀ n1 : Nat, (QK s126l1_K (s126l1 Ψ (n1 + 1))) ∧ ((True) ∧ ((otP 13) ∧ ((otP 13) ∧ ((otP 13) ∧ ((QK s126c2_K (s126c2 Ψ (s126l1_G (s126l1 Ψ n1)))) ∧ ((True) ∧ ((otP 45) ∧ ((QK s126c3_K (s126c3 Ψ (s126l1_G (s126l1 Ψ n1)))) ∧ (((True) ∧ ((QK s126c6_K (s126c6 Ψ (s126l1_G (s126l1 Ψ n1)))) ∧ (otP 11))) ∧ ((QK s126c4_K (s126c4 Ψ (s126l1_G (s126l1 Ψ n1)))) ∧ (((True) ∧ ((QK s126c5_K (s126c5 Ψ (s126l1_G (s126l1 Ψ n1)))) ∧ (otP 11))) ∧ (otP 339285))))))))))))))))) (⟨trivial, ⟨trivial, ⟨fun _ _ _ _ _ _ _ H => H, fun _ => ⟨oI, ⟨trivial, ⟨otP_ok 13, ⟨otP_ok 13, ⟨otP_ok 13, ⟨oI, ⟨trivial, ⟨otP_ok 45, ⟨oI, ⟨⟨trivial, ⟨oI, otP_ok 11⟩⟩, ⟨oI, ⟨⟨trivial, ⟨oI, otP_ok 11⟩⟩, otP_ok 339285⟩⟩⟩⟩⟩⟩⟩⟩⟩⟩⟩⟩⟩⟩⟩))
 (Eq.mpr (by as_aux_lemma => kernel_rfl : evF prog f126 (s126_A Ψ) Ψ [data, (.int .i64 a), (.int .i64 b), (.int .i64 limit)] h = s126 Ψ data a b limit h) H)

/- 128 dictum/formula.Word -/
abbrev s128l1_T := ByteArray → Int → Int → Heap → Prop
abbrev s128l1_K : List Kd := [.str, .int .i64, .int .i64]
def s128l1_G (F : s128l1_T) : s128l1_T := GK s128l1_K F
def s128l1_E (F : Nat → s128l1_T) : s128l1_T := EK s128l1_K F
theorem s128l1_go {F : s128l1_T} {x0 : ByteArray} {x1 x2 : Int} {h : Heap} (H : F x0 x1 x2 h) : s128l1_G F x0 x1 x2 h := gJ_plain rfl H
theorem s128l1_in {F : Nat → s128l1_T} {x0 : ByteArray} {x1 x2 : Int} {h : Heap} (n : Nat) (H : F n x0 x1 x2 h) : s128l1_E F x0 x1 x2 h := gJ_plain rfl ⟨n, H⟩

abbrev s128c3_K : List Kd := [.str, .int .i64, .int .i64, .bool]
def s128c3 (Ψ : AVal → Heap → Prop) (L1 : s128l1_T) (name3 : ByteArray) (t8_2 t9_2 : Int) (t44 : Bool) (h : Heap) : Prop :=
 ifT t44 (
 retG (.bool false) h Ψ) (
 rg (t9_2 + 1) (
 L1 name3 t8_2 (t9_2 + 1) h))

abbrev s128c2_K : List Kd := [.str, .int .i64, .int .u8, .bool, .int .i64, .int .i64]
def s128c2 (Ψ : AVal → Heap → Prop) (L1 : s128l1_T) (name2 : ByteArray) (i c : Int) (letter : Bool) (t8_1 t9_1 : Int) (h : Heap) : Prop :=
 ifT (!letter) (
 ifT (i == 0) (
 s128c3 Ψ L1 name2 t8_1 t9_1 true h) (
 ifT (c != 95) (
 ifT (c != 39) (
 ifT (decide (c < 48)) (
 s128c3 Ψ L1 name2 t8_1 t9_1 true h) (
 s128c3 Ψ L1 name2 t8_1 t9_1 (decide (57 < c)) h)) (
 s128c3 Ψ L1 name2 t8_1 t9_1 false h)) (
 s128c3 Ψ L1 name2 t8_1 t9_1 false h))) (
 s128c3 Ψ L1 name2 t8_1 t9_1 false h)

def s128l1 (Ψ : AVal → Heap → Prop) : Nat → s128l1_T
 | 0, _, _, _, _ => False
 | n + 1, name1, t8, t9, h =>
 ifT (decide (t9 < t8)) (
 ((0 : Int) ≤ t9 ∧ t9 < (name1.size : Int)) ∧
 ifT (decide (97 ≤ (bitsI .or .u8 (btA name1 t9) 32))) (
 s128c2 Ψ (s128l1_G (s128l1 Ψ n)) name1 t9 (btA name1 t9) (decide ((bitsI .or .u8 (btA name1 t9) 32) ≤ 122)) t8 t9 h) (
 s128c2 Ψ (s128l1_G (s128l1 Ψ n)) name1 t9 (btA name1 t9) false t8 t9 h)) (
 ifT (!strEq name1 (ByteArray.mk #[])) (
 ifT (decide ((name1.size : Int) ≤ 31)) (
 callG prog 155 [(.str name1)] h fun v h_ =>
 tBool v fun v1 =>
 retG (.bool (!v1)) h_ Ψ) (
 retG (.bool false) h Ψ)) (
 retG (.bool false) h Ψ))

def s128 (Ψ : AVal → Heap → Prop) (name : ByteArray) (h : Heap) : Prop :=
 s128l1_E (s128l1 Ψ) name (name.size : Int) 0 h

def s128_A (Ψ : AVal → Heap → Prop) : Ann :=
 .seq (rA 1)
 (.seq (.seq (rA 3)
 (.block (loopK [0, 8, 9] s128l1_K (s128l1 Ψ) (fun L1 =>
 .seq (rA 1)
 (.seq (.cond (.leaf)
 (.leaf))
 (.seq (.block (.seq (rA 2)
 (.seq (rA 4)
 (.seq (rA 3)
 (cutK [0, 3, 4, 6, 8, 9] s128c2_K (s128c2 Ψ (LK s128l1_K L1)) (.reg [⟨none, [(0, false), (1, false), (2, false)]⟩, ⟨some (19, true), [(3, false), (4, false)]⟩, ⟨none, [(5, false), (6, false)]⟩])
 (cutK [0, 8, 9, 44] s128c3_K (s128c3 Ψ (LK s128l1_K L1)) (.reg [⟨none, [(0, false), (1, false), (2, false)]⟩, ⟨some (25, true), [(3, false), (4, false), (5, false)]⟩, ⟨some (28, false), [(6, false), (7, false), (8, false)]⟩, ⟨some (31, true), [(9, false), (10, false)]⟩, ⟨some (28, false), [(11, false), (12, false)]⟩, ⟨some (35, true), [(13, false), (14, false), (15, false)]⟩, ⟨some (38, false), [(16, false), (17, false)]⟩, ⟨some (35, true), [(18, false)]⟩, ⟨some (28, false), [(19, false)]⟩, ⟨some (25, true), [(20, false)]⟩, ⟨none, [(21, false)]⟩])
 (.cond (.seq (rA 1)
 (.leaf))
 (.leaf))))))))
 (rA 2)))))))
 (.seq (.reg [⟨none, [(0, false), (1, false), (2, false)]⟩, ⟨some (48, true), [(3, false), (4, false), (5, false)]⟩, ⟨none, [(6, false), (7, false)]⟩, ⟨some (53, true), [(8, false), (9, false), (10, false)]⟩, ⟨none, [(11, false), (12, false)]⟩])
 (.leaf)))

theorem s128_ok {Ψ : AVal → Heap → Prop} {name : ByteArray} {h : Heap} (H : s128 Ψ name h) : ACalls prog 128 [(.str name)] h Ψ :=
 calls_of_evF func128 (by kernel_rfl) (by kernel_rfl) (by kernel_rfl)
 (Eq.mpr (by as_aux_lemma => kernel_rfl : oblF prog f128 (s128_A Ψ) Ψ = ((True) ∧ (((True) ∧ ((NK s128l1_K (s128l1 Ψ 0)) ∧ (∀ n1 : Nat, (QK s128l1_K (s128l1 Ψ (n1 + 1))) ∧ ((True) ∧ ((otP 1) ∧ (((True) ∧ ((True) ∧ ((True) ∧ ((True) ∧ ((QK s128c2_K (s128c2 Ψ (s128l1_G (s128l1 Ψ n1)))) ∧ ((True) ∧ ((QK s128c3_K (s128c3 Ψ (s128l1_G (s128l1 Ψ n1)))) ∧ (otP 3)))))))) ∧ (True))))))) ∧ (otP 1)))) (⟨trivial, ⟨⟨trivial, ⟨fun _ _ _ _ H => H, fun _ => ⟨oI, ⟨trivial, ⟨otP_ok 1, ⟨⟨trivial, ⟨trivial, ⟨trivial, ⟨trivial, ⟨oI, ⟨trivial, ⟨oI, otP_ok 3⟩⟩⟩⟩⟩⟩⟩, trivial⟩⟩⟩⟩⟩⟩, otP_ok 1⟩⟩))
 (Eq.mpr (by as_aux_lemma => kernel_rfl : evF prog f128 (s128_A Ψ) Ψ [(.str name)] h = s128 Ψ name h) H)

/- 130 dictum/worlds.reckon -/
abbrev s130l1_T := AVal → Int → AVal → Int → Int → Heap → Prop
abbrev s130l1_K : List Kd := [.any, .int .i64, .any, .int .i64, .int .i64]
def s130l1_G (F : s130l1_T) : s130l1_T := GK s130l1_K F
def s130l1_E (F : Nat → s130l1_T) : s130l1_T := EK s130l1_K F
theorem s130l1_in {F : Nat → s130l1_T} {x0 : AVal} {x1 : Int} {x2 : AVal} {x3 x4 : Int} {h : Heap} (n : Nat) (H : F n x0 x1 x2 x3 x4 h) : s130l1_E F x0 x1 x2 x3 x4 h := gJ_plain rfl ⟨n, H⟩

abbrev s130l2_T := AVal → Int → AVal → AVal → AVal → Int → Int → Heap → Prop
abbrev s130l2_K : List Kd := [.any, .int .i64, .any, .any, .any, .int .i64, .int .i64]
def s130l2_G (F : s130l2_T) : s130l2_T := GK s130l2_K F
def s130l2_E (F : Nat → s130l2_T) : s130l2_T := EK s130l2_K F
theorem s130l2_go {F : s130l2_T} {x0 : AVal} {x1 : Int} {x2 x3 x4 : AVal} {x5 x6 : Int} {h : Heap} (H : F x0 x1 x2 x3 x4 x5 x6 h) : s130l2_G F x0 x1 x2 x3 x4 x5 x6 h := gJ_plain rfl H
theorem s130l2_in {F : Nat → s130l2_T} {x0 : AVal} {x1 : Int} {x2 x3 x4 : AVal} {x5 x6 : Int} {h : Heap} (n : Nat) (H : F n x0 x1 x2 x3 x4 x5 x6 h) : s130l2_E F x0 x1 x2 x3 x4 x5 x6 h := gJ_plain rfl ⟨n, H⟩

abbrev s130l3_T := AVal → Int → AVal → AVal → AVal → Int → Int → AVal → Int → Int → Heap → Prop
abbrev s130l3_K : List Kd := [.any, .int .i64, .any, .any, .any, .int .i64, .int .i64, .any, .int .i64, .int .i64]
def s130l3_G (F : s130l3_T) : s130l3_T := GK s130l3_K F
def s130l3_E (F : Nat → s130l3_T) : s130l3_T := EK s130l3_K F
theorem s130l3_go {F : s130l3_T} {x0 : AVal} {x1 : Int} {x2 x3 x4 : AVal} {x5 x6 : Int} {x7 : AVal} {x8 x9 : Int} {h : Heap} (H : F x0 x1 x2 x3 x4 x5 x6 x7 x8 x9 h) : s130l3_G F x0 x1 x2 x3 x4 x5 x6 x7 x8 x9 h := gJ_plain rfl H
theorem s130l3_in {F : Nat → s130l3_T} {x0 : AVal} {x1 : Int} {x2 x3 x4 : AVal} {x5 x6 : Int} {x7 : AVal} {x8 x9 : Int} {h : Heap} (n : Nat) (H : F n x0 x1 x2 x3 x4 x5 x6 x7 x8 x9 h) : s130l3_E F x0 x1 x2 x3 x4 x5 x6 x7 x8 x9 h := gJ_plain rfl ⟨n, H⟩

abbrev s130c4_K : List Kd := [.any, .int .i64, .any, .any, .any, .int .i64, .int .i64, .any, .int .i64, .int .i64]
def s130c4 (Ψ : AVal → Heap → Prop) (L1 : s130l1_T) (L2 : s130l2_T) (L3 : s130l3_T) (m3 : AVal) (n12 : Int) (above3 row2 stack2 : AVal) (t18_3 t19_3 : Int) (t51_1 : AVal) (t52_1 t53_1 : Int) (h : Heap) : Prop :=
 rg (t53_1 + 1) (
 L3 m3 n12 above3 row2 stack2 t18_3 t19_3 t51_1 t52_1 (t53_1 + 1) h)

abbrev s130c5_K : List Kd := [.any, .int .i64, .any, .any, .any, .int .i64, .int .i64, .int .i64, .any, .int .i64, .int .i64, .bool]
def s130c5 (Ψ : AVal → Heap → Prop) (L1 : s130l1_T) (L2 : s130l2_T) (L3 : s130l3_T) (m4 : AVal) (n13 : Int) (above4 row3 stack3 : AVal) (b t18_4 t19_4 : Int) (t51_2 : AVal) (t52_2 t53_2 : Int) (t63 : Bool) (h : Heap) : Prop :=
 ifT t63 (
 retG (.tuple [.nilfunc, (.bool false)]) h Ψ) (
 ixS 1 row3 b fun p6 =>
 ld1 h p6 fun v11 =>
 tBool v11 fun v12 =>
 ifT (!v12) (
 ixS 1 row3 b fun p7 =>
 st true h p7 [(.bool true)] fun h_7 =>
 appC 1 8 h_7 stack3 (.lsl 1 [(.int .i64 b)]) fun v13 h_8 =>
 s130c4 Ψ L1 L2 L3 m4 n13 above4 row3 v13 t18_4 t19_4 t51_2 t52_2 t53_2 h_8) (
 s130c4 Ψ L1 L2 L3 m4 n13 above4 row3 stack3 t18_4 t19_4 t51_2 t52_2 t53_2 h))

def s130l3 (Ψ : AVal → Heap → Prop) (L1 : s130l1_T) (L2 : s130l2_T) : Nat → s130l3_T
 | 0, _, _, _, _, _, _, _, _, _, _, _ => False
 | n11 + 1, m2, n10, above2, row1, stack1, t18_2, t19_2, t51, t52, t53, h =>
 ifT (decide (t53 < t52)) (
 ixS 1 t51 t53 fun p5 =>
 ld1 h p5 fun v9 =>
 tInt .i64 v9 fun v10 =>
 ifT (decide (v10 < 0)) (
 s130c5 Ψ L1 L2 (s130l3_G (s130l3 Ψ L1 L2 n11)) m2 n10 above2 row1 stack1 v10 t18_2 t19_2 t51 t52 t53 true h) (
 s130c5 Ψ L1 L2 (s130l3_G (s130l3 Ψ L1 L2 n11)) m2 n10 above2 row1 stack1 v10 t18_2 t19_2 t51 t52 t53 (decide (n10 ≤ v10)) h)) (
 L2 m2 n10 above2 row1 stack1 t18_2 t19_2 h)

def s130l2 (Ψ : AVal → Heap → Prop) (L1 : s130l1_T) : Nat → s130l2_T
 | 0, _, _, _, _, _, _, _, _ => False
 | n5 + 1, m1, n4, above1, row, stack, t18_1, t19_1, h =>
 lenN stack fun n6 =>
 ifT (decide (0 < n6)) (
 lenN stack fun n7 =>
 rg (n7 - 1) (
 ixS 1 stack (n7 - 1) fun p2 =>
 ld1 h p2 fun v4 =>
 tInt .i64 v4 fun v5 =>
 lenN stack fun n8 =>
 rg (n8 - 1) (
 slX 1 stack 0 (some (n8 - 1)) fun v6 =>
 addOff m1 0 fun p3 =>
 ld1 h p3 fun v7 =>
 ixS 1 v7 v5 fun p4 =>
 ld1 h p4 fun v8 =>
 lenN v8 fun n9 =>
 s130l3_E (s130l3 Ψ L1 (s130l2_G (s130l2 Ψ L1 n5))) m1 n4 above1 row v6 t18_1 t19_1 v8 n9 0 h))) (
 rg (t19_1 + 1) (
 L1 m1 n4 above1 t18_1 (t19_1 + 1) h))

def s130l1 (Ψ : AVal → Heap → Prop) : Nat → s130l1_T
 | 0, _, _, _, _, _, _ => False
 | n3 + 1, m, n2, above, t18, t19, h =>
 ifT (decide (t19 < t18)) (
 mkS false 1 1 (.bool false) h n2 n2 fun v2 h_3 =>
 ld1 h_3 above fun v3 =>
 ixS 1 v3 t19 fun p =>
 chk (sc v2) (
 st true h_3 p [v2] fun h_4 =>
 ixS 1 v2 t19 fun p1 =>
 st true h_4 p1 [(.bool true)] fun h_5 =>
 Sym.newRow 1 [(.int .i64 t19)] h_5 fun r1 h_6 =>
 s130l2_E (s130l2 Ψ (s130l1_G (s130l1 Ψ n3))) m n2 above v2 (.sl r1 1 0 1) t18 t19 h_6)) (
 retG (.tuple [(.func (.func 156) [] [above]), (.bool true)]) h Ψ)

def s130 (Ψ : AVal → Heap → Prop) (m_Up : AVal) (m_Val : AVal) (h : Heap) : Prop :=
 lenN m_Up fun n =>
 mkS false 1 24 .nilsl h n n fun v h_ =>
 Sym.newRow 1 [.nilsl] h_ fun r h_1 =>
 chk (sc v) (
 st true h_1 (.ptr r 0 0) [v] fun h_2 =>
 ld1 h_2 (.ptr r 0 0) fun v1 =>
 lenN v1 fun n1 =>
 s130l1_E (s130l1 Ψ) (.lptr [m_Up, m_Val]) n (.ptr r 0 0) n1 0 h_2)

def s130_A (Ψ : AVal → Heap → Prop) : Ann :=
 .seq (.reg [⟨none, [(0, true), (1, false), (2, false)]⟩])
 (.seq (rA 4)
 (.seq (rA 4)
 (.seq (.seq (rA 3)
 (.block (loopK [1, 4, 5, 18, 19] s130l1_K (s130l1 Ψ) (fun L1 =>
 .seq (rA 1)
 (.seq (.cond (.leaf)
 (.leaf))
 (.seq (.block (.seq (rA 2)
 (.seq (rA 3)
 (.seq (rA 5)
 (.seq (rA 4)
 (.seq (rA 3)
 (.block (loopK [1, 4, 5, 7, 8, 18, 19] s130l2_K (s130l2 Ψ (LK s130l1_K L1)) (fun L2 =>
 .seq (.seq (rA 3)
 (.cond (.leaf)
 (.leaf)))
 (.block (.seq (rA 7)
 (.seq (rA 6)
 (.seq (rA 7)
 (.block (loopK [1, 4, 5, 7, 8, 18, 19, 51, 52, 53] s130l3_K (s130l3 Ψ (LK s130l1_K L1) (LK s130l2_K L2)) (fun L3 =>
 .seq (rA 1)
 (.seq (.cond (.leaf)
 (.leaf))
 (cutK [1, 4, 5, 7, 8, 18, 19, 51, 52, 53] s130c4_K (s130c4 Ψ (LK s130l1_K L1) (LK s130l2_K L2) (LK s130l3_K L3)) (.block (.seq (rA 3)
 (.seq (cutK [1, 4, 5, 7, 8, 11, 18, 19, 51, 52, 53, 63] s130c5_K (s130c5 Ψ (LK s130l1_K L1) (LK s130l2_K L2) (LK s130l3_K L3)) (.reg [⟨none, [(0, false), (1, false), (2, false)]⟩, ⟨some (59, false), [(3, false), (4, false), (5, false)]⟩, ⟨none, [(6, false)]⟩])
 (.cond (.seq (rA 2)
 (.leaf))
 (.leaf)))
 (.seq (rA 5)
 (.cond (.seq (rA 4)
 (.reg [⟨none, [(0, false), (1, false), (2, true), (3, false), (4, false)]⟩]))
 (.leaf))))))
 (rA 2)))))))))))))))))))
 (rA 2)))))))
 (.seq (rA 3)
 (.leaf)))))

theorem s130_ok {Ψ : AVal → Heap → Prop} {m_Up : AVal} {m_Val : AVal} {h : Heap} (H : s130 Ψ m_Up m_Val h) : ACalls prog 130 [(.agg [m_Up, m_Val])] h Ψ :=
 calls_of_evF func130 (by kernel_rfl) (by kernel_rfl) (by kernel_rfl)
 (Eq.mpr (by as_aux_lemma => kernel_rfl : oblF prog f130 (s130_A Ψ) Ψ = ((True) ∧ ((True) ∧ ((True) ∧ (((True) ∧ ((NK s130l1_K (s130l1 Ψ 0)) ∧ (∀ n1 : Nat, (QK s130l1_K (s130l1 Ψ (n1 + 1))) ∧ ((True) ∧ ((otP 1) ∧ (((True) ∧ ((True) ∧ ((True) ∧ ((True) ∧ ((True) ∧ ((NK s130l2_K (s130l2 Ψ (s130l1_G (s130l1 Ψ n1)) 0)) ∧ (∀ n2 : Nat, (QK s130l2_K (s130l2 Ψ (s130l1_G (s130l1 Ψ n1)) (n2 + 1))) ∧ ((otP 5) ∧ ((True) ∧ ((True) ∧ ((True) ∧ ((NK s130l3_K (s130l3 Ψ (s130l1_G (s130l1 Ψ n1)) (s130l2_G (s130l2 Ψ (s130l1_G (s130l1 Ψ n1)) n2)) 0)) ∧ (∀ n3 : Nat, (QK s130l3_K (s130l3 Ψ (s130l1_G (s130l1 Ψ n1)) (s130l2_G (s130l2 Ψ (s130l1_G (s130l1 Ψ n1)) n2)) (n3 + 1))) ∧ ((True) ∧ ((otP 1) ∧ (((True) ∧ (((True) ∧ ((QK s130c5_K (s130c5 Ψ (s130l1_G (s130l1 Ψ n1)) (s130l2_G (s130l2 Ψ (s130l1_G (s130l1 Ψ n1)) n2)) (s130l3_G (s130l3 Ψ (s130l1_G (s130l1 Ψ n1)) (s130l2_G (s130l2 Ψ (s130l1_G (s130l1 Ψ n1)) n2)) n3)))) ∧ (otP 3))) ∧ (otP 13))) ∧ ((QK s130c4_K (s130c4 Ψ (s130l1_G (s130l1 Ψ n1)) (s130l2_G (s130l2 Ψ (s130l1_G (s130l1 Ψ n1)) n2)) (s130l3_G (s130l3 Ψ (s130l1_G (s130l1 Ψ n1)) (s130l2_G (s130l2 Ψ (s130l1_G (s130l1 Ψ n1)) n2)) n3)))) ∧ (True)))))))))))))))))) ∧ (True))))))) ∧ (otP 1)))))) (⟨trivial, ⟨trivial, ⟨trivial, ⟨⟨trivial, ⟨fun _ _ _ _ _ _ H => H, fun _ => ⟨oI, ⟨trivial, ⟨otP_ok 1, ⟨⟨trivial, ⟨trivial, ⟨trivial, ⟨trivial, ⟨trivial, ⟨fun _ _ _ _ _ _ _ _ H => H, fun _ => ⟨oI, ⟨otP_ok 5, ⟨trivial, ⟨trivial, ⟨trivial, ⟨fun _ _ _ _ _ _ _ _ _ _ _ H => H, fun _ => ⟨oI, ⟨trivial, ⟨otP_ok 1, ⟨⟨trivial, ⟨⟨trivial, ⟨oI, otP_ok 3⟩⟩, otP_ok 13⟩⟩, ⟨oI, trivial⟩⟩⟩⟩⟩⟩⟩⟩⟩⟩⟩⟩⟩⟩⟩⟩⟩, trivial⟩⟩⟩⟩⟩⟩, otP_ok 1⟩⟩⟩⟩))
 (Eq.mpr (by as_aux_lemma => kernel_rfl : evF prog f130 (s130_A Ψ) Ψ [(.agg [m_Up, m_Val])] h = s130 Ψ m_Up m_Val h) H)

/- 132 slices.ContainsFunc[[]string,string] -/
def s132 (Ψ : AVal → Heap → Prop) (s : AVal) (f : AVal) (h : Heap) : Prop :=
 callG prog 157 [s, f] h fun v h_ =>
 tInt .i64 v fun v1 =>
 retG (.bool (decide (0 ≤ v1))) h_ Ψ

def s132_A (Ψ : AVal → Heap → Prop) : Ann :=
 .seq (rA 1)
 (.seq (rA 5)
 (.leaf))

theorem s132_ok {Ψ : AVal → Heap → Prop} {s : AVal} {f : AVal} {h : Heap} (H : s132 Ψ s f h) : ACalls prog 132 [s, f] h Ψ :=
 calls_of_evF func132 (by kernel_rfl) (by kernel_rfl) (by kernel_rfl)
 (Eq.mpr (by as_aux_lemma => kernel_rfl : oblF prog f132 (s132_A Ψ) Ψ = (otP 5)) (otP_ok 5))
 (Eq.mpr (by as_aux_lemma => kernel_rfl : evF prog f132 (s132_A Ψ) Ψ [s, f] h = s132 Ψ s f h) H)

/- 140 (*dictum/dictumref03.T).Find -/
abbrev s140l1_T := AVal → AVal → Int → Heap → Prop
abbrev s140l1_K : List Kd := [.any, .any, .int .i64]
def s140l1_G (F : s140l1_T) : s140l1_T := GK s140l1_K F
def s140l1_E (F : Nat → s140l1_T) : s140l1_T := EK s140l1_K F
theorem s140l1_go {F : s140l1_T} {x0 x1 : AVal} {x2 : Int} {h : Heap} (H : F x0 x1 x2 h) : s140l1_G F x0 x1 x2 h := gJ_plain rfl H
theorem s140l1_in {F : Nat → s140l1_T} {x0 x1 : AVal} {x2 : Int} {h : Heap} (n : Nat) (H : F n x0 x1 x2 h) : s140l1_E F x0 x1 x2 h := gJ_plain rfl ⟨n, H⟩

def s140l1 (Ψ : AVal → Heap → Prop) : Nat → s140l1_T
 | 0, _, _, _, _ => False
 | n1 + 1, t1, n, i, h =>
 nilCheckA t1 fun p =>
 addOff p 0 fun p1 =>
 ld1 h p1 fun v =>
 lenN v fun n2 =>
 ifT (decide (i < n2)) (
 nilCheckA t1 fun p2 =>
 addOff p2 0 fun p3 =>
 ld1 h p3 fun v1 =>
 ixS 4 v1 i fun p4 =>
 ldN 4 h p4 fun l_ =>
 tCons l_ fun v2 l_1 =>
 tInt .i64 v2 fun v3 =>
 tCons l_1 fun v4 l_2 =>
 tStr v4 fun v5 =>
 tCons l_2 fun v6 l_3 =>
 tInt .i64 v6 fun v7 =>
 tCons l_3 fun v8 l_4 =>
 tInt .i64 v8 fun v9 =>
 tNil l_4 (
 ldN 4 h n fun l_5 =>
 tCons l_5 fun v10 l_6 =>
 tInt .i64 v10 fun v11 =>
 tCons l_6 fun v12 l_7 =>
 tStr v12 fun v13 =>
 tCons l_7 fun v14 l_8 =>
 tInt .i64 v14 fun v15 =>
 tCons l_8 fun v16 l_9 =>
 tInt .i64 v16 fun v17 =>
 tNil l_9 (
 eqQ prog 83 (.agg [(.int .i64 v3), (.str v5), (.int .i64 v7), (.int .i64 v9)]) (.agg [(.int .i64 v11), (.str v13), (.int .i64 v15), (.int .i64 v17)]) fun b =>
 ifT b (
 retG (.tuple [(.int .i64 i), (.bool true)]) h Ψ) (
 rg (i + 1) (
 s140l1_G (s140l1 Ψ n1) t1 n (i + 1) h))))) (
 retG (.tuple [(.int .i64 0), (.bool false)]) h Ψ)

def s140 (Ψ : AVal → Heap → Prop) (t : AVal) (n_Kind : Int) (n_Name : ByteArray) (n_L : Int) (n_R : Int) (h : Heap) : Prop :=
 s140l1_E (s140l1 Ψ) t (.lptr [(.int .i64 n_Kind), (.str n_Name), (.int .i64 n_L), (.int .i64 n_R)]) 0 h

def s140_A (Ψ : AVal → Heap → Prop) : Ann :=
 .seq (.reg [⟨none, [(0, true), (1, false), (2, false)]⟩])
 (.seq (.seq (rA 1)
 (.block (loopK [0, 3, 6] s140l1_K (s140l1 Ψ) (fun L1 =>
 .seq (.seq (rA 7)
 (.cond (.leaf)
 (.leaf)))
 (.seq (.block (.seq (.draw [(0, false), (1, false), (2, false), (3, false), (4, false), (5, false), (6, false), (7, false), (8, false)] [0, 1, 3, 7, 0, 31, 63, 0, 255])
 (.cond (.seq (rA 3)
 (.leaf))
 (.leaf))))
 (rA 3))))))
 (.seq (rA 2)
 (.leaf)))

theorem s140_ok {Ψ : AVal → Heap → Prop} {t : AVal} {n_Kind : Int} {n_Name : ByteArray} {n_L : Int} {n_R : Int} {h : Heap} (H : s140 Ψ t n_Kind n_Name n_L n_R h) : ACalls prog 140 [t, (.agg [(.int .i64 n_Kind), (.str n_Name), (.int .i64 n_L), (.int .i64 n_R)])] h Ψ :=
 calls_of_evF func140 (by kernel_rfl) (by kernel_rfl) (by kernel_rfl)
 (Eq.mpr (by as_aux_lemma => kernel_rfl : oblF prog f140 (s140_A Ψ) Ψ = ((True) ∧ (((True) ∧ ((NK s140l1_K (s140l1 Ψ 0)) ∧ (∀ n1 : Nat, (QK s140l1_K (s140l1 Ψ (n1 + 1))) ∧ (otP 1739)))) ∧ (otP 1)))) (⟨trivial, ⟨⟨trivial, ⟨fun _ _ _ _ H => H, fun _ => ⟨oI, otP_ok 1739⟩⟩⟩, otP_ok 1⟩⟩))
 (Eq.mpr (by as_aux_lemma => kernel_rfl : evF prog f140 (s140_A Ψ) Ψ [t, (.agg [(.int .i64 n_Kind), (.str n_Name), (.int .i64 n_L), (.int .i64 n_R)])] h = s140 Ψ t n_Kind n_Name n_L n_R h) H)

/- 142 dictum/dictumref03.Reserved -/
def s142 (Ψ : AVal → Heap → Prop) (h : Heap) : Prop :=
 retG (.lsl 1 [(.str (ByteArray.mk #[97, 98, 111, 114, 116])), (.str (ByteArray.mk #[99, 97, 115, 101])), (.str (ByteArray.mk #[102, 97, 108, 115, 101])), (.str (ByteArray.mk #[102, 115, 116])), (.str (ByteArray.mk #[102, 117, 110])), (.str (ByteArray.mk #[105, 110])), (.str (ByteArray.mk #[105, 110, 108])), (.str (ByteArray.mk #[105, 110, 114])), (.str (ByteArray.mk #[108, 101, 116])), (.str (ByteArray.mk #[111, 102])), (.str (ByteArray.mk #[115, 110, 100])), (.str (ByteArray.mk #[116, 114, 117, 101]))]) h Ψ

def s142_A (Ψ : AVal → Heap → Prop) : Ann :=
 .seq (rA 1)
 (.seq (.reg [⟨none, [(0, true), (1, false)]⟩])
 (.leaf))

theorem s142_ok {Ψ : AVal → Heap → Prop} {h : Heap} (H : s142 Ψ  h) : ACalls prog 142 [] h Ψ :=
 calls_of_evF func142 (by kernel_rfl) (by kernel_rfl) (by kernel_rfl)
 (Eq.mpr (by as_aux_lemma => kernel_rfl : oblF prog f142 (s142_A Ψ) Ψ = (otP 5)) (otP_ok 5))
 (Eq.mpr (by as_aux_lemma => kernel_rfl : evF prog f142 (s142_A Ψ) Ψ [] h = s142 Ψ  h) H)

/- 154 math/bits.Len64 -/
abbrev s154c3_K : List Kd := [.int .u64, .int .i64]
def s154c3 (Ψ : AVal → Heap → Prop) (x3 n2 : Int) (h : Heap) : Prop :=
 ((0 : Int) ≤ (IntKind.u8.wrap x3) ∧ (IntKind.u8.wrap x3) < ((ByteArray.mk #[0, 1, 2, 2, 3, 3, 3, 3, 4, 4, 4, 4, 4, 4, 4, 4, 5, 5, 5, 5, 5, 5, 5, 5, 5, 5, 5, 5, 5, 5, 5, 5, 6, 6, 6, 6, 6, 6, 6, 6, 6, 6, 6, 6, 6, 6, 6, 6, 6, 6, 6, 6, 6, 6, 6, 6, 6, 6, 6, 6, 6, 6, 6, 6, 7, 7, 7, 7, 7, 7, 7, 7, 7, 7, 7, 7, 7, 7, 7, 7, 7, 7, 7, 7, 7, 7, 7, 7, 7, 7, 7, 7, 7, 7, 7, 7, 7, 7, 7, 7, 7, 7, 7, 7, 7, 7, 7, 7, 7, 7, 7, 7, 7, 7, 7, 7, 7, 7, 7, 7, 7, 7, 7, 7, 7, 7, 7, 7, 8, 8, 8, 8, 8, 8, 8, 8, 8, 8, 8, 8, 8, 8, 8, 8, 8, 8, 8, 8, 8, 8, 8, 8, 8, 8, 8, 8, 8, 8, 8, 8, 8, 8, 8, 8, 8, 8, 8, 8, 8, 8, 8, 8, 8, 8, 8, 8, 8, 8, 8, 8, 8, 8, 8, 8, 8, 8, 8, 8, 8, 8, 8, 8, 8, 8, 8, 8, 8, 8, 8, 8, 8, 8, 8, 8, 8, 8, 8, 8, 8, 8, 8, 8, 8, 8, 8, 8, 8, 8, 8, 8, 8, 8, 8, 8, 8, 8, 8, 8, 8, 8, 8, 8, 8, 8, 8, 8, 8, 8, 8, 8, 8, 8, 8, 8, 8, 8, 8, 8, 8, 8, 8, 8, 8, 8, 8, 8]).size : Int)) ∧
 rg (btA (ByteArray.mk #[0, 1, 2, 2, 3, 3, 3, 3, 4, 4, 4, 4, 4, 4, 4, 4, 5, 5, 5, 5, 5, 5, 5, 5, 5, 5, 5, 5, 5, 5, 5, 5, 6, 6, 6, 6, 6, 6, 6, 6, 6, 6, 6, 6, 6, 6, 6, 6, 6, 6, 6, 6, 6, 6, 6, 6, 6, 6, 6, 6, 6, 6, 6, 6, 7, 7, 7, 7, 7, 7, 7, 7, 7, 7, 7, 7, 7, 7, 7, 7, 7, 7, 7, 7, 7, 7, 7, 7, 7, 7, 7, 7, 7, 7, 7, 7, 7, 7, 7, 7, 7, 7, 7, 7, 7, 7, 7, 7, 7, 7, 7, 7, 7, 7, 7, 7, 7, 7, 7, 7, 7, 7, 7, 7, 7, 7, 7, 7, 8, 8, 8, 8, 8, 8, 8, 8, 8, 8, 8, 8, 8, 8, 8, 8, 8, 8, 8, 8, 8, 8, 8, 8, 8, 8, 8, 8, 8, 8, 8, 8, 8, 8, 8, 8, 8, 8, 8, 8, 8, 8, 8, 8, 8, 8, 8, 8, 8, 8, 8, 8, 8, 8, 8, 8, 8, 8, 8, 8, 8, 8, 8, 8, 8, 8, 8, 8, 8, 8, 8, 8, 8, 8, 8, 8, 8, 8, 8, 8, 8, 8, 8, 8, 8, 8, 8, 8, 8, 8, 8, 8, 8, 8, 8, 8, 8, 8, 8, 8, 8, 8, 8, 8, 8, 8, 8, 8, 8, 8, 8, 8, 8, 8, 8, 8, 8, 8, 8, 8, 8, 8, 8, 8, 8, 8, 8, 8]) (IntKind.u8.wrap x3)) (
 rg (n2 + (btA (ByteArray.mk #[0, 1, 2, 2, 3, 3, 3, 3, 4, 4, 4, 4, 4, 4, 4, 4, 5, 5, 5, 5, 5, 5, 5, 5, 5, 5, 5, 5, 5, 5, 5, 5, 6, 6, 6, 6, 6, 6, 6, 6, 6, 6, 6, 6, 6, 6, 6, 6, 6, 6, 6, 6, 6, 6, 6, 6, 6, 6, 6, 6, 6, 6, 6, 6, 7, 7, 7, 7, 7, 7, 7, 7, 7, 7, 7, 7, 7, 7, 7, 7, 7, 7, 7, 7, 7, 7, 7, 7, 7, 7, 7, 7, 7, 7, 7, 7, 7, 7, 7, 7, 7, 7, 7, 7, 7, 7, 7, 7, 7, 7, 7, 7, 7, 7, 7, 7, 7, 7, 7, 7, 7, 7, 7, 7, 7, 7, 7, 7, 8, 8, 8, 8, 8, 8, 8, 8, 8, 8, 8, 8, 8, 8, 8, 8, 8, 8, 8, 8, 8, 8, 8, 8, 8, 8, 8, 8, 8, 8, 8, 8, 8, 8, 8, 8, 8, 8, 8, 8, 8, 8, 8, 8, 8, 8, 8, 8, 8, 8, 8, 8, 8, 8, 8, 8, 8, 8, 8, 8, 8, 8, 8, 8, 8, 8, 8, 8, 8, 8, 8, 8, 8, 8, 8, 8, 8, 8, 8, 8, 8, 8, 8, 8, 8, 8, 8, 8, 8, 8, 8, 8, 8, 8, 8, 8, 8, 8, 8, 8, 8, 8, 8, 8, 8, 8, 8, 8, 8, 8, 8, 8, 8, 8, 8, 8, 8, 8, 8, 8, 8, 8, 8, 8, 8, 8, 8, 8]) (IntKind.u8.wrap x3))) (
 retG (.int .i64 (n2 + (btA (ByteArray.mk #[0, 1, 2, 2, 3, 3, 3, 3, 4, 4, 4, 4, 4, 4, 4, 4, 5, 5, 5, 5, 5, 5, 5, 5, 5, 5, 5, 5, 5, 5, 5, 5, 6, 6, 6, 6, 6, 6, 6, 6, 6, 6, 6, 6, 6, 6, 6, 6, 6, 6, 6, 6, 6, 6, 6, 6, 6, 6, 6, 6, 6, 6, 6, 6, 7, 7, 7, 7, 7, 7, 7, 7, 7, 7, 7, 7, 7, 7, 7, 7, 7, 7, 7, 7, 7, 7, 7, 7, 7, 7, 7, 7, 7, 7, 7, 7, 7, 7, 7, 7, 7, 7, 7, 7, 7, 7, 7, 7, 7, 7, 7, 7, 7, 7, 7, 7, 7, 7, 7, 7, 7, 7, 7, 7, 7, 7, 7, 7, 8, 8, 8, 8, 8, 8, 8, 8, 8, 8, 8, 8, 8, 8, 8, 8, 8, 8, 8, 8, 8, 8, 8, 8, 8, 8, 8, 8, 8, 8, 8, 8, 8, 8, 8, 8, 8, 8, 8, 8, 8, 8, 8, 8, 8, 8, 8, 8, 8, 8, 8, 8, 8, 8, 8, 8, 8, 8, 8, 8, 8, 8, 8, 8, 8, 8, 8, 8, 8, 8, 8, 8, 8, 8, 8, 8, 8, 8, 8, 8, 8, 8, 8, 8, 8, 8, 8, 8, 8, 8, 8, 8, 8, 8, 8, 8, 8, 8, 8, 8, 8, 8, 8, 8, 8, 8, 8, 8, 8, 8, 8, 8, 8, 8, 8, 8, 8, 8, 8, 8, 8, 8, 8, 8, 8, 8, 8, 8]) (IntKind.u8.wrap x3)))) h Ψ))

abbrev s154c2_K : List Kd := [.int .u64, .int .i64]
def s154c2 (Ψ : AVal → Heap → Prop) (x2 n1 : Int) (h : Heap) : Prop :=
 ifT (decide (256 ≤ x2)) (
 (0 : Int) ≤ 8 ∧
 rg (n1 + 8) (
 s154c3 Ψ (Int.fdiv x2 (2 ^ (min (Int.toNat 8) (IntKind.u64.bits)))) (n1 + 8) h)) (
 s154c3 Ψ x2 n1 h)

abbrev s154c1_K : List Kd := [.int .u64, .int .i64]
def s154c1 (Ψ : AVal → Heap → Prop) (x1 n : Int) (h : Heap) : Prop :=
 ifT (decide (65536 ≤ x1)) (
 (0 : Int) ≤ 16 ∧
 rg (n + 16) (
 s154c2 Ψ (Int.fdiv x1 (2 ^ (min (Int.toNat 16) (IntKind.u64.bits)))) (n + 16) h)) (
 s154c2 Ψ x1 n h)

def s154 (Ψ : AVal → Heap → Prop) (x : Int) (h : Heap) : Prop :=
 ifT (decide (4294967296 ≤ x)) (
 (0 : Int) ≤ 32 ∧
 s154c1 Ψ (Int.fdiv x (2 ^ (min (Int.toNat 32) (IntKind.u64.bits)))) 32 h) (
 s154c1 Ψ x 0 h)

def s154_A (Ψ : AVal → Heap → Prop) : Ann :=
 .seq (rA 1)
 (cutK [0, 2] s154c1_K (s154c1 Ψ) (.seq (rA 2)
 (.cond (.seq (rA 3)
 (rA 1))
 (.leaf)))
 (cutK [0, 2] s154c2_K (s154c2 Ψ) (.seq (rA 2)
 (.cond (.seq (rA 3)
 (rA 3))
 (.leaf)))
 (cutK [0, 2] s154c3_K (s154c3 Ψ) (.seq (rA 2)
 (.cond (.seq (rA 3)
 (rA 3))
 (.leaf)))
 (.seq (rA 7)
 (.leaf)))))

theorem s154_ok {Ψ : AVal → Heap → Prop} {x : Int} {h : Heap} (H : s154 Ψ x h) : ACalls prog 154 [(.int .u64 x)] h Ψ :=
 calls_of_evF func154 (by kernel_rfl) (by kernel_rfl) (by kernel_rfl)
 (Eq.mpr (by as_aux_lemma => kernel_rfl : oblF prog f154 (s154_A Ψ) Ψ = ((True) ∧ ((otP 13) ∧ ((QK s154c1_K (s154c1 Ψ)) ∧ ((otP 13) ∧ ((QK s154c2_K (s154c2 Ψ)) ∧ ((otP 13) ∧ ((QK s154c3_K (s154c3 Ψ)) ∧ (otP 1))))))))) (⟨trivial, ⟨otP_ok 13, ⟨oI, ⟨otP_ok 13, ⟨oI, ⟨otP_ok 13, ⟨oI, otP_ok 1⟩⟩⟩⟩⟩⟩⟩))
 (Eq.mpr (by as_aux_lemma => kernel_rfl : evF prog f154 (s154_A Ψ) Ψ [(.int .u64 x)] h = s154 Ψ x h) H)

/- 156 dictum/worlds.reckon$1 -/
def s156 (Ψ : AVal → Heap → Prop) (a : Int) (b : Int) (c0 : AVal) (h : Heap) : Prop :=
 ld1 h c0 fun v =>
 ixS 1 v a fun p =>
 ld1 h p fun v1 =>
 ixS 1 v1 b fun p1 =>
 ld1 h p1 fun v2 =>
 tBool v2 fun v3 =>
 retG (.bool v3) h Ψ

def s156_A (Ψ : AVal → Heap → Prop) : Ann :=
 .seq (rA 1)
 (.seq (rA 8)
 (.leaf))

theorem s156_ok {Ψ : AVal → Heap → Prop} {a : Int} {b : Int} {c0 : AVal} {h : Heap} (H : s156 Ψ a b c0 h) : ACalls prog 156 [(.int .i64 a), (.int .i64 b), c0] h Ψ :=
 calls_of_evF func156 (by kernel_rfl) (by kernel_rfl) (by kernel_rfl)
 (Eq.mpr (by as_aux_lemma => kernel_rfl : oblF prog f156 (s156_A Ψ) Ψ = (otP 5)) (otP_ok 5))
 (Eq.mpr (by as_aux_lemma => kernel_rfl : evF prog f156 (s156_A Ψ) Ψ [(.int .i64 a), (.int .i64 b), c0] h = s156 Ψ a b c0 h) H)

end Go.Proofs.YtaopdcjjcpgebaaGreatDoor

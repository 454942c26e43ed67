/- HeytingUps: the claim. No condition. -/
import Derived.Test.YtljglglbfcgjpaaGreatA1
import Derived.Test.YtljglglbfcgjpaaGreatA4
import Derived.Test.YtljglglbfcgjpaaGreatA2

set_option linter.unusedVariables false
set_option linter.unusedSimpArgs false

namespace Go.Proofs.YtljglglbfcgjpaaGreat.heytingUps
open Go Go.Sym Go.Proofs.Tryz Go.Proofs.YtljglglbfcgjpaaGreat
open Go.ChangeShapes Go.WideShapes Go.ChangeAt Go.RowKit
set_option linter.unusedVariables false
set_option maxRecDepth 4000
theorem own : ownKnob prog.godebug = none := by kernel_rfl
theorem kids : Kids prog (· < prog.types.size) := kids_rows (by kernel_rfl) (by kernel_rfl)
theorem full : ∀ t e, t < prog.types.size → prog.underlying t = some (.slice e) → 0 < prog.cellsOf e := slices_full_of prog (by kernel_rfl)
theorem params_lt : ∀ t ∈ f3.params.toList, t < prog.types.size := by rw [params3]; decide
theorem contract (H : Type) (enc : TypeId × Value → H) (W : World) (args : Array Value) (ds gs : List (DataW H)) (before : List MemPlace)
    (hval : ∀ (j : Nat) t v, f3.params[j]? = some t → args[j]? = some v → Value.okWide prog W .any 0 t v)
    (hW : DataW.Whole enc prog f3.params.toList Rows.heytingUpsSpec.vars false W args.toList ds gs before) (hk : Rows.uptoSmall H (ds ++ gs) = true) :
    Calls prog 3 args W fun e W' => ∃ v, e = .returned v ∧ Rows.heytingUpsSpec.post enc prog f3 false true false false W args v W' := by
  have hW' := hW
  obtain ⟨p, q, hA0, hV, rfl, hfz, hnd⟩ := hW
  obtain ⟨rfl, rfl⟩ := trodVars_none hV
  have hA : DataW.TrodAll enc prog W 0 (fun _ => true) true f3.params.toList args.toList ds p := hA0
  rw [params3] at hA hval
  obtain ⟨v0, vs0, d0, ds0, p0, q0, hargs, rfl, rfl, h0, r0⟩ := trodAll_cons hA
  obtain ⟨v1, vs1, d1, ds1, p1, q1, rfl, rfl, rfl, h1, r1⟩ := trodAll_cons r0
  obtain ⟨v2, vs2, d2, ds2, p2, q2, rfl, rfl, rfl, h2, r2⟩ := trodAll_cons r1
  obtain ⟨rfl, rfl, rfl⟩ := trodAll_nil r2
  obtain rfl : args = #[v0, v1, v2] := by cases args; simp_all
  have hsum : Rows.uptoBulkAll [d0, d1, d2] ≤ 1048576 := by
    have := of_decide_eq_true hk
    simpa using this
  have k0 := hval 0 25 v0 rfl rfl
  have k1 := hval 1 28 v1 rfl rfl
  have k2 := hval 2 3 v2 rfl rfl
  obtain ⟨n0, g0⟩ := arg_gotM (t := 25) (by decide) h0 (Nat.le_trans (bulk_mem (by simp)) hsum)
  obtain ⟨n1, g1⟩ := arg_gotA (t := 28) (by decide) h1 (Nat.le_trans (bulk_mem (by simp)) hsum)
  obtain ⟨n2, g2⟩ := arg_got (t := 3) (by decide) h2 (Nat.le_trans (bulk_mem (by simp)) hsum)
  obtain ⟨a0, ra0, s0⟩ := arg_struct underlying25 k0 g0
  obtain ⟨a0, b0, up0, val0, rfl, hU0, hV0, S0⟩ := shV_model (Nat.le_refl _) s0
  obtain ⟨a1, ra1, s1⟩ := arg_struct underlying28 k1 g1
  obtain ⟨b1, L1, rfl, hA1⟩ := shV_alg (Nat.le_refl _) s1
  obtain ⟨z2, ra2⟩ := arg_int underlying3 k2 g2
  have law := law_calls (W := W) (args := #[v0, v1, v2]) (.cons ra0 (.cons ra1 (.cons ra2 .nil))) (upsL_ok (h := fun _ => none) (K := fun v _ => v = .bool true) heads_ok23 (fun _ => rfl) S0 hU0 hV0 hA1 z2)
  refine law.mono fun e W' ⟨he, hb⟩ => ?_
  subst he
  exact ⟨_, rfl, post_true rfl rfl rfl params_lt kids full hW' hb⟩
set_option maxRecDepth 100000 in
theorem lifted (os : Os) (started : os.Started) (H : Type) (enc : TypeId × Value → H) (F : Stop.Interp) :
    ReturnsInHanded {} checked os 3 .any ((Rows.OpenSpec.upto Rows.heytingUpsSpec).pre6 enc prog f3 Rows.heytingUpsUptoRow.domain false) (((Rows.OpenSpec.upto Rows.heytingUpsSpec).at F).post enc prog f3 false true false false) := by
  refine returnsInHanded_of_cond (C := checked) (s := Rows.OpenSpec.upto Rows.heytingUpsSpec) (k := Rows.uptoSmall) rfl own started (by kernel_rfl) func3
    (OpenSpec.witness (enc := enc) (C := checked) (s := Rows.OpenSpec.upto Rows.heytingUpsSpec) (k := Rows.uptoSmall) rfl false ⟨#[], #[.agg #[.slice none 0 0, .slice none 0 0], .agg #[.slice none 0 0], .int .i64 0], []⟩ 8 (by kernel_rfl) (by kernel_rfl) (by kernel_rfl)
      (x := ([.agg [.nil, .nil], .agg [.nil], .lit (.int .i64 0)], [], [])) (by kernel_rfl) rfl (by kernel_rfl)) ?_
  intro W base args ds gs before hval hW _ hk _
  exact contract H enc W args ds gs before hval hW hk
theorem over : Rows.heytingUpsUptoRow.holds Tryz.pinned (Rows.OpenSpec.upto Rows.heytingUpsSpec) :=
  OpenClaim.holds_of_cond 3 f3 rfl rfl rfl rfl rfl rfl rfl ⟨rfl, rfl, rfl, rfl, rfl⟩ rfl rfl rfl rfl rfl (by kernel_rfl) func3 (by kernel_rfl)
    (of_decide_eq_true (by kernel_rfl)) (by unfold Func.isWrapper; first | (rw [if_pos (by decide +kernel)]; kernel_rfl) | (rw [if_neg (by decide +kernel)]; exact ⟨rfl, rfl⟩))
    (fun os started H enc _ F => lifted os started H enc F)
theorem proved : Rows.HeytingUpsUptoSaid :=
  over
end Go.Proofs.YtljglglbfcgjpaaGreat.heytingUps

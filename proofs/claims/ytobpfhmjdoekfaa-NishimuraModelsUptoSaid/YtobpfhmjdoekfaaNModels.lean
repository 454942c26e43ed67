/- NishimuraModels: the claim. No condition. -/
import Derived.Test.YtobpfhmjdoekfaaNP
import Derived.Test.YtobpfhmjdoekfaaNR

set_option linter.unusedVariables false
set_option linter.unusedSimpArgs false

namespace Go.Proofs.Ytobpfhmjdoekfaa.nishimuraModels
open Go Go.Sym Go.Proofs.Try Go.Proofs.Ytobpfhmjdoekfaa
open Go.ChangeShapes Go.WideShapes Go.ChangeAt Go.RowKit
set_option linter.unusedVariables false
set_option maxRecDepth 4000

theorem own : ownKnob prog.godebug = none := by kernel_rfl
theorem kids : Kids prog (· < prog.types.size) := kids_rows (by kernel_rfl) (by kernel_rfl)
theorem full : ∀ t e, t < prog.types.size → prog.underlying t = some (.slice e) → 0 < prog.cellsOf e := slices_full_of prog (by kernel_rfl)
theorem params_lt : ∀ t ∈ f4.params.toList, t < prog.types.size := by rw [params4]; decide

theorem contract (H : Type) (enc : TypeId × Value → H) (W : World) (args : Array Value) (ds gs : List (DataW H)) (before : List MemPlace)
    (hval : ∀ (j : Nat) t v, f4.params[j]? = some t → args[j]? = some v → Value.okWide prog W .any 0 t v)
    (hW : DataW.Whole enc prog f4.params.toList Rows.nishimuraModelsSpec.vars false W args.toList ds gs before) (hk : Rows.uptoSmall H (ds ++ gs) = true) :
    Calls prog 4 args W fun e W' => ∃ v, e = .returned v ∧ Rows.nishimuraModelsSpec.post enc prog f4 false true false false W args v W' := by
  have hW' := hW
  obtain ⟨p, q, hA0, hV, rfl, hfz, hnd⟩ := hW
  obtain ⟨rfl, rfl⟩ := trodVars_none hV
  have hA : DataW.TrodAll enc prog W 0 (fun _ => true) true f4.params.toList args.toList ds p := hA0
  rw [params4] at hA hval
  obtain ⟨v0, vs0, d0, ds0, p0, q0, hargs, rfl, rfl, h0, r0⟩ := trodAll_cons hA
  obtain ⟨v1, vs1, d1, ds1, p1, q1, rfl, rfl, rfl, h1, r1⟩ := trodAll_cons r0
  obtain ⟨rfl, rfl, rfl⟩ := trodAll_nil r1
  obtain rfl : args = #[v0, v1] := by cases args; simp_all
  have hsum : Rows.uptoBulkAll [d0, d1] ≤ 1048576 := by
    have := of_decide_eq_true hk
    simpa using this
  have k0 := hval 0 3 v0 rfl rfl
  have k1 := hval 1 9 v1 rfl rfl
  obtain ⟨n0, g0⟩ := arg_got (t := 3) (by decide) h0 (Nat.le_trans (bulk_mem (by simp)) hsum)
  obtain ⟨n1, g1⟩ := arg_got (t := 9) (by decide) h1 (Nat.le_trans (bulk_mem (by simp)) hsum)
  obtain ⟨z0, ra0⟩ := arg_int underlying3 k0 g0
  obtain ⟨z1, ra1, hz1⟩ := arg_str underlying9 k1 g1
  have law := law_calls (W := W) (args := #[v0, v1]) (.cons ra0 (.cons ra1 .nil)) (modelsL_ok (h := fun _ => none) (K := fun v _ => v = .bool true) heads_at z0 (Nat.le_trans hz1 (by decide)) (fun _ => rfl))
  refine law.mono fun e W' ⟨he, hb⟩ => ?_
  subst he
  exact ⟨_, rfl, post_true rfl rfl rfl params_lt kids full hW' hb⟩

set_option maxRecDepth 100000 in
theorem lifted (os : Os) (started : os.Started) (H : Type) (enc : TypeId × Value → H) (F : Stop.Interp) :
    ReturnsInHanded {} checked os 4 .any ((Rows.OpenSpec.upto Rows.nishimuraModelsSpec).pre6 enc prog f4 Rows.nishimuraModelsUptoRow.domain false) (((Rows.OpenSpec.upto Rows.nishimuraModelsSpec).at F).post enc prog f4 false true false false) := by
  refine returnsInHanded_of_cond (C := checked) (s := Rows.OpenSpec.upto Rows.nishimuraModelsSpec) (k := Rows.uptoSmall) rfl own started (by kernel_rfl) func4
    (OpenSpec.witness (enc := enc) (C := checked) (s := Rows.OpenSpec.upto Rows.nishimuraModelsSpec) (k := Rows.uptoSmall) rfl false ⟨#[], #[.int .i64 0, .string ByteArray.empty], []⟩ 8 (by kernel_rfl) (by kernel_rfl) (by kernel_rfl)
      (x := ([.lit (.int .i64 0), .lit (.string [])], [], [])) (by kernel_rfl) rfl (by kernel_rfl)) ?_
  intro W base args ds gs before hval hW _ hk _
  exact contract H enc W args ds gs before hval hW hk

theorem over : Rows.nishimuraModelsUptoRow.holds Try.pinned (Rows.OpenSpec.upto Rows.nishimuraModelsSpec) :=
  OpenClaim.holds_of_cond 4 f4 rfl rfl rfl rfl rfl rfl rfl ⟨rfl, rfl, rfl, rfl, rfl⟩ rfl rfl rfl rfl rfl (by kernel_rfl) func4 (by kernel_rfl)
    (of_decide_eq_true (by kernel_rfl)) (by unfold Func.isWrapper; first | (rw [if_pos (by decide +kernel)]; kernel_rfl) | (rw [if_neg (by decide +kernel)]; exact ⟨rfl, rfl⟩))
    (fun os started H enc _ F => lifted os started H enc F)

theorem proved : Rows.NishimuraModelsUptoSaid :=
  over
end Go.Proofs.Ytobpfhmjdoekfaa.nishimuraModels

/- Printed by lay.py (this repo, wip/tools): where the library's functions stand in the given program. No condition. Printed by lay.py (this repo, wip/tools): where the library's functions stand in the given program. No condition. Contracts: the program's Node, row, Below (which formulas one is made of). No condition. Contracts: the program's Below and Atoms. No condition. Contracts: the program's Rung and Equal. No condition. -/
import Derived.Shelf.Sort.Plain
import Derived.Test.YtobpfhmjdoekfaaGreatProg
import Derived.KernelRfl
import Derived.Test.YtobpfhmjdoekfaaGreatNLad
import Derived.Test.YtobpfhmjdoekfaaGreatM6
import Derived.Test.YtobpfhmjdoekfaaGreatM7

set_option linter.unusedVariables false
set_option linter.unusedSimpArgs false

namespace Go.Proofs.YtobpfhmjdoekfaaGreat
open Go Go.Proofs Go.Shelf
def layI_ren : Ren := ⟨fun | 189 => 81 | 125 => 102 | 257 => 103 | 128 => 121 | 129 => 122 | 294 => 123 | 295 => 124 | 296 => 125 | 297 => 126 | 298 => 127 | 299 => 128 | 216 => 129 | 300 => 130 | 301 => 131 | 328 => 140 | 329 => 135 | 330 => 136 | 331 => 141 | 332 => 142 | 215 => 143 | 343 => 149 | n => n, fun | 28 => 49 | 3 => 3 | 46 => 141 | 0 => 0 | 51 => 161 | 53 => 163 | 4 => 4 | 183 => 154 | 182 => 153 | 131 => 126 | 5 => 5 | 9 => 9 | 218 => 172 | 222 => 176 | 228 => 182 | 229 => 30 | n => n, fun n => n⟩
set_option maxRecDepth 100000 in
theorem layI : Lays.n189 Tryz.prog layI_ren := {
  mixed := by kernel_rfl,
  f125 := Tryz.func102.trans (congrArg some (by kernel_rfl)),
  f128 := Tryz.func121.trans (congrArg some (by kernel_rfl)),
  f129 := Tryz.func122.trans (congrArg some (by kernel_rfl)),
  f189 := Tryz.func81.trans (congrArg some (by kernel_rfl)),
  f215 := Tryz.func143.trans (congrArg some (by kernel_rfl)),
  f216 := Tryz.func129.trans (congrArg some (by kernel_rfl)),
  f257 := Tryz.func103.trans (congrArg some (by kernel_rfl)),
  f294 := Tryz.func123.trans (congrArg some (by kernel_rfl)),
  f295 := Tryz.func124.trans (congrArg some (by kernel_rfl)),
  f296 := Tryz.func125.trans (congrArg some (by kernel_rfl)),
  f297 := Tryz.func126.trans (congrArg some (by kernel_rfl)),
  f298 := Tryz.func127.trans (congrArg some (by kernel_rfl)),
  f299 := Tryz.func128.trans (congrArg some (by kernel_rfl)),
  f300 := Tryz.func130.trans (congrArg some (by kernel_rfl)),
  f301 := Tryz.func131.trans (congrArg some (by kernel_rfl)),
  f328 := Tryz.func140.trans (congrArg some (by kernel_rfl)),
  f329 := Tryz.func135.trans (congrArg some (by kernel_rfl)),
  f330 := Tryz.func136.trans (congrArg some (by kernel_rfl)),
  f331 := Tryz.func141.trans (congrArg some (by kernel_rfl)),
  f332 := Tryz.func142.trans (congrArg some (by kernel_rfl)),
  f343 := Tryz.func149.trans (congrArg some (by kernel_rfl)),
  t0 := Tryz.underlying0,
  a0 := Tryz.isAgg0,
  z0 := Tryz.sizeOf0,
  v0 := Tryz.zeroValue0,
  t3 := Tryz.underlying3,
  a3 := Tryz.isAgg3,
  z3 := Tryz.sizeOf3,
  v3 := Tryz.zeroValue3,
  t4 := Tryz.underlying4,
  a4 := Tryz.isAgg4,
  z4 := Tryz.sizeOf4,
  v4 := Tryz.zeroValue4,
  t5 := Tryz.underlying5,
  a5 := Tryz.isAgg5,
  z5 := Tryz.sizeOf5,
  v5 := Tryz.zeroValue5,
  t9 := Tryz.underlying9,
  a9 := Tryz.isAgg9,
  z9 := Tryz.sizeOf9,
  v9 := Tryz.zeroValue9,
  t28 := Tryz.underlying49,
  a28 := Tryz.isAgg49,
  z28 := Tryz.sizeOf49,
  v28 := Tryz.zeroValue49,
  t46 := Tryz.underlying141,
  a46 := Tryz.isAgg141,
  z46 := Tryz.sizeOf141,
  v46 := Tryz.zeroValue141,
  t51 := Tryz.underlying161,
  a51 := Tryz.isAgg161,
  z51 := Tryz.sizeOf161,
  v51 := Tryz.zeroValue161,
  t53 := Tryz.underlying163,
  a53 := Tryz.isAgg163,
  z53 := Tryz.sizeOf163,
  v53 := Tryz.zeroValue163,
  t131 := Tryz.underlying126,
  a131 := Tryz.isAgg126,
  z131 := Tryz.sizeOf126,
  v131 := Tryz.zeroValue126,
  t182 := Tryz.underlying153,
  a182 := Tryz.isAgg153,
  z182 := Tryz.sizeOf153,
  v182 := Tryz.zeroValue153,
  t183 := Tryz.underlying154,
  a183 := Tryz.isAgg154,
  z183 := Tryz.sizeOf154,
  v183 := Tryz.zeroValue154,
  t218 := Tryz.underlying172,
  a218 := Tryz.isAgg172,
  z218 := Tryz.sizeOf172,
  v218 := Tryz.zeroValue172,
  t222 := Tryz.underlying176,
  a222 := Tryz.isAgg176,
  z222 := Tryz.sizeOf176,
  v222 := Tryz.zeroValue176,
  t228 := Tryz.underlying182,
  a228 := Tryz.isAgg182,
  z228 := Tryz.sizeOf182,
  v228 := Tryz.zeroValue182,
  t229 := Tryz.underlying30,
  a229 := Tryz.isAgg30,
  z229 := Tryz.sizeOf30,
  v229 := Tryz.zeroValue30 }
end Go.Proofs.YtobpfhmjdoekfaaGreat

namespace Go.Proofs.YtobpfhmjdoekfaaGreat
open Go Go.Proofs Go.Shelf
def layS_ren : Ren := ⟨fun | 190 => 79 | 125 => 102 | 258 => 101 | 128 => 121 | 129 => 122 | 302 => 112 | 303 => 113 | 304 => 114 | 305 => 115 | 306 => 116 | 307 => 117 | 308 => 118 | 309 => 119 | 310 => 120 | 333 => 134 | 329 => 135 | 330 => 136 | 334 => 137 | 335 => 138 | 336 => 139 | 344 => 148 | n => n, fun | 31 => 74 | 9 => 9 | 3 => 3 | 46 => 141 | 0 => 0 | 51 => 161 | 53 => 163 | 4 => 4 | 183 => 154 | 182 => 153 | 131 => 126 | 5 => 5 | 218 => 172 | 222 => 176 | 228 => 182 | 229 => 30 | n => n, fun n => n⟩
set_option maxRecDepth 100000 in
theorem layS : Lays.n190 Tryz.prog layS_ren := {
  mixed := by kernel_rfl,
  f125 := Tryz.func102.trans (congrArg some (by kernel_rfl)),
  f128 := Tryz.func121.trans (congrArg some (by kernel_rfl)),
  f129 := Tryz.func122.trans (congrArg some (by kernel_rfl)),
  f190 := Tryz.func79.trans (congrArg some (by kernel_rfl)),
  f258 := Tryz.func101.trans (congrArg some (by kernel_rfl)),
  f302 := Tryz.func112.trans (congrArg some (by kernel_rfl)),
  f303 := Tryz.func113.trans (congrArg some (by kernel_rfl)),
  f304 := Tryz.func114.trans (congrArg some (by kernel_rfl)),
  f305 := Tryz.func115.trans (congrArg some (by kernel_rfl)),
  f306 := Tryz.func116.trans (congrArg some (by kernel_rfl)),
  f307 := Tryz.func117.trans (congrArg some (by kernel_rfl)),
  f308 := Tryz.func118.trans (congrArg some (by kernel_rfl)),
  f309 := Tryz.func119.trans (congrArg some (by kernel_rfl)),
  f310 := Tryz.func120.trans (congrArg some (by kernel_rfl)),
  f329 := Tryz.func135.trans (congrArg some (by kernel_rfl)),
  f330 := Tryz.func136.trans (congrArg some (by kernel_rfl)),
  f333 := Tryz.func134.trans (congrArg some (by kernel_rfl)),
  f334 := Tryz.func137.trans (congrArg some (by kernel_rfl)),
  f335 := Tryz.func138.trans (congrArg some (by kernel_rfl)),
  f336 := Tryz.func139.trans (congrArg some (by kernel_rfl)),
  f344 := Tryz.func148.trans (congrArg some (by kernel_rfl)),
  t0 := Tryz.underlying0,
  a0 := Tryz.isAgg0,
  z0 := Tryz.sizeOf0,
  v0 := Tryz.zeroValue0,
  t3 := Tryz.underlying3,
  a3 := Tryz.isAgg3,
  z3 := Tryz.sizeOf3,
  v3 := Tryz.zeroValue3,
  t4 := Tryz.underlying4,
  a4 := Tryz.isAgg4,
  z4 := Tryz.sizeOf4,
  v4 := Tryz.zeroValue4,
  t5 := Tryz.underlying5,
  a5 := Tryz.isAgg5,
  z5 := Tryz.sizeOf5,
  v5 := Tryz.zeroValue5,
  t9 := Tryz.underlying9,
  a9 := Tryz.isAgg9,
  z9 := Tryz.sizeOf9,
  v9 := Tryz.zeroValue9,
  t31 := Tryz.underlying74,
  a31 := Tryz.isAgg74,
  z31 := Tryz.sizeOf74,
  v31 := Tryz.zeroValue74,
  t46 := Tryz.underlying141,
  a46 := Tryz.isAgg141,
  z46 := Tryz.sizeOf141,
  v46 := Tryz.zeroValue141,
  t51 := Tryz.underlying161,
  a51 := Tryz.isAgg161,
  z51 := Tryz.sizeOf161,
  v51 := Tryz.zeroValue161,
  t53 := Tryz.underlying163,
  a53 := Tryz.isAgg163,
  z53 := Tryz.sizeOf163,
  v53 := Tryz.zeroValue163,
  t131 := Tryz.underlying126,
  a131 := Tryz.isAgg126,
  z131 := Tryz.sizeOf126,
  v131 := Tryz.zeroValue126,
  t182 := Tryz.underlying153,
  a182 := Tryz.isAgg153,
  z182 := Tryz.sizeOf153,
  v182 := Tryz.zeroValue153,
  t183 := Tryz.underlying154,
  a183 := Tryz.isAgg154,
  z183 := Tryz.sizeOf154,
  v183 := Tryz.zeroValue154,
  t218 := Tryz.underlying172,
  a218 := Tryz.isAgg172,
  z218 := Tryz.sizeOf172,
  v218 := Tryz.zeroValue172,
  t222 := Tryz.underlying176,
  a222 := Tryz.isAgg176,
  z222 := Tryz.sizeOf176,
  v222 := Tryz.zeroValue176,
  t228 := Tryz.underlying182,
  a228 := Tryz.isAgg182,
  z228 := Tryz.sizeOf182,
  v228 := Tryz.zeroValue182,
  t229 := Tryz.underlying30,
  a229 := Tryz.isAgg30,
  z229 := Tryz.sizeOf30,
  v229 := Tryz.zeroValue30 }
end Go.Proofs.YtobpfhmjdoekfaaGreat

namespace Go.Proofs.YtobpfhmjdoekfaaGreat
open Go Go.Sym Go.Proofs.Tryz

variable {K : AVal → Heap → Prop} {h h0 hb : Heap}

def ndZ : Nd := ⟨0, ByteArray.mk #[], 0, 0⟩
theorem Own.ext {h' : Heap} {os : List Ow} (W : Own hb os h) (x : Ext h h') : Own hb os h' :=
  ⟨W.fit, fun i y n e e1 => x _ _ (W.get i y n e e1), W.new, W.one, fun q o e => x _ _ (W.old q o e)⟩
theorem hasN_get {xs : List Nd} {i : Int} (h : hasN xs.length i = true) : ∃ (j : Nat) (x : Nd), i = (j : Int) ∧ xs[j]? = some x := by
  obtain ⟨h1, h2⟩ := hasN_iff.1 h
  obtain ⟨j, rfl⟩ := Int.eq_ofNat_of_zero_le h1
  have : j < xs.length := by omega
  exact ⟨j, xs[j], rfl, List.getElem?_eq_getElem this⟩
theorem nodeP_ok {t : AVal} {xs : List Nd} (P : PRd h t xs) (i : Int) (yes : ∀ (j : Nat) (x : Nd), i = (j : Int) → xs[j]? = some x → K (.tuple [nodeV x, .bool true]) h) (no : hasN xs.length i = false → K (.tuple [nodeV ndZ, .bool false]) h) :
    ACalls prog 37 [t, .int .i64 i] h K := by
  refine s37_ok ?_
  unfold s37
  refine newRow_in fun r hr => ?_
  have P2 := P.ext (h' := h.set r (.row 4 [nodeV ndZ])) (Heap.set_sub hr)
  refine callG_of (aliveP_ok P2 ?_)
  rw [tBool_bool]
  refine ifT_neg rfl (callG_of (hasP_ok P2 i ?_))
  rw [tBool_bool]
  unfold s37c1
  cases e : hasN xs.length i with
  | false =>
    refine ifT_pos rfl (st4 (Heap.set_same _ _ _) rfl rfl ?_)
    rw [Heap.set_set, ldN_elem (n := 4) (i := 0) (cs := nodeC ndZ) (Heap.set_same _ _ _) rfl rfl]
    rw [nodeC, tCons_cons, tInt_int, tCons_cons, tStr_str, tCons_cons, tInt_int, tCons_cons, tInt_int, tNil_nil]
    exact retG_drop (Heap.set_sub hr) (no e)
  | true =>
    obtain ⟨j, x, rfl, hx⟩ := hasN_get e
    refine ifT_neg rfl ?_
    obtain ⟨vN, R, hl⟩ := P2.ld
    rw [hl]
    refine R.ix hx ?_
    rw [nodeC, tCons_cons, tInt_int, tCons_cons, tStr_str, tCons_cons, tInt_int, tCons_cons, tInt_int, tNil_nil]
    refine st4 (Heap.set_same _ _ _) rfl rfl ?_
    rw [Heap.set_set, ldN_elem (n := 4) (i := 0) (cs := nodeC x) (Heap.set_same _ _ _) rfl rfl]
    rw [nodeC, tCons_cons, tInt_int, tCons_cons, tStr_str, tCons_cons, tInt_int, tCons_cons, tInt_int, tNil_nil]
    exact retG_drop (Heap.set_sub hr) (yes j x rfl hx)
theorem rowP_ok {t : AVal} {xs : List Nd} (P : PRd h t xs) (hl : xs.length ≤ 1048576) (i : Int) (yes : ∀ (j : Nat) (x : Nd), i = (j : Int) → xs[j]? = some x → K (.tuple [nodeV x, .int .i64 0]) h) (no : hasN xs.length i = false → K (.tuple [nodeV ndZ, .int .i64 31]) h) :
    ACalls prog 78 [t, .int .i64 i] h K := by
  refine s78_ok ?_
  unfold s78
  refine newRow_in fun r hr => ?_
  have P2 := P.ext (h' := h.set r (.row 4 [nodeV ndZ])) (Heap.set_sub hr)
  refine callG_of (copyP_ok P2 hl fun r2 => ?_)
  rw [nilPp]
  have fin : ∀ (x : Nd) (e : Int) (r1 : Nat) (hr1 : (h.set r (.row 4 [nodeV ndZ])) r1 = none), K (.tuple [nodeV x, .int .i64 e]) h →
      ldN 4 ((h.set r (.row 4 [nodeV ndZ])).set r1 (.row 4 [nodeV x])) (.ptr r1 0 0) fun l_13 =>
          tCons l_13 fun v21 l_14 =>
          tInt .i64 v21 fun v22 =>
          tCons l_14 fun v23 l_15 =>
          tStr v23 fun v24 =>
          tCons l_15 fun v25 l_16 =>
          tInt .i64 v25 fun v26 =>
          tCons l_16 fun v27 l_17 =>
          tInt .i64 v27 fun v28 =>
          tNil l_17 (
            st false ((h.set r (.row 4 [nodeV ndZ])).set r1 (.row 4 [nodeV x])) (.ptr r 0 0) [(.int .i64 v22), (.str v24), (.int .i64 v26), (.int .i64 v28)] fun h_6 =>
            ldN 4 h_6 (.ptr r 0 0) fun l_18 =>
            tCons l_18 fun v29 l_19 =>
            tInt .i64 v29 fun v30 =>
            tCons l_19 fun v31 l_20 =>
            tStr v31 fun v32 =>
            tCons l_20 fun v33 l_21 =>
            tInt .i64 v33 fun v34 =>
            tCons l_21 fun v35 l_22 =>
            tInt .i64 v35 fun v36 =>
            tNil l_22 (
              retG (.tuple [(.agg [(.int .i64 v30), (.str v32), (.int .i64 v34), (.int .i64 v36)]), (.int .i64 e)]) h_6 K)) := by
    intro x e r1 hr1 hk
    rw [ldN_elem (n := 4) (i := 0) (cs := nodeC x) (Heap.set_same _ _ _) rfl rfl]
    rw [nodeC, tCons_cons, tInt_int, tCons_cons, tStr_str, tCons_cons, tInt_int, tCons_cons, tInt_int, tNil_nil]
    have hne : r ≠ r1 := fun e => by rw [← e, Heap.set_same] at hr1; cases hr1
    refine st4 (cs := nodeC ndZ) (by rw [Heap.set_ne _ _ hne, Heap.set_same]; rfl) rfl rfl ?_
    rw [ldN_elem (n := 4) (i := 0) (cs := nodeC x) (Heap.set_same _ _ _) rfl rfl]
    rw [nodeC, tCons_cons, tInt_int, tCons_cons, tStr_str, tCons_cons, tInt_int, tCons_cons, tInt_int, tNil_nil]
    refine retG_drop (fun q o hq => ?_) hk
    have h1 : q ≠ r := fun e => by rw [e, hr] at hq; cases hq
    have h2 : q ≠ r1 := fun e => by
      have := Heap.set_sub (o := .row 4 [nodeV ndZ]) hr q o hq
      rw [e, hr1] at this; cases this
    rw [Heap.set_ne _ _ h1, Heap.set_ne _ _ h2, Heap.set_ne _ _ h1]
    exact hq
  refine ifT_neg rfl (callG_of (nodeP_ok P2 i (fun j x hj hx => ?_) (fun hn => ?_)))
  · rw [tTup_tuple, tCons_cons, tCons_cons, tBool_bool, tNil_nil]
    unfold nodeV nodeC
    rw [tAgg_agg, tCons_cons, tInt_int, tCons_cons, tStr_str, tCons_cons, tInt_int, tCons_cons, tInt_int, tNil_nil]
    refine newRow_in fun r1 hr1 => st4 (Heap.set_same _ _ _) rfl rfl ?_
    rw [Heap.set_set]
    exact ifT_neg rfl (fin x 0 r1 hr1 (yes j x hj hx))
  · rw [tTup_tuple, tCons_cons, tCons_cons, tBool_bool, tNil_nil]
    unfold nodeV nodeC
    rw [tAgg_agg, tCons_cons, tInt_int, tCons_cons, tStr_str, tCons_cons, tInt_int, tCons_cons, tInt_int, tNil_nil]
    refine newRow_in fun r1 hr1 => st4 (Heap.set_same _ _ _) rfl rfl ?_
    rw [Heap.set_set]
    exact ifT_pos rfl (fin ndZ 31 r1 hr1 (no hn))

/- ---- which formulas one is made of ---- -/
def GoodT (xs : List Nd) : Prop := ∀ (i : Nat) (x : Nd), xs[i]? = some x → NdOK i x
theorem okTab_good {xs : List Nd} (ok : okTab xs) : GoodT xs := fun i x hx => by
  have he := (ok i x hx).1
  have hil := (List.getElem?_eq_some_iff.1 hx).1
  have htl : (xs.take i).length = i := by rw [List.length_take]; omega
  unfold putE at he
  rw [htl] at he
  by_cases hf : fitE i x ≠ 0
  · rw [if_pos hf] at he
    exact absurd he hf
  · have hf := Decidable.not_not.1 hf
    unfold fitE at hf
    by_cases k1 : x.k = 1
    · exact .inl k1
    · rw [if_neg k1] at hf
      by_cases k2 : x.k = 2
      · exact .inr (.inl k2)
      · rw [if_neg k2] at hf
        by_cases k3 : x.k = 3 ∨ x.k = 4 ∨ x.k = 5
        · rw [if_pos k3] at hf
          split at hf
          · rename_i hh
            exact .inr (.inr ⟨k3, hasN_iff.1 hh.2.1, hasN_iff.1 hh.2.2⟩)
          · cases hf
        · rw [if_neg k3] at hf
          cases hf
/-- j stands right under i -/
def Kid (xs : List Nd) (i j : Nat) : Prop := ∃ x, xs[i]? = some x ∧ 3 ≤ x.k ∧ (x.l = (j : Int) ∨ x.r = (j : Int))
inductive Sub (xs : List Nd) : Nat → Nat → Prop
  | refl (i : Nat) : Sub xs i i
  | step {i j k : Nat} (h : Kid xs i j) (s : Sub xs j k) : Sub xs i k
theorem Kid.lt {xs : List Nd} (G : GoodT xs) {i j : Nat} (h : Kid xs i j) : j < i := by
  obtain ⟨x, h1, h2, h3⟩ := h
  rcases G i x h1 with e | e | ⟨_, e1, e2⟩
  · omega
  · omega
  · omega
theorem Sub.le {xs : List Nd} (G : GoodT xs) {i j : Nat} (h : Sub xs i j) : j ≤ i := by
  induction h with
  | refl => omega
  | step h _ ih => have := h.lt G; omega
theorem Sub.trans {xs : List Nd} {i j k : Nat} (h : Sub xs i j) (s : Sub xs j k) : Sub xs i k := by
  induction h with
  | refl => exact s
  | step h _ ih => exact .step h (ih s)
noncomputable def subL (xs : List Nd) (i : Nat) : List Nat := (List.range (i + 1)).filter fun j => @decide (Sub xs i j) (Classical.propDecidable _)
theorem mem_subL {xs : List Nd} (G : GoodT xs) {i j : Nat} : j ∈ subL xs i ↔ Sub xs i j := by
  unfold subL
  rw [List.mem_filter, List.mem_range]
  exact ⟨fun h => @of_decide_eq_true _ (Classical.propDecidable _) h.2, fun h => ⟨by have := h.le G; omega, @decide_eq_true _ (Classical.propDecidable _) h⟩⟩
theorem natI_sorted {l : List Nat} (h : l.Pairwise (· ≤ ·)) : (natI l).Pairwise (· ≤ ·) := by
  unfold natI
  rw [List.pairwise_map]
  exact h.imp fun h => by omega
theorem subL_sorted (xs : List Nd) (i : Nat) : (subL xs i).Pairwise (· ≤ ·) :=
  (List.pairwise_lt_range.imp Nat.le_of_lt).sublist List.filter_sublist
theorem subL_nodup (xs : List Nd) (i : Nat) : (subL xs i).Nodup := List.nodup_range.sublist List.filter_sublist

/- ---- the walk down ---- -/
def marks (L : List Nat) : List (AVal × AVal) := L.map fun (j : Nat) => (.int .i64 (j : Int), .int .i64 1)
theorem findM_marks (i : Nat) : ∀ (L : List Nat) (p : Nat), findM (.int .i64 (i : Int)) (marks L) p = some (if i ∈ L then some (p + L.idxOf i, .int .i64 1) else none)
  | [], p => by simp [marks, findM]
  | j :: L, p => by
    show findM _ ((.int .i64 (j : Int), .int .i64 1) :: marks L) p = _
    unfold findM
    have e : keyEq (.int .i64 (i : Int)) (.int .i64 (j : Int)) = some ((i : Int) == (j : Int)) := rfl
    rw [e]
    by_cases hij : i = j
    · subst hij
      simp
    · rw [show ((i : Int) == (j : Int)) = false by simp; omega]
      simp only
      rw [findM_marks i L (p + 1)]
      by_cases hm : i ∈ L
      · rw [if_pos hm, if_pos (List.mem_cons_of_mem _ hm), List.idxOf_cons]
        rw [show (j == i) = false by simp; omega]
        simp only [cond_false]
        rw [show p + 1 + L.idxOf i = p + (L.idxOf i + 1) by omega]
      · rw [if_neg hm, if_neg (fun h => (List.mem_cons.1 h).elim hij hm)]
abbrev DS (hb : Heap) (r r1 r2 : Nat) (t : AVal) (L : List Nat) (R : List Ow) (h : Heap) : Prop :=
  Own hb ([.cell r (.map (marks L)), .cell r1 (.row 1 [.mapr r]), .cell r2 (.row 1 [.func (.func 80) [] [(.ptr r1 0 0), (.lptr [t]), (.ptr r2 0 0)]])] ++ R) h
theorem down_ok {t : AVal} {xs : List Nd} (P : PRd hb t xs) (G : GoodT xs) {r r1 r2 : Nat} : ∀ (i : Nat) (L : List Nat) (R : List Ow) (h : Heap) (K : AVal → Heap → Prop), i < xs.length → DS hb r r1 r2 t L R h →
    (∀ L' h', (∀ j ∈ L, j ∈ L') → (L.Nodup → L'.Nodup) → i ∈ L' → (∀ j ∈ L', j ∉ L → Sub xs i j ∧ ∀ c, Kid xs j c → c ∈ L') → DS hb r r1 r2 t L' R h' → K (.tuple []) h') →
    ACalls prog 80 [.int .i64 (i : Int), .ptr r1 0 0, .lptr [t], .ptr r2 0 0] h K := by
  intro i
  induction i using Nat.strongRecOn with
  | _ i ih =>
  intro L R h K hi O hk
  refine s80_ok ?_
  unfold s80
  rw [ld1_one (O.get 1 _ r1 rfl rfl) rfl]
  unfold mapGet mapGetR entsA
  simp only [O.get 0 _ r rfl rfl, Ow.obj, findM_marks]
  by_cases hm : i ∈ L
  · simp only [if_pos hm, tInt_int]
    exact ifT_pos rfl (retG_of (hk L h (fun _ h => h) (fun h => h) hm (fun j h1 h2 => absurd h1 h2) O))
  · simp only [if_neg hm, tInt_int]
    refine ifT_neg rfl ?_
    rw [ld1_one (O.get 1 _ r1 rfl rfl) rfl]
    have hput : putM (.int .i64 (i : Int)) (.int .i64 1) (marks L) = some (marks (L ++ [i])) := by
      unfold putM
      rw [findM_marks, if_neg hm]
      simp [marks]
    refine Eq.mpr (mapPut_map (O.get 0 _ r rfl rfl) hput _) ?_
    have O1 : DS hb r r1 r2 t (L ++ [i]) R _ := O.put (i := 0) rfl (.map (marks (L ++ [i])))
    rw [ld1_lptr]
    obtain ⟨vN, RN, hl⟩ := (P.ext O1.old).ld
    rw [hl]
    have hx := List.getElem?_eq_getElem hi
    refine RN.ix hx ?_
    rw [nodeC, tCons_cons, tInt_int, tCons_cons, tStr_str, tCons_cons, tInt_int, tCons_cons, tInt_int, tNil_nil]
    refine newRow_in fun rw hrw => st4 (Heap.set_same _ _ _) rfl rfl ?_
    rw [Heap.set_set, ld1_fld (o := 0) (Heap.set_same _ _ _) rfl, tInt_int]
    have O2 : DS hb r r1 r2 t (L ++ [i]) (R ++ [.cell rw (.row 4 [nodeV xs[i]])]) _ := O1.newC hrw (.row 4 [nodeV xs[i]])
    by_cases hk3 : 3 ≤ xs[i].k
    · refine ifT_pos (by simpa using hk3) ?_
      refine Eq.mpr (ld1_one (O2.get 2 _ r2 rfl rfl) rfl _) ?_
      rw [ld1_fld (o := 2) (Heap.set_same _ _ _) rfl, tInt_int]
      have hg := G i _ hx
      have hlr : (0 ≤ xs[i].l ∧ xs[i].l < i) ∧ 0 ≤ xs[i].r ∧ xs[i].r < i := by
        rcases hg with e | e | ⟨_, e⟩
        · omega
        · omega
        · exact e
      obtain ⟨a, ha⟩ := Int.eq_ofNat_of_zero_le hlr.1.1
      obtain ⟨b, hb'⟩ := Int.eq_ofNat_of_zero_le hlr.2.1
      show callG prog 80 ([] ++ [.int .i64 xs[i].l] ++ [(.ptr r1 0 0), (.lptr [t]), (.ptr r2 0 0)]) ((h.set r (.map (marks (L ++ [i])))).set rw (.row 4 [nodeV xs[i]])) _
      rw [show AVal.int .i64 xs[i].l = .int .i64 (a : Int) by rw [ha]]
      show callG prog 80 ([] ++ [.int .i64 (a : Int)] ++ [(.ptr r1 0 0), (.lptr [t]), (.ptr r2 0 0)]) _ _
      refine callG_of (ih a (by omega) (L ++ [i]) (R ++ [.cell rw (.row 4 [nodeV xs[i]])]) _ _ (by omega) O2 fun L2 h2 s1 n1 m1 c1 O3 => ?_)
      rw [ld1_one (O3.get 2 _ r2 rfl rfl) rfl]
      have hrw2 : h2 rw = some (.row 4 [nodeV xs[i]]) := O3.get (3 + R.length) (.cell rw (.row 4 [nodeV xs[i]])) rw (by rw [List.getElem?_append_right (by simp), List.getElem?_append_right (by simp)]; simp) rfl
      rw [ld1_fld (o := 3) (cs := nodeC xs[i]) hrw2 rfl, tInt_int, hb']
      show callG prog 80 ([] ++ [.int .i64 (b : Int)] ++ [(.ptr r1 0 0), (.lptr [t]), (.ptr r2 0 0)]) _ _
      refine callG_of (ih b (by omega) L2 (R ++ [.cell rw (.row 4 [nodeV xs[i]])]) _ _ (by omega) O3 fun L3 h3 s2 n2 m2 c2 O4 => retG_of ?_)
      have O5 : DS hb r r1 r2 t L3 R h3 := by
        have O4' : Own hb (([.cell r (.map (marks L3)), .cell r1 (.row 1 [.mapr r]), .cell r2 (.row 1 [.func (.func 80) [] [(.ptr r1 0 0), (.lptr [t]), (.ptr r2 0 0)]])] ++ R) ++ [.cell rw (.row 4 [nodeV xs[i]])]) h3 := by rw [List.append_assoc]; exact O4
        exact O4'.pop
      have kidl : Kid xs i a := ⟨_, hx, hk3, .inl ha⟩
      have kidr : Kid xs i b := ⟨_, hx, hk3, .inr hb'⟩
      refine hk L3 h3 (fun j hj => s2 j (s1 j (List.mem_append_left _ hj))) (fun hn => n2 (n1 ?_)) (s2 i (s1 i (by simp))) (fun j hj hjL => ?_) O5
      · rw [List.nodup_append]
        refine ⟨hn, by simp, fun x hxL y hy e => ?_⟩
        rw [List.mem_singleton] at hy
        subst hy; subst e
        exact hm hxL
      · by_cases h2' : j ∈ L2
        · by_cases h1' : j ∈ L ++ [i]
          · rcases List.mem_append.1 h1' with h | h
            · exact absurd h hjL
            · rw [List.mem_singleton] at h
              subst h
              refine ⟨.refl _, fun c hc => ?_⟩
              obtain ⟨x, hx1, _, hx2⟩ := hc
              rw [hx] at hx1
              cases hx1
              rcases hx2 with e | e
              · have : c = a := by omega
                subst this
                exact s2 _ m1
              · have : c = b := by omega
                subst this
                exact m2
          · obtain ⟨e1, e2⟩ := c1 j h2' h1'
            exact ⟨.step kidl e1, fun c hc => s2 c (e2 c hc)⟩
        · obtain ⟨e1, e2⟩ := c2 j hj h2'
          exact ⟨.step kidr e1, e2⟩
    · refine ifT_neg (by simpa using hk3) (retG_of ?_)
      have O5 : DS hb r r1 r2 t (L ++ [i]) R _ := Own.skip O1 hrw (.row 4 [nodeV xs[i]])
      refine hk (L ++ [i]) _ (fun j hj => List.mem_append_left _ hj) (fun hn => ?_) (by simp) (fun j hj hjL => ?_) O5
      · rw [List.nodup_append]
        refine ⟨hn, by simp, fun x hxL y hy e => ?_⟩
        rw [List.mem_singleton] at hy
        subst hy; subst e
        exact hm hxL
      · rcases List.mem_append.1 hj with h | h
        · exact absurd h hjL
        · rw [List.mem_singleton] at h
          subst h
          refine ⟨.refl _, fun c hc => ?_⟩
          obtain ⟨x, hx1, hx3, _⟩ := hc
          rw [hx] at hx1
          cases hx1
          exact absurd hx3 hk3
end Go.Proofs.YtobpfhmjdoekfaaGreat

namespace Go.Proofs.YtobpfhmjdoekfaaGreat
open Go Go.Sym Go.Proofs.Tryz

variable {K : AVal → Heap → Prop} {h h0 hb : Heap}

theorem marks_erase (i : Nat) : ∀ (L : List Nat), (marks L).eraseIdx i = marks (L.eraseIdx i) := by
  intro L
  unfold marks
  rw [List.eraseIdx_eq_take_drop_succ, List.eraseIdx_eq_take_drop_succ, List.map_append, List.map_take, List.map_drop]
theorem erase_perm {i j : Nat} : ∀ {L : List Nat}, L[i]? = some j → (j :: L.eraseIdx i).Perm L := by
  induction i with
  | zero =>
    intro L h
    cases L with
    | nil => simp at h
    | cons a L => simp at h; subst h; exact .refl _
  | succ i ih =>
    intro L h
    cases L with
    | nil => simp at h
    | cons a L =>
      simp only [List.getElem?_cons_succ] at h
      simp only [List.eraseIdx_cons_succ]
      exact (List.Perm.swap a j _).trans ((ih h).cons a)
theorem toBaseG {h : Heap} {os : List Ow} (W : Own hb os h) (S : Nat → Prop) (hS : ∀ n, S n → hb n = none) : Go.Sym.GStep h hb S := Own.toBase W S hS

theorem below_end {os : List Ow} {l_ : AVal} {acc : List Nat} {i : Nat} (O : Own h0 os h) (hi : os[i]? = some (.slc 1 l_ ((natI acc).map (.int .i64)))) (hne : acc ≠ []) (hlen : acc.length ≤ 1048576) {l : List Nat} (hp : acc.Perm l) (hs : l.Pairwise (· ≤ ·))
    (yes : ∀ v, Ints v (natI l) → K (.tuple [v, .int .i64 0]) h0) :
    callG prog 81 [l_] h fun v15 h_11 => retG (.tuple [l_, (.int .i64 0)]) h_11 K := by
  rcases O.fit i _ hi with ⟨_, e⟩ | ⟨r, rfl⟩
  · have := List.map_eq_nil_iff.1 e
    unfold natI at this
    exact absurd (List.map_eq_nil_iff.1 this) hne
  · have hr := O.get i _ r hi rfl
    have hn : ((natI acc).map (AVal.int .i64)).length = (natI acc).length := List.length_map _
    have hn2 : (natI acc).length = acc.length := by simp [natI]
    have hpos : 0 < acc.length := List.length_pos_iff.2 hne
    rw [hn] at hi hr ⊢
    have hsort : sortI (natI acc) = natI l := sorted_unique ((sortI_perm _).trans (hp.map _)) (sortI_sorted _) (natI_sorted hs)
    refine callG_of (sortI_ok (ρ := layI_ren) layI (by kernel_rfl) (by omega) (by omega) hr ?_)
    rw [hsort]
    have hll : (natI l).length = (natI acc).length := by rw [← hsort]; exact List.length_mergeSort _
    have O2 := O.putS (i := i) (r := r) (es := 1) (l := (natI acc).map (.int .i64)) (by rw [hn]; exact hi) (l' := (natI l).map (.int .i64)) (by simp [hll])
    have hi2 : (os.set i (.slc 1 (.sl r 1 0 ((natI acc).map (AVal.int .i64)).length) ((natI l).map (.int .i64))))[i]? = some (.slc 1 (.sl r 1 0 ((natI acc).map (AVal.int .i64)).length) ((natI l).map (.int .i64))) := by
      rw [List.getElem?_set_self (List.getElem?_eq_some_iff.1 hi).1]
    obtain ⟨v', lv, sv⟩ := O2.lit hi2 (S := nameOf (.sl r 1 0 (natI acc).length)) (fun n hn => hn) (Lits.refl _)
    rw [hn] at lv
    exact ⟨_, .tuple [v', .int .i64 0], h0, .tuple (.cons lv (.cons (.refl _) .nil)), toBaseG O2 _ (fun n hn => O2.new i _ n hi2 hn), yes v' sv⟩
theorem extr {l : List AVal} {i : Nat} {x : AVal} (h : l[i]? = some x) (K : AVal → Prop) : extractA (.tuple l) i K = K x := by
  simp [extractA, h]
theorem below_l1 {r r1 r2 q : Nat} {o0 o1 o2 : AObj} {l : List Nat} (hs : l.Pairwise (· ≤ ·)) (hl : l.length ≤ 1048576) (hne : l ≠ []) (yes : ∀ v, Ints v (natI l) → K (.tuple [v, .int .i64 0]) h0) :
    ∀ (d : Nat) (left acc : List Nat) (l_ : AVal) (cur : Option (AVal × AVal)) (h : Heap), left.length = d → (acc ++ left).Perm l → Own h0 [.cell r o0, .cell r1 o1, .cell r2 o2, .cell q (.miter (marks left) cur), .slc 1 l_ ((natI acc).map (.int .i64))] h →
      s40l1 K (d + 1) l_ (.iter q) h
  | 0, left, acc, l_, cur, h, hd, hp, O => by
    obtain rfl := List.length_eq_zero_iff.1 hd
    rw [List.append_nil] at hp
    unfold s40l1
    unfold nextM
    simp only [O.get 3 _ q rfl rfl, Ow.obj, marks, List.map_nil]
    rw [extr rfl, tBool_bool]
    refine ifT_neg rfl (below_end O (i := 4) rfl (fun e => hne ?_) (by rw [hp.length_eq]; exact hl) hp hs yes)
    subst e
    exact List.Perm.eq_nil hp.symm
  | d + 1, left, acc, l_, cur, h, hd, hp, O => by
    have hlen : acc.length + left.length = l.length := by rw [← hp.length_eq, List.length_append]
    unfold s40l1
    unfold nextM
    have hq := O.get 3 _ q rfl rfl
    cases left with
    | nil => simp at hd
    | cons a left =>
      simp only [hq, Ow.obj, marks, List.map_cons]
      intro i kv hkv
      have hkv' : (marks (a :: left))[i]? = some kv := hkv
      unfold marks at hkv'
      rw [List.getElem?_map] at hkv'
      obtain ⟨j, hj, rfl⟩ := Option.map_eq_some_iff.1 hkv'
      have O1 := O.put (i := 3) rfl (.miter (marks ((a :: left).eraseIdx i)) (some (.int .i64 (j : Int), .int .i64 1)))
      rw [extr rfl, tBool_bool]
      refine ifT_pos rfl ?_
      have e0 : ((.int .i64 (a : Int), .int .i64 1) :: left.map fun (j : Nat) => (AVal.int .i64 (j : Int), AVal.int .i64 1)).eraseIdx i = marks ((a :: left).eraseIdx i) := marks_erase i (a :: left)
      rw [e0]
      unfold entryA
      have hq1 := O1.get 3 _ q rfl rfl
      simp only [Ow.obj] at hq1
      simp only [hq1]
      rw [extr rfl, tInt_int]
      refine O1.app (i := 4) rfl (by simp [natI]; omega) (by simp [natI]; omega) fun v2 h2 O2 => s40l1_go ?_
      have e2 : (natI (acc ++ [j])).map (AVal.int .i64) = (natI acc).map (.int .i64) ++ [.int .i64 (j : Int)] := by simp [natI]
      refine below_l1 (r := r) (r1 := r1) (r2 := r2) (q := q) (o0 := o0) (o1 := o1) (o2 := o2) hs hl hne yes d ((a :: left).eraseIdx i) (acc ++ [j]) v2 (some (.int .i64 (j : Int), .int .i64 1)) h2 ?_ ?_ ?_
      · rw [List.length_eraseIdx, if_pos (List.getElem?_eq_some_iff.1 hj).1]
        simp at hd ⊢
        omega
      · rw [List.append_assoc]
        exact ((erase_perm hj).append_left acc).trans hp
      · rw [e2]
        exact O2
theorem belowF_ok {t : AVal} {xs : List Nd} (P : PRd h t xs) (G : GoodT xs) (hl : xs.length ≤ 1024) (i : Int) (no : hasN xs.length i = false → K (.tuple [.nilsl, .int .i64 31]) h)
    (yes : ∀ j : Nat, i = (j : Int) → j < xs.length → ∀ v, Ints v (natI (subL xs j)) → K (.tuple [v, .int .i64 0]) h) : ACalls prog 40 [t, .int .i64 i] h K := by
  refine s40_ok ?_
  unfold s40
  have hsc : sc t = true := by
    obtain ⟨rt, vN, q, es, rfl, _⟩ := P
    rfl
  refine chk_iff.2 ⟨hsc, callG_of (aliveP_ok P ?_)⟩
  rw [tBool_bool]
  refine ifT_neg rfl (callG_of (hasP_ok P i ?_))
  rw [tBool_bool]
  cases e : hasN xs.length i with
  | false => exact ifT_pos rfl (retG_of (no e))
  | true =>
    obtain ⟨j, x, rfl, hx⟩ := hasN_get e
    have hj := (List.getElem?_eq_some_iff.1 hx).1
    refine ifT_neg rfl ?_
    intro r hr _
    have O0 := (Own.start h).newC hr (.map [])
    refine newRow_in fun r1 hr1 => ?_
    have O1 := O0.newC hr1 (.row 1 [.nilmap])
    refine st_elem (Heap.set_same _ _ _) rfl rfl ?_
    have O2 := O1.put (i := 1) rfl (.row 1 [.mapr r])
    refine newRow_in fun r2 hr2 => ?_
    have O3 := O2.newC hr2 (.row 1 [.nilfunc])
    refine st_elem (Heap.set_same _ _ _) rfl rfl ?_
    have O4 : DS h r r1 r2 t [] [] _ := O3.put (i := 2) rfl (.row 1 [.func (.func 80) [] [(.ptr r1 0 0), (.lptr [t]), (.ptr r2 0 0)]])
    refine Eq.mpr (ld1_one (O4.get 2 _ r2 rfl rfl) rfl _) ?_
    show callG prog 80 ([] ++ [.int .i64 (j : Int)] ++ [(.ptr r1 0 0), (.lptr [t]), (.ptr r2 0 0)]) _ _
    refine callG_of (down_ok P G j [] [] _ _ hj O4 fun L h7 _ hn hm hc O5 => ?_)
    rw [ld1_one (O5.get 1 _ r1 rfl rfl) rfl]
    unfold rangeM
    simp only [O5.get 0 _ r rfl rfl, Ow.obj]
    intro q hq _
    have hqr : q ≠ r := fun e => by rw [e, O5.get 0 _ r rfl rfl] at hq; cases hq
    have O6 := O5.put (i := 0) rfl (.fmap (marks L))
    have O7 := (O6.newC (r := q) (by rw [Heap.set_ne _ _ hqr]; exact hq) (.miter (marks L) none)).newN 1
    have hmem : ∀ c, c ∈ L ↔ c ∈ subL xs j := fun c => by
      rw [mem_subL G]
      constructor
      · exact fun h => (hc c h (by simp)).1
      · intro s
        have : ∀ a b, Sub xs a b → a ∈ L → b ∈ L := fun a b s => by
          induction s with
          | refl => exact fun h => h
          | step k _ ih => exact fun h => ih ((hc _ h (by simp)).2 _ k)
        exact this j c s hm
    have hperm : L.Perm (subL xs j) := (List.perm_ext_iff_of_nodup (hn List.nodup_nil) (subL_nodup xs j)).2 hmem
    have hlen : (subL xs j).length ≤ j + 1 := by
      unfold subL
      exact Nat.le_trans (List.length_filter_le _ _) (by simp)
    refine s40l1_in (L.length + 1) (below_l1 (subL_sorted xs j) (by omega) (fun e => ?_) (yes j rfl hj) L.length L [] .nilsl none _ rfl (by simpa using hperm) O7)
    have := (mem_subL G).2 (Sub.refl (xs := xs) j)
    rw [e] at this
    cases this

/- ---- atoms ---- -/
def atomN (xs : List Nd) (i : Nat) : Option ByteArray := match xs[i]? with
  | some x => if x.k = 1 then some x.s else none
  | none => none
noncomputable def atomL (xs : List Nd) (j : Nat) : List ByteArray := (subL xs j).filterMap (atomN xs)
theorem rg_bt0 {s : ByteArray} {i : Int} {X : Prop} (h : X) : rg (btA s i) X := by
  have := btA_range s i
  exact rg_of (by omega) (by omega) h
theorem rg_bt {s : ByteArray} {i : Int} {X : Prop} (h : X) : rg (0 + btA s i) X := by
  have := btA_range s i
  exact rg_of (by omega) (by omega) h
set_option maxRecDepth 100000 in
theorem sortNil_ok (hk : K (.tuple []) h) : ACalls prog 79 [.nilsl] h K := by
  refine s79_ok ?_
  unfold s79
  show callG prog _ [.int .u64 (IntKind.u64.wrap 0)] h _
  refine callG_of (s102_ok ?_)
  unfold s102
  refine callG_of (s122_ok ?_)
  unfold s122
  refine ifT_neg (by decide) ?_
  unfold s122c1
  refine ifT_neg (by decide) ?_
  unfold s122c2
  refine ifT_neg (by decide) ?_
  unfold s122c3
  refine ⟨⟨by decide, by decide +kernel⟩, ?_⟩
  refine rg_bt0 (rg_bt (retG_of ?_))
  rw [tInt_int]
  refine retG_of ?_
  rw [tInt_int]
  refine callG_of (s101_ok ?_)
  unfold s101
  refine s101l1_in 1 ?_
  unfold s101l1
  refine rg_of (by decide) (by decide) (ifT_pos (by decide) (callG_of (s112_ok ?_)))
  unfold s112
  refine rg_of (by decide) (by decide) (s112l1_in 1 ?_)
  unfold s112l1
  exact ifT_neg (by decide) (retG_of (retG_of (retG_of hk)))
theorem sortS_perm (l : List ByteArray) : (sortS l).Perm l := by
  unfold sortS
  have h1 := (List.mergeSort_perm (l.map bsL) fun x y => decide (x ≤ y)).map fun b : List UInt8 => (⟨b.toArray⟩ : ByteArray)
  refine h1.trans ?_
  rw [List.map_map]
  have : ((fun b : List UInt8 => (⟨b.toArray⟩ : ByteArray)) ∘ bsL) = id := by
    funext s
    cases s
    simp [bsL]
  rw [this, List.map_id]
theorem atoms_l1 {t v : AVal} {xs : List Nd} {j : Nat} (P : PRd h0 t xs) (G : GoodT xs) (hl : xs.length ≤ 1024) (hj : j < xs.length) (hv : Ints v (natI (subL xs j))) (yes : ∀ w l, Strs w l → l.Perm (atomL xs j) → K (.tuple [w, .int .i64 0]) h0) :
    ∀ (d i : Nat) (out : AVal) (h : Heap), i + d = (subL xs j).length → (((subL xs j).take i).filterMap (atomN xs) = [] → out = .nilsl) → Own h0 [.slc 1 out ((((subL xs j).take i).filterMap (atomN xs)).map .str)] h → s39l1 K (d + 1) t out v ((subL xs j).length : Int) (i : Int) h
  | 0, i, out, h, hd, hzn, O => by
    unfold s39l1
    refine ifT_neg (by simp; omega) ?_
    rw [List.take_of_length_le (by omega)] at O hzn
    have hlen : (atomL xs j).length ≤ 1024 := by
      have h1 : (subL xs j).length ≤ j + 1 := Nat.le_trans (List.length_filter_le _ _) (by simp)
      have h2 := List.length_filterMap_le (atomN xs) (subL xs j)
      unfold atomL
      omega
    rcases O.fit 0 _ rfl with ⟨rfl, e⟩ | ⟨r, rfl⟩
    · refine callG_of (sortNil_ok (retG_drop O.old (yes _ [] (.nil 1) ?_)))
      unfold atomL
      rw [List.map_eq_nil_iff.1 e]
    · by_cases hz : (atomL xs j).length = 0
      · have hz' : (subL xs j).filterMap (atomN xs) = [] := List.length_eq_zero_iff.1 hz
        exact absurd (hzn hz') (by simp)
      · have hr := O.get 0 _ r rfl rfl
        have hn : (((subL xs j).filterMap (atomN xs)).map AVal.str).length = ((subL xs j).filterMap (atomN xs)).length := List.length_map _
        rw [hn] at hr ⊢
        unfold atomL at hz hlen
        refine callG_of (sortS_ok (ρ := layS_ren) layS (by kernel_rfl) (by omega) (by omega) hr ?_)
        have O2 := O.putS (i := 0) (r := r) (es := 1) rfl (l' := (sortS ((subL xs j).filterMap (atomN xs))).map .str) (by simp [sortS])
        obtain ⟨v', lv, sv⟩ := O2.lit (i := 0) rfl (S := nameOf (.sl r 1 0 ((subL xs j).filterMap (atomN xs)).length)) (fun n hn => hn) (Lits.refl _)
        rw [hn] at lv
        exact ⟨_, .tuple [v', .int .i64 0], h0, .tuple (.cons lv (.cons (.refl _) .nil)), toBaseG O2 _ (fun n hn => O2.new 0 _ n rfl hn), yes v' _ sv (sortS_perm _)⟩
  | d + 1, i, out, h, hd, hzn, O => by
    have hi : i < (subL xs j).length := by omega
    have hsub := (mem_subL G).1 (List.getElem_mem hi)
    have hle := hsub.le G
    have h1 : (subL xs j).length ≤ j + 1 := Nat.le_trans (List.length_filter_le _ _) (by simp)
    unfold s39l1
    refine ifT_pos (by simp; omega) ?_
    rw [hv.ix (i := i) (by simpa [natI] using hi), ld1_lptr, tInt_int]
    have hg : (natI (subL xs j))[i]'(by simpa [natI] using hi) = (((subL xs j)[i] : Nat) : Int) := by simp [natI]
    rw [hg]
    refine callG_of (nodeP_ok (P.ext O.old) _ (fun a x ha hx => ?_) (fun hno => ?_))
    · have ha : (subL xs j)[i] = a := by omega
      rw [tTup_tuple, tCons_cons, tCons_cons, tBool_bool, tNil_nil]
      unfold nodeV nodeC
      rw [tAgg_agg, tCons_cons, tInt_int, tCons_cons, tStr_str, tCons_cons, tInt_int, tCons_cons, tInt_int, tNil_nil]
      refine newRow_in fun r1 hr1 => st4 (Heap.set_same _ _ _) rfl rfl ?_
      rw [Heap.set_set, ld1_fld (o := 0) (Heap.set_same _ _ _) rfl, tInt_int]
      have e1 : (subL xs j).take (i + 1) = (subL xs j).take i ++ [(subL xs j)[i]] := List.take_succ_eq_append_getElem hi
      have O1 := Own.skip O hr1 (.row 4 [nodeV x])
      by_cases hk1 : x.k = 1
      · refine ifT_pos (by simpa using hk1) ?_
        rw [ld1_fld (o := 1) (Heap.set_same _ _ _) rfl, tStr_str]
        have hat : atomN xs (subL xs j)[i] = some x.s := by
          unfold atomN
          rw [ha, hx]
          exact if_pos hk1
        have h2 := List.length_filterMap_le (atomN xs) ((subL xs j).take i)
        rw [List.length_take] at h2
        refine O1.app (i := 0) rfl (by rw [List.length_map]; omega) (by rw [List.length_map]; omega) fun v2 h2 O2 => ?_
        unfold s39c2
        refine rg_of (by omega) (by omega) (s39l1_go (atoms_l1 P G hl hj hv yes d (i + 1) v2 h2 (by omega) (fun e => ?_) ?_))
        · rw [e1, List.filterMap_append] at e
          simp [hat] at e
        · rw [e1, List.filterMap_append, List.map_append]
          simp only [List.filterMap_cons, hat, List.filterMap_nil, List.map_cons, List.map_nil]
          exact O2
      · refine ifT_neg (by simpa using hk1) ?_
        have hat : atomN xs (subL xs j)[i] = none := by
          unfold atomN
          rw [ha, hx]
          exact if_neg hk1
        unfold s39c2
        refine rg_of (by omega) (by omega) (s39l1_go (atoms_l1 P G hl hj hv yes d (i + 1) out _ (by omega) (fun e => hzn ?_) ?_))
        · rw [e1, List.filterMap_append] at e
          simp only [List.filterMap_cons, hat, List.filterMap_nil, List.append_nil] at e
          exact e
        · rw [e1, List.filterMap_append]
          simp only [List.filterMap_cons, hat, List.filterMap_nil, List.append_nil]
          exact O1
    · have := hasN_iff.2 (show 0 ≤ (((subL xs j)[i] : Nat) : Int) ∧ (((subL xs j)[i] : Nat) : Int) < xs.length by omega)
      rw [hno] at this
      cases this
theorem atomsP_ok {t : AVal} {xs : List Nd} (P : PRd h t xs) (G : GoodT xs) (hl : xs.length ≤ 1024) (i : Int) (no : hasN xs.length i = false → K (.tuple [.nilsl, .int .i64 31]) h)
    (yes : ∀ j : Nat, i = (j : Int) → j < xs.length → ∀ w l, Strs w l → l.Perm (atomL xs j) → K (.tuple [w, .int .i64 0]) h) : ACalls prog 39 [t, .int .i64 i] h K := by
  refine s39_ok ?_
  unfold s39
  refine callG_of (rowP_ok P (by omega) i (fun j x hj hx => ?_) (fun hn => ?_))
  · rw [tTup_tuple, tCons_cons, tCons_cons, tInt_int, tNil_nil]
    unfold nodeV nodeC
    rw [tAgg_agg, tCons_cons, tInt_int, tCons_cons, tStr_str, tCons_cons, tInt_int, tCons_cons, tInt_int, tNil_nil]
    refine newRow_in fun r1 hr1 => st4 (Heap.set_same _ _ _) rfl rfl ?_
    rw [Heap.set_set]
    have hjl := (List.getElem?_eq_some_iff.1 hx).1
    have O := Own.skip (Own.start h) hr1 (.row 4 [nodeV x])
    refine ifT_neg rfl (callG_of (belowF_ok (P.ext O.old) G hl i (fun hno => ?_) (fun j' hj' hjl' v hv => ?_)))
    · have := hasN_iff.2 (show 0 ≤ i ∧ i < (xs.length : Int) by omega)
      rw [hno] at this
      cases this
    · rw [tTup_tuple, tCons_cons, tCons_cons, tInt_int, tNil_nil, hv.len, show (natI (subL xs j')).length = (subL xs j').length by simp [natI]]
      refine s39l1_in ((subL xs j').length + 1) (atoms_l1 P G hl hjl' hv (yes j' hj' hjl') _ 0 .nilsl _ (by omega) (fun _ => rfl) ?_)
      exact O.newN 1
  · rw [tTup_tuple, tCons_cons, tCons_cons, tInt_int, tNil_nil]
    unfold nodeV nodeC
    rw [tAgg_agg, tCons_cons, tInt_int, tCons_cons, tStr_str, tCons_cons, tInt_int, tCons_cons, tInt_int, tNil_nil]
    refine newRow_in fun r1 hr1 => st4 (Heap.set_same _ _ _) rfl rfl ?_
    rw [Heap.set_set]
    exact ifT_pos rfl (retG_drop (Heap.set_sub hr1) (no hn))
end Go.Proofs.YtobpfhmjdoekfaaGreat

namespace Go.Proofs.YtobpfhmjdoekfaaGreat
open Go Go.Sym Go.Proofs.Tryz

variable {K : AVal → Heap → Prop} {h h0 hb : Heap}

/-- a formula's rung -/
def rungOf (xs : List Nd) (i : Nat) : Rung :=
  match xs[i]? with
  | none => Rung.zero
  | some x =>
    if x.k = 1 then ⟨false, 1, false⟩
    else if hh : (0 ≤ x.l ∧ x.l < i) ∧ 0 ≤ x.r ∧ x.r < i then
      (if x.k = 3 then meetR (rungOf xs x.l.toNat) (rungOf xs x.r.toNat)
       else if x.k = 4 then joinR (rungOf xs x.l.toNat) (rungOf xs x.r.toNat)
       else if x.k = 5 then impR (rungOf xs x.l.toNat) (rungOf xs x.r.toNat)
       else Rung.zero)
    else Rung.zero
  termination_by i
  decreasing_by all_goals omega
theorem rungOf_1 {xs : List Nd} {i : Nat} {x : Nd} (hx : xs[i]? = some x) (hk : x.k = 1) : rungOf xs i = ⟨false, 1, false⟩ := by
  rw [rungOf, hx]
  exact if_pos hk
theorem rungOf_2 {xs : List Nd} {i : Nat} {x : Nd} (hx : xs[i]? = some x) (hk : x.k = 2) : rungOf xs i = Rung.zero := by
  rw [rungOf, hx]
  simp [hk]
theorem rungOf_3 {xs : List Nd} {i : Nat} {x : Nd} (hx : xs[i]? = some x) (hk : x.k = 3) {a b : Nat} (ha : x.l = (a : Int)) (hb : x.r = (b : Int)) (hai : a < i) (hbi : b < i) : rungOf xs i = meetR (rungOf xs a) (rungOf xs b) := by
  rw [rungOf, hx]
  simp only
  rw [if_neg (by omega), dif_pos ⟨⟨by omega, by omega⟩, by omega, by omega⟩]
  rw [if_pos hk, ha, hb]
  simp
theorem rungOf_4 {xs : List Nd} {i : Nat} {x : Nd} (hx : xs[i]? = some x) (hk : x.k = 4) {a b : Nat} (ha : x.l = (a : Int)) (hb : x.r = (b : Int)) (hai : a < i) (hbi : b < i) : rungOf xs i = joinR (rungOf xs a) (rungOf xs b) := by
  rw [rungOf, hx]
  simp only
  rw [if_neg (by omega), dif_pos ⟨⟨by omega, by omega⟩, by omega, by omega⟩]
  rw [if_neg (by omega)]
  rw [if_pos hk, ha, hb]
  simp
theorem rungOf_5 {xs : List Nd} {i : Nat} {x : Nd} (hx : xs[i]? = some x) (hk : x.k = 5) {a b : Nat} (ha : x.l = (a : Int)) (hb : x.r = (b : Int)) (hai : a < i) (hbi : b < i) : rungOf xs i = impR (rungOf xs a) (rungOf xs b) := by
  rw [rungOf, hx]
  simp only
  rw [if_neg (by omega), dif_pos ⟨⟨by omega, by omega⟩, by omega, by omega⟩]
  rw [if_neg (by omega), if_neg (by omega)]
  rw [if_pos hk, ha, hb]
  simp
theorem far_low (a b : Rung) (p : Nat → Bool) : (setR p (farN a b) 0).low ≤ max a.low b.low + 2 := by
  rcases setR_cases (p := p) (farN a b) 0 with ⟨_, h2⟩ | ⟨F, h1, h2, h3, h4, h5⟩
  · rw [h2]; exact Nat.zero_le _
  · rw [h5]; dsimp only; unfold farN at h2; omega
theorem rungOf_low {xs : List Nd} (G : GoodT xs) : ∀ i : Nat, (rungOf xs i).low ≤ 3 * i + 1 := by
  intro i
  induction i using Nat.strongRecOn with
  | _ i ih =>
  cases hx : xs[i]? with
  | none =>
    rw [rungOf, hx]
    simp [Rung.zero]
  | some x =>
    rcases G i x hx with e | e | ⟨e, ⟨l1, l2⟩, r1, r2⟩
    · rw [rungOf_1 hx e]; dsimp only; omega
    · rw [rungOf_2 hx e]; simp [Rung.zero]
    · obtain ⟨a, ha⟩ := Int.eq_ofNat_of_zero_le l1
      obtain ⟨b, hb⟩ := Int.eq_ofNat_of_zero_le r1
      have ia := ih a (by omega)
      have ib := ih b (by omega)
      have fin : ∀ p : Nat → Bool, (setR p (farN (rungOf xs a) (rungOf xs b)) 0).low ≤ 3 * i + 1 := fun p => by
        have := far_low (rungOf xs a) (rungOf xs b) p
        omega
      rcases e with e | e | e
      · rw [rungOf_3 hx e ha hb (by omega) (by omega)]; exact fin _
      · rw [rungOf_4 hx e ha hb (by omega) (by omega)]; exact fin _
      · rw [rungOf_5 hx e ha hb (by omega) (by omega)]; exact fin _

def kvs (f : Nat → AVal) (L : List Nat) : List (AVal × AVal) := L.map fun (j : Nat) => (.int .i64 (j : Int), f j)
theorem findM_kvs (f : Nat → AVal) (i : Nat) : ∀ (L : List Nat) (p : Nat), findM (.int .i64 (i : Int)) (kvs f L) p = some (if i ∈ L then some (p + L.idxOf i, f i) else none)
  | [], p => by simp [kvs, findM]
  | j :: L, p => by
    show findM _ ((.int .i64 (j : Int), f j) :: kvs f L) p = _
    unfold findM
    have e : keyEq (.int .i64 (i : Int)) (.int .i64 (j : Int)) = some ((i : Int) == (j : Int)) := rfl
    rw [e]
    by_cases hij : i = j
    · subst hij
      simp
    · rw [show ((i : Int) == (j : Int)) = false by simp; omega]
      simp only
      rw [findM_kvs f i L (p + 1)]
      by_cases hm : i ∈ L
      · rw [if_pos hm, if_pos (List.mem_cons_of_mem _ hm), List.idxOf_cons]
        rw [show (j == i) = false by simp; omega]
        simp only [cond_false]
        rw [show p + 1 + L.idxOf i = p + (L.idxOf i + 1) by omega]
      · rw [if_neg hm, if_neg (fun h => (List.mem_cons.1 h).elim hij hm)]
theorem putM_kvs {f : Nat → AVal} {i : Nat} {L : List Nat} (h : i ∉ L) : putM (.int .i64 (i : Int)) (f i) (kvs f L) = some (kvs f (L ++ [i])) := by
  unfold putM
  rw [findM_kvs, if_neg h]
  simp [kvs]
/-- what is known: rungs of all that were met but falses -/
noncomputable def knL (xs : List Nd) (j i : Nat) : List Nat := ((subL xs j).take i).filter fun c => match xs[c]? with | some x => x.k != 2 | none => false
theorem subL_lt {xs : List Nd} {j i c : Nat} (hi : i < (subL xs j).length) (hc : c ∈ subL xs j) (hlt : c < (subL xs j)[i]) : c ∈ (subL xs j).take i := by
  have hs := subL_sorted xs j
  rw [← List.take_append_drop i (subL xs j)] at hc
  rcases List.mem_append.1 hc with h | h
  · exact h
  · rw [List.drop_eq_getElem_cons hi] at h
    rcases List.mem_cons.1 h with e | e
    · omega
    · have := List.pairwise_iff_getElem.1 hs
      obtain ⟨m, hm, e2⟩ := List.mem_iff_getElem.1 e
      rw [List.getElem_drop] at e2
      rw [List.length_drop] at hm
      have := this i (i + 1 + m) hi (by omega) (by omega)
      omega
theorem subL_new {xs : List Nd} {j i : Nat} (hi : i < (subL xs j).length) : (subL xs j)[i] ∉ (subL xs j).take i := fun h => by
  have hn := subL_nodup xs j
  rw [← List.take_append_drop i (subL xs j), List.drop_eq_getElem_cons hi] at hn
  exact (List.nodup_append.1 hn).2.2 _ h _ List.mem_cons_self rfl
theorem known_get {xs : List Nd} {j i c q : Nat} {x : Nd} {h : Heap} {z : Int} (hz : z = (c : Int)) (hq : h q = some (.map (kvs (fun c => (rungOf xs c).v) (knL xs j i)))) (hc : c ∈ (subL xs j).take i) (hx : xs[c]? = some x) {K : AVal → Bool → Prop} (hk : ∀ b, K (rungOf xs c).v b) :
    mapGet (.agg [(.bool false), (.int .i64 0), (.bool false)]) h (.mapr q) (.int .i64 z) K := by
  subst hz
  unfold mapGet mapGetR entsA
  simp only [hq, findM_kvs]
  by_cases hm : c ∈ knL xs j i
  · simp only [if_pos hm]
    exact hk true
  · simp only [if_neg hm]
    have hk2 : x.k = 2 := by
      apply Decidable.byContradiction
      intro hne
      apply hm
      unfold knL
      rw [List.mem_filter]
      refine ⟨hc, ?_⟩
      rw [hx]
      simpa using hne
    have := hk false
    rw [rungOf_2 hx hk2] at this
    exact this

section
variable {t v : AVal} {xs : List Nd} {j q : Nat}
theorem subL_len (xs : List Nd) (j : Nat) : (subL xs j).length ≤ j + 1 := Nat.le_trans (List.length_filter_le _ _) (by simp)
theorem knL_yes {i : Nat} {x : Nd} (hi : i < (subL xs j).length) (hx : xs[(subL xs j)[i]]? = some x) (hk : x.k ≠ 2) : knL xs j (i + 1) = knL xs j i ++ [(subL xs j)[i]] := by
  unfold knL
  rw [List.take_succ_eq_append_getElem hi, List.filter_append]
  congr 1
  rw [List.filter_cons, hx]
  simp [hk]
theorem knL_no {i : Nat} {x : Nd} (hi : i < (subL xs j).length) (hx : xs[(subL xs j)[i]]? = some x) (hk : x.k = 2) : knL xs j (i + 1) = knL xs j i := by
  unfold knL
  rw [List.take_succ_eq_append_getElem hi, List.filter_append]
  rw [List.filter_cons, hx]
  simp [hk]
theorem knL_new {i : Nat} (hi : i < (subL xs j).length) : (subL xs j)[i] ∉ knL xs j i := fun h => subL_new hi (List.mem_filter.1 h).1
theorem rung_l1 (P : PRd h0 t xs) (G : GoodT xs) (hl : xs.length ≤ 1024) (hj : j < xs.length) (hv : Ints v (natI (subL xs j))) (yes : K (.tuple [.int .i64 (rungOf xs j).num, .int .i64 0]) h0) :
    ∀ (d i : Nat) (h : Heap), i + d = (subL xs j).length → Own h0 [.cell q (.map (kvs (fun c => (rungOf xs c).v) (knL xs j i)))] h → s12l1 K (d + 1) t (j : Int) (.mapr q) v ((subL xs j).length : Int) (i : Int) h
  | 0, i, h, hd, O => by
    have hb := rungOf_low G j
    unfold s12l1
    refine ifT_neg (by simp; omega) ?_
    have hjm : j ∈ (subL xs j).take i := by
      rw [List.take_of_length_le (by omega)]
      exact (mem_subL G).2 (.refl _)
    refine known_get rfl (O.get 0 _ q rfl rfl) hjm (List.getElem?_eq_getElem hj) fun b => ?_
    unfold Rung.v Rung.cells
    rw [tAgg_agg, tCons_cons, tBool_bool, tCons_cons, tInt_int, tCons_cons, tBool_bool, tNil_nil]
    refine callG_of (number_ok (r := rungOf xs j) (by omega) ?_)
    rw [tInt_int]
    exact retG_drop O.old yes
  | d + 1, i, h, hd, O => by
    have hi : i < (subL xs j).length := by omega
    have hsub := (mem_subL G).1 (List.getElem_mem hi)
    have hle := hsub.le G
    have h1 := subL_len xs j
    unfold s12l1
    refine ifT_pos (by simp; omega) ?_
    rw [hv.ix (i := i) (by simpa [natI] using hi), ld1_lptr, tInt_int]
    have hg : (natI (subL xs j))[i]'(by simpa [natI] using hi) = (((subL xs j)[i] : Nat) : Int) := by simp [natI]
    rw [hg]
    refine callG_of (nodeP_ok (P.ext O.old) _ (fun a x ha hx => ?_) (fun hno => ?_))
    · have ha : (subL xs j)[i] = a := by omega
      rw [← ha] at hx
      rw [tTup_tuple, tCons_cons, tCons_cons, tBool_bool, tNil_nil]
      unfold nodeV nodeC
      rw [tAgg_agg, tCons_cons, tInt_int, tCons_cons, tStr_str, tCons_cons, tInt_int, tCons_cons, tInt_int, tNil_nil]
      refine newRow_in fun r1 hr1 => st4 (Heap.set_same _ _ _) rfl rfl ?_
      rw [Heap.set_set, ld1_fld (o := 0) (Heap.set_same _ _ _) rfl, tInt_int]
      have O1 : Own h0 [.cell q (.map (kvs (fun c => (rungOf xs c).v) (knL xs j i)))] (h.set r1 (.row 4 [.agg [.int .i64 x.k, .str x.s, .int .i64 x.l, .int .i64 x.r]])) := Own.skip O hr1 (.row 4 [nodeV x])
      have next : ∀ (h2 : Heap), x.k ≠ 2 → Own h0 [.cell q (.map (kvs (fun c => (rungOf xs c).v) (knL xs j i)))] h2 →
          mapPut h2 (.mapr q) (.int .i64 (((subL xs j)[i] : Nat) : Int)) (rungOf xs (subL xs j)[i]).v fun h_6 => s12c2 K (s12l1_G (s12l1 K (d + 1))) t (j : Int) (.mapr q) v ((subL xs j).length : Int) (i : Int) h_6 := by
        intro h2 hk O2
        refine Eq.mpr (mapPut_map (O2.get 0 _ q rfl rfl) (putM_kvs (f := fun c => (rungOf xs c).v) (knL_new hi)) _) ?_
        have O3 := O2.put (i := 0) rfl (.map (kvs (fun c => (rungOf xs c).v) (knL xs j i ++ [(subL xs j)[i]])))
        rw [← knL_yes hi hx hk] at O3 ⊢
        unfold s12c2
        exact rg_of (by omega) (by omega) (s12l1_go (rung_l1 P G hl hj hv yes d (i + 1) _ (by omega) O3))
      rcases G _ x hx with e | e | ⟨e, ⟨l1, l2⟩, r1', r2'⟩
      · refine ifT_pos (by simpa using e) ?_
        have := next _ (by omega) O1
        rw [rungOf_1 hx e] at this
        exact this
      · refine ifT_neg (by simp [e]) (ifT_neg (by simp [e]) (ifT_neg (by simp [e]) (ifT_neg (by simp [e]) ?_)))
        unfold s12c2
        refine rg_of (by omega) (by omega) (s12l1_go (rung_l1 P G hl hj hv yes d (i + 1) _ (by omega) ?_))
        rw [knL_no hi hx e]
        exact O1
      · obtain ⟨a', ha'⟩ := Int.eq_ofNat_of_zero_le l1
        obtain ⟨b', hb'⟩ := Int.eq_ofNat_of_zero_le r1'
        have hk3 : 3 ≤ x.k := by omega
        have sa : Sub xs j a' := hsub.trans (.step ⟨x, hx, hk3, .inl ha'⟩ (.refl _))
        have sb : Sub xs j b' := hsub.trans (.step ⟨x, hx, hk3, .inr hb'⟩ (.refl _))
        have ma := subL_lt hi ((mem_subL G).2 sa) (by omega)
        have mb := subL_lt hi ((mem_subL G).2 sb) (by omega)
        have xa := List.getElem?_eq_getElem (show a' < xs.length by omega)
        have xb := List.getElem?_eq_getElem (show b' < xs.length by omega)
        have la := rungOf_low G a'
        have lb := rungOf_low G b'
        rcases e with e | e | e
        · refine ifT_neg (by simp [e]) (ifT_pos (by simp [e]) ?_)
          rw [ld1_fld (o := 2) (Heap.set_same _ _ _) rfl, tInt_int]
          refine known_get ha' (O1.get 0 _ q rfl rfl) ma xa fun b1 => ?_
          unfold Rung.v Rung.cells
          rw [tAgg_agg, tCons_cons, tBool_bool, tCons_cons, tInt_int, tCons_cons, tBool_bool, tNil_nil]
          rw [ld1_fld (o := 3) (Heap.set_same _ _ _) rfl, tInt_int]
          refine known_get hb' (O1.get 0 _ q rfl rfl) mb xb fun b2 => ?_
          unfold Rung.v Rung.cells
          rw [tAgg_agg, tCons_cons, tBool_bool, tCons_cons, tInt_int, tCons_cons, tBool_bool, tNil_nil]
          refine callG_of (meet_how.2 (rungOf xs a') (rungOf xs b') _ _ (by omega) (by omega) fun h3 x3 => ?_)
          unfold Rung.v Rung.cells
          rw [tAgg_agg, tCons_cons, tBool_bool, tCons_cons, tInt_int, tCons_cons, tBool_bool, tNil_nil]
          have := next h3 (by omega) (Own.ext O1 x3)
          rw [rungOf_3 hx e ha' hb' (by omega) (by omega)] at this
          exact this
        · refine ifT_neg (by simp [e]) (ifT_neg (by simp [e]) (ifT_pos (by simp [e]) ?_))
          rw [ld1_fld (o := 2) (Heap.set_same _ _ _) rfl, tInt_int]
          refine known_get ha' (O1.get 0 _ q rfl rfl) ma xa fun b1 => ?_
          unfold Rung.v Rung.cells
          rw [tAgg_agg, tCons_cons, tBool_bool, tCons_cons, tInt_int, tCons_cons, tBool_bool, tNil_nil]
          rw [ld1_fld (o := 3) (Heap.set_same _ _ _) rfl, tInt_int]
          refine known_get hb' (O1.get 0 _ q rfl rfl) mb xb fun b2 => ?_
          unfold Rung.v Rung.cells
          rw [tAgg_agg, tCons_cons, tBool_bool, tCons_cons, tInt_int, tCons_cons, tBool_bool, tNil_nil]
          refine callG_of (join_how.2 (rungOf xs a') (rungOf xs b') _ _ (by omega) (by omega) fun h3 x3 => ?_)
          unfold Rung.v Rung.cells
          rw [tAgg_agg, tCons_cons, tBool_bool, tCons_cons, tInt_int, tCons_cons, tBool_bool, tNil_nil]
          have := next h3 (by omega) (Own.ext O1 x3)
          rw [rungOf_4 hx e ha' hb' (by omega) (by omega)] at this
          exact this
        · refine ifT_neg (by simp [e]) (ifT_neg (by simp [e]) (ifT_neg (by simp [e]) (ifT_pos (by simp [e]) ?_)))
          rw [ld1_fld (o := 2) (Heap.set_same _ _ _) rfl, tInt_int]
          refine known_get ha' (O1.get 0 _ q rfl rfl) ma xa fun b1 => ?_
          unfold Rung.v Rung.cells
          rw [tAgg_agg, tCons_cons, tBool_bool, tCons_cons, tInt_int, tCons_cons, tBool_bool, tNil_nil]
          rw [ld1_fld (o := 3) (Heap.set_same _ _ _) rfl, tInt_int]
          refine known_get hb' (O1.get 0 _ q rfl rfl) mb xb fun b2 => ?_
          unfold Rung.v Rung.cells
          rw [tAgg_agg, tCons_cons, tBool_bool, tCons_cons, tInt_int, tCons_cons, tBool_bool, tNil_nil]
          refine callG_of (imp_how.2 (rungOf xs a') (rungOf xs b') _ _ (by omega) (by omega) fun h3 x3 => ?_)
          unfold Rung.v Rung.cells
          rw [tAgg_agg, tCons_cons, tBool_bool, tCons_cons, tInt_int, tCons_cons, tBool_bool, tNil_nil]
          have := next h3 (by omega) (Own.ext O1 x3)
          rw [rungOf_5 hx e ha' hb' (by omega) (by omega)] at this
          exact this
    · have := hasN_iff.2 (show 0 ≤ (((subL xs j)[i] : Nat) : Int) ∧ (((subL xs j)[i] : Nat) : Int) < xs.length by omega)
      rw [hno] at this
      cases this
theorem rungP_ok (P : PRd h t xs) (G : GoodT xs) (hl : xs.length ≤ 1024) (i : Int) (no : hasN xs.length i = false → K (.tuple [.int .i64 0, .int .i64 31]) h)
    (many : ∀ j : Nat, i = (j : Int) → j < xs.length → 1 < (atomL xs j).length → K (.tuple [.int .i64 0, .int .i64 220]) h)
    (yes : ∀ j : Nat, i = (j : Int) → j < xs.length → (atomL xs j).length ≤ 1 → K (.tuple [.int .i64 (rungOf xs j).num, .int .i64 0]) h) : ACalls prog 12 [t, .int .i64 i] h K := by
  refine s12_ok ?_
  unfold s12
  refine callG_of (atomsP_ok P G hl i (fun hn => ?_) (fun j hij hj w l hw hp => ?_))
  · rw [tTup_tuple, tCons_cons, tCons_cons, tInt_int, tNil_nil]
    exact ifT_pos rfl (retG_of (no hn))
  · rw [tTup_tuple, tCons_cons, tCons_cons, tInt_int, tNil_nil]
    refine ifT_neg rfl ?_
    rw [hw.len, hp.length_eq]
    by_cases hm : 1 < (atomL xs j).length
    · exact ifT_pos (by simp; omega) (retG_of (many j hij hj hm))
    · refine ifT_neg (by simp; omega) ?_
      intro q hq _
      have O := (Own.start h).newC hq (.map [])
      refine callG_of (belowF_ok (P.ext O.old) G hl i (fun hno => ?_) (fun j' hij' hj' v hv => ?_))
      · have := hasN_iff.2 (show 0 ≤ i ∧ i < (xs.length : Int) by omega)
        rw [hno] at this
        cases this
      · obtain rfl : j' = j := by omega
        rw [tTup_tuple, tCons_cons, tCons_cons, tInt_int, tNil_nil, hv.len, show (natI (subL xs j')).length = (subL xs j').length by simp [natI], hij]
        refine s12l1_in ((subL xs j').length + 1) (rung_l1 P G hl hj hv (yes j' hij hj (by omega)) _ 0 _ (by omega) ?_)
        exact O
end

/-- are two formulas of the same rung the same? -/
noncomputable def eqV (xs : List Nd) (a b : Nat) : Bool := if (rungOf xs a).num ≠ (rungOf xs b).num ∨ (rungOf xs a).num = 0 ∨ (rungOf xs a).num = -1 then (rungOf xs a).num == (rungOf xs b).num else decide (atomL xs a = atomL xs b)
theorem eqS_l1 {a b : AVal} {l k : List ByteArray} (ha : Strs a l) (hb : Strs b k) (hlk : l.length = k.length) (hl : l.length ≤ 1048576) : ∀ d i : Nat, i + d = l.length → K (.bool (decide (l.drop i = k.drop i))) h → s49l1 K (d + 1) a b (l.length : Int) (i : Int) h
  | 0, i, hd, hk => by
    unfold s49l1
    refine ifT_neg (by simp; omega) (retG_of ?_)
    rw [List.drop_eq_nil_of_le (by omega), List.drop_eq_nil_of_le (by omega)] at hk
    simpa using hk
  | d + 1, i, hd, hk => by
    have hi : i < l.length := by omega
    have hi' : i < k.length := by omega
    unfold s49l1
    refine ifT_pos (by simp; omega) ?_
    rw [ha.ix hi, ld1_lptr, tStr_str, hb.ix hi', ld1_lptr, tStr_str]
    rw [drop_eq_step hi hi'] at hk
    rw [strEq_dec]
    by_cases he : l[i] = k[i]
    · refine ifT_neg (by simp [he]) (rg_of (by omega) (by omega) (s49l1_go (eqS_l1 ha hb hlk hl d (i + 1) (by omega) (by simpa [he] using hk))))
    · exact ifT_pos (by simp [he]) (retG_of (by simpa [he] using hk))
theorem eqS_ok {a b : AVal} {l k : List ByteArray} (ha : Strs a l) (hb : Strs b k) (hl : l.length ≤ 1048576) (hk : K (.bool (decide (l = k))) h) : ACalls prog 49 [a, b] h K := by
  refine s49_ok ?_
  unfold s49
  rw [ha.len, hb.len, ha.len]
  by_cases e : l.length = k.length
  · exact ifT_neg (by simp [e]) (s49l1_in (l.length + 1) (eqS_l1 ha hb e hl l.length 0 (by omega) (by simpa using hk)))
  · refine ifT_pos (by simp; omega) (retG_of ?_)
    rwa [show decide (l = k) = false by simp; intro h; exact e (by rw [h])] at hk
theorem perm_one {α : Type} {l k : List α} (h : l.Perm k) (hk : k.length ≤ 1) : l = k := by
  match k, hk with
  | [], _ => exact h.eq_nil
  | [a], _ => exact List.perm_singleton.1 h
theorem equalP_ok {t : AVal} {xs : List Nd} (P : PRd h t xs) (G : GoodT xs) (hl : xs.length ≤ 1024) (i k : Int) (err : ∀ e : Int, ((hasN xs.length i = false ∧ e = 31) ∨ (∃ a : Nat, i = (a : Int) ∧ a < xs.length ∧ 1 < (atomL xs a).length ∧ e = 220) ∨ (∃ a : Nat, i = (a : Int) ∧ a < xs.length ∧ (atomL xs a).length ≤ 1 ∧ hasN xs.length k = false ∧ e = 31) ∨ (∃ a b : Nat, i = (a : Int) ∧ a < xs.length ∧ (atomL xs a).length ≤ 1 ∧ k = (b : Int) ∧ b < xs.length ∧ 1 < (atomL xs b).length ∧ e = 220)) → K (.tuple [.bool false, .int .i64 e]) h)
    (yes : ∀ a b : Nat, i = (a : Int) → k = (b : Int) → a < xs.length → b < xs.length → (atomL xs a).length ≤ 1 → (atomL xs b).length ≤ 1 → K (.tuple [.bool (eqV xs a b), .int .i64 0]) h) : ACalls prog 14 [t, .int .i64 i, .int .i64 k] h K := by
  refine s14_ok ?_
  unfold s14
  have contra : ∀ (z : Int) (a : Nat), z = (a : Int) → a < xs.length → hasN xs.length z = false → False := fun z a h1 h2 h3 => by
    have := hasN_iff.2 (show 0 ≤ z ∧ z < (xs.length : Int) by omega)
    rw [h3] at this
    cases this
  refine callG_of (rungP_ok P G hl i (fun hn => ?_) (fun a ha hal hm => ?_) (fun a ha hal hm => ?_))
  · rw [tTup_tuple, tCons_cons, tInt_int, tCons_cons, tInt_int, tNil_nil]
    exact ifT_pos rfl (retG_of (err 31 (.inl ⟨hn, rfl⟩)))
  · rw [tTup_tuple, tCons_cons, tInt_int, tCons_cons, tInt_int, tNil_nil]
    exact ifT_pos rfl (retG_of (err 220 (.inr (.inl ⟨a, ha, hal, hm, rfl⟩))))
  · rw [tTup_tuple, tCons_cons, tInt_int, tCons_cons, tInt_int, tNil_nil]
    refine ifT_neg rfl (callG_of (rungP_ok P G hl k (fun hn => ?_) (fun b hb hbl hmb => ?_) (fun b hb hbl hmb => ?_)))
    · rw [tTup_tuple, tCons_cons, tInt_int, tCons_cons, tInt_int, tNil_nil]
      exact ifT_pos rfl (retG_of (err 31 (.inr (.inr (.inl ⟨a, ha, hal, hm, hn, rfl⟩)))))
    · rw [tTup_tuple, tCons_cons, tInt_int, tCons_cons, tInt_int, tNil_nil]
      exact ifT_pos rfl (retG_of (err 220 (.inr (.inr (.inr ⟨a, b, ha, hal, hm, hb, hbl, hmb, rfl⟩)))))
    · rw [tTup_tuple, tCons_cons, tInt_int, tCons_cons, tInt_int, tNil_nil]
      have yes := yes a b ha hb hal hbl hm hmb
      unfold eqV at yes
      refine ifT_neg rfl ?_
      have c1t : ((rungOf xs a).num ≠ (rungOf xs b).num ∨ (rungOf xs a).num = 0 ∨ (rungOf xs a).num = -1) → s14c1 K t i k (rungOf xs a).num (rungOf xs b).num true h := fun hc => by
        rw [if_pos hc] at yes
        exact ifT_pos rfl (retG_of yes)
      by_cases e1 : (rungOf xs a).num = (rungOf xs b).num
      · refine ifT_neg (by simp [e1]) ?_
        by_cases e2 : (rungOf xs a).num = 0
        · exact ifT_pos (by simpa using e2) (c1t (.inr (.inl e2)))
        · refine ifT_neg (by simpa using e2) ?_
          by_cases e3 : (rungOf xs a).num = -1
          · rw [show ((rungOf xs a).num == -1) = true by simpa using e3]
            exact c1t (.inr (.inr e3))
          · rw [show ((rungOf xs a).num == -1) = false by simpa using e3]
            rw [if_neg (by omega)] at yes
            unfold s14c1
            refine ifT_neg rfl (callG_of (atomsP_ok P G hl i (fun hn => absurd hn (fun h => contra _ a ha hal h)) (fun a' ha' _ w l hw hp => ?_)))
            obtain rfl : a' = a := by omega
            rw [tTup_tuple, tCons_cons, tCons_cons, tInt_int, tNil_nil]
            refine callG_of (atomsP_ok P G hl k (fun hn => absurd hn (fun h => contra _ b hb hbl h)) (fun b' hb' _ w' l' hw' hp' => ?_))
            obtain rfl : b' = b := by omega
            rw [tTup_tuple, tCons_cons, tCons_cons, tInt_int, tNil_nil]
            obtain rfl := perm_one hp hm
            obtain rfl := perm_one hp' hmb
            refine callG_of (eqS_ok hw hw' (by omega) ?_)
            rw [tBool_bool]
            exact retG_of yes
      · exact ifT_pos (by simpa using e1) (c1t (.inl e1))
end Go.Proofs.YtobpfhmjdoekfaaGreat

/- Words: what names stand for; a formula's element; maps by a key. No condition. Contract: the program's Value. No condition. Contract: the document's Value. No condition. HeytingValues over its inputs: the program's element of a formula is the document's. No condition. -/
import Derived.Test.YtljglglbfcgjpaaGreatRAlg
import Derived.Test.YtljglglbfcgjpaaGreatRTab

set_option linter.unusedVariables false
set_option linter.unusedSimpArgs false

namespace Go.Proofs.YtljglglbfcgjpaaGreat
open Go Go.Sym Go.Proofs.Tryz

variable {K : AVal → Heap → Prop} {h h0 hb : Heap}

/- ---- maps from keys to numbers ---- -/
section
variable {α : Type} [DecidableEq α] {key : α → AVal} {f : α → Int}
def kmap (key : α → AVal) (f : α → Int) (L : List α) : List (AVal × AVal) := L.map fun x => (key x, .int .i64 (f x))
def KeyOK (key : α → AVal) : Prop := ∀ a b, keyEq (key a) (key b) = some (decide (a = b))
theorem findM_key (hk : KeyOK key) (a : α) : ∀ (L : List α) (p : Nat), findM (key a) (kmap key f L) p = some (if a ∈ L then some (p + L.idxOf a, .int .i64 (f a)) else none)
  | [], p => by simp [kmap, findM]
  | j :: L, p => by
    show findM _ ((key j, .int .i64 (f j)) :: kmap key f L) p = _
    unfold findM
    rw [hk a j]
    by_cases hij : a = j
    · subst hij
      simp
    · rw [decide_eq_false hij]
      simp only
      rw [findM_key hk a L (p + 1)]
      by_cases hm : a ∈ L
      · rw [if_pos hm, if_pos (List.mem_cons_of_mem _ hm), List.idxOf_cons]
        rw [show (j == a) = false by rw [beq_eq_false_iff_ne]; exact fun e => hij e.symm]
        simp only [cond_false]
        rw [show p + 1 + L.idxOf a = p + (L.idxOf a + 1) by omega]
      · rw [if_neg hm, if_neg (fun h => (List.mem_cons.1 h).elim hij hm)]
theorem mapGet_key (hk : KeyOK key) {q : Nat} {L : List α} (hq : h q = some (.map (kmap key f L))) (a : α) (X : AVal → Bool → Prop) : mapGet (.int .i64 0) h (.mapr q) (key a) X = X (.int .i64 (if a ∈ L then f a else 0)) (decide (a ∈ L)) := by
  unfold mapGet mapGetR entsA
  simp only [hq, findM_key hk]
  by_cases hm : a ∈ L
  · simp [hm]
  · simp [hm]
theorem mapGet_two (hk : KeyOK key) {q : Nat} {L : List α} (hq : h q = some (.map (kmap key f L))) (a : α) {X : AVal → Bool → Prop} (hin : a ∈ L → X (.int .i64 (f a)) true) (hout : a ∉ L → X (.int .i64 0) false) : mapGet (.int .i64 0) h (.mapr q) (key a) X := by
  rw [mapGet_key hk hq a X]
  by_cases hm : a ∈ L
  · rw [if_pos hm, decide_eq_true hm]; exact hin hm
  · rw [if_neg hm, decide_eq_false hm]; exact hout hm
theorem mapPut_key (hk : KeyOK key) {q : Nat} {L : List α} (hq : h q = some (.map (kmap key f L))) {a : α} (ha : a ∉ L) (X : Heap → Prop) : mapPut h (.mapr q) (key a) (.int .i64 (f a)) X = X (h.set q (.map (kmap key f (L ++ [a])))) := by
  unfold mapPut mapPutR putM
  simp only [hq, findM_key hk]
  rw [if_neg ha]
  simp [kmap]
end
def kS (s : ByteArray) : AVal := .str s
def kN (j : Nat) : AVal := .int .i64 (j : Int)
theorem kS_ok : KeyOK kS := fun a b => by
  have e : keyEq (.str a) (.str b) = some (strEq a b) := rfl
  show keyEq (.str a) (.str b) = _
  rw [e, strEq_dec]
theorem kN_ok : KeyOK kN := fun a b => by
  have e : keyEq (.int .i64 (a : Int)) (.int .i64 (b : Int)) = some ((a : Int) == (b : Int)) := rfl
  show keyEq (.int .i64 (a : Int)) (.int .i64 (b : Int)) = _
  rw [e]
  congr 1
  rw [Bool.eq_iff_iff]
  simp
  omega

theorem getN {q : Nat} {L : List Nat} {f : Nat → Int} (hq : h q = some (.map (kmap kN f L))) (a : Nat) (X : AVal → Bool → Prop) : mapGet (.int .i64 0) h (.mapr q) (.int .i64 (a : Int)) X = X (.int .i64 (if a ∈ L then f a else 0)) (decide (a ∈ L)) := mapGet_key kN_ok hq a X
theorem putN {q : Nat} {L : List Nat} {f : Nat → Int} (hq : h q = some (.map (kmap kN f L))) {a : Nat} (ha : a ∉ L) (X : Heap → Prop) : mapPut h (.mapr q) (.int .i64 (a : Int)) (.int .i64 (f a)) X = X (h.set q (.map (kmap kN f (L ++ [a])))) := mapPut_key kN_ok hq ha X
theorem getS {q : Nat} {L : List ByteArray} {f : ByteArray → Int} (hq : h q = some (.map (kmap kS f L))) (a : ByteArray) {X : AVal → Bool → Prop} (hin : a ∈ L → X (.int .i64 (f a)) true) (hout : a ∉ L → X (.int .i64 0) false) : mapGet (.int .i64 0) h (.mapr q) (.str a) X := mapGet_two kS_ok hq a hin hout
theorem putS {q : Nat} {L : List ByteArray} {f : ByteArray → Int} (hq : h q = some (.map (kmap kS f L))) {a : ByteArray} (ha : a ∉ L) (X : Heap → Prop) : mapPut h (.mapr q) (.str a) (.int .i64 (f a)) X = X (h.set q (.map (kmap kS f (L ++ [a])))) := mapPut_key kS_ok hq ha X

/- ---- what names stand for ---- -/
structure Hy where
  s : ByteArray
  f : Int
def hyC (x : Hy) : List AVal := [.str x.s, .int .i64 x.f]
def hyV (x : Hy) : AVal := .agg (hyC x)
def Hyps (v : AVal) (hs : List Hy) : Prop := SlOf 2 v (hs.map hyV)
theorem Hyps.len {v : AVal} {hs : List Hy} (H : Hyps v hs) (X : Int → Prop) : lenN v X = X hs.length := by rw [lenN_of H]; simp
theorem Hyps.ix {v : AVal} {hs : List Hy} (H : Hyps v hs) {i : Nat} (hi : i < hs.length) (X : AVal → Prop) : ixS 2 v (i : Int) X = X (.lptr (hyC hs[i])) := by
  rw [ixS_of H (e := hyV hs[i]) (by omega) (by simp [hi])]
  rfl
/-- what a name stands for, as the document looks it up -/
def byN (hs : List Hy) (s : ByteArray) : Option Int := (hs.find? fun x => strEq x.s s).map fun x => x.f
def nmS (hs : List Hy) : List ByteArray := hs.map fun x => x.s
theorem byN_isSome {hs : List Hy} {s : ByteArray} : (byN hs s).isSome = true ↔ s ∈ nmS hs := by
  unfold byN nmS
  rw [Option.isSome_map, List.find?_isSome]
  simp only [strEq_dec, decide_eq_true_eq, List.mem_map]
theorem byN_in {hs : List Hy} {s : ByteArray} {c : Int} (h : byN hs s = some c) : ∃ x ∈ hs, x.f = c := by
  unfold byN at h
  obtain ⟨x, hx, rfl⟩ := Option.map_eq_some_iff.1 h
  exact ⟨x, List.mem_of_find?_eq_some hx, rfl⟩
theorem byN_at {hs : List Hy} {i : Nat} (hi : i < hs.length) (hn : hs[i].s ∉ nmS (hs.take i)) : byN hs hs[i].s = some hs[i].f := by
  unfold byN
  have e : hs = hs.take i ++ hs[i] :: hs.drop (i + 1) := by simp
  have hno : (hs.take i).find? (fun x => strEq x.s hs[i].s) = none := by
    rw [List.find?_eq_none]
    intro x hx hc
    rw [strEq_dec, decide_eq_true_eq] at hc
    exact hn (List.mem_map.2 ⟨x, hx, hc⟩)
  have : hs.find? (fun x => strEq x.s hs[i].s) = some hs[i] := by
    conv => lhs; arg 2; rw [e]
    rw [List.find?_append, hno, Option.none_or, List.find?_cons_of_pos]
    rw [strEq_dec, decide_eq_true_eq]
  rw [this]
  rfl
def byF (hs : List Hy) (s : ByteArray) : Int := (byN hs s).getD 0
/-- every element is there, no name twice, in the first i -/
structure HyOK (n : Nat) (hs : List Hy) : Prop where
  el : ∀ x ∈ hs, inE n x.f = true
  nd : (nmS hs).Nodup
theorem HyOK.mono {n : Nat} {a b : List Hy} (W : HyOK n (a ++ b)) : HyOK n a :=
  ⟨fun x hx => W.el x (List.mem_append_left _ hx), by have := W.nd; unfold nmS at this ⊢; rw [List.map_append] at this; exact (List.nodup_append.1 this).1⟩
theorem HyOK.snoc {n : Nat} {a : List Hy} {x : Hy} : HyOK n (a ++ [x]) ↔ HyOK n a ∧ inE n x.f = true ∧ x.s ∉ nmS a := by
  constructor
  · intro W
    refine ⟨W.mono, W.el x (by simp), fun hm => ?_⟩
    have := W.nd
    unfold nmS at this
    rw [List.map_append, List.nodup_append] at this
    exact this.2.2 _ hm _ (by simp) rfl
  · rintro ⟨W, h1, h2⟩
    refine ⟨fun y hy => ?_, ?_⟩
    · rcases List.mem_append.1 hy with h | h
      · exact W.el y h
      · rw [List.mem_singleton.1 h]; exact h1
    · unfold nmS
      rw [List.map_append, List.nodup_append]
      refine ⟨W.nd, by simp, fun a ha b hb => ?_⟩
      simp only [List.map_cons, List.map_nil, List.mem_singleton] at hb
      subst hb
      exact fun e => h2 (e ▸ ha)

/- ---- a formula's element ---- -/
section
variable (n : Nat) (r : Nat → Nat → Bool) (hs : List Hy) (xs : List Nd)
def valF : Nat → Nat → Nat
  | 0, _ => 0
  | d + 1, j => match xs[j]? with
    | none => 0
    | some x => if x.k = 1 then (byF hs x.s).toNat else if x.k = 2 then lowP n r else
      if x.k = 3 then mt n r (valF d x.l.toNat) (valF d x.r.toNat) else if x.k = 4 then jn n r (valF d x.l.toNat) (valF d x.r.toNat) else im n r (valF d x.l.toNat) (valF d x.r.toNat)
def val (j : Nat) : Nat := valF n r hs xs (j + 1) j
end
section
variable {n : Nat} {r : Nat → Nat → Bool} {hs : List Hy} {xs : List Nd}
theorem valF_fuel (G : GoodT xs) : ∀ (d j : Nat), j < d → valF n r hs xs d j = val n r hs xs j := by
  intro d
  induction d using Nat.strongRecOn with
  | ind d ih =>
    intro j hj
    obtain ⟨d, rfl⟩ : ∃ c, d = c + 1 := ⟨d - 1, by omega⟩
    unfold val
    show valF n r hs xs (d + 1) j = valF n r hs xs (j + 1) j
    unfold valF
    cases e : xs[j]? with
    | none => rfl
    | some x =>
      simp only
      rcases G j x e with h1 | h1 | ⟨_, ⟨l1, l2⟩, r1, r2⟩
      · rw [if_pos h1, if_pos h1]
      · rw [if_neg (by omega), if_pos h1, if_neg (by omega), if_pos h1]
      · have hl : x.l.toNat < j := by omega
        have hr : x.r.toNat < j := by omega
        rw [ih d (by omega) _ (by omega), ih d (by omega) _ (by omega)]
        by_cases hjd : j = d
        · subst hjd
          rw [ih j (by omega) _ hl, ih j (by omega) _ hr]
        · rw [ih j (by omega) _ hl, ih j (by omega) _ hr]
variable (G : GoodT xs) {j : Nat} {x : Nd} (hx : xs[j]? = some x)
include hx
theorem val_1 (hk : x.k = 1) : val n r hs xs j = (byF hs x.s).toNat := by
  unfold val valF
  simp only [hx, if_pos hk]
theorem val_2 (hk : x.k = 2) : val n r hs xs j = lowP n r := by
  unfold val valF
  simp only [hx]
  rw [if_neg (by omega), if_pos hk]
include G
theorem val_k (hk : 3 ≤ x.k) : val n r hs xs j = if x.k = 3 then mt n r (val n r hs xs x.l.toNat) (val n r hs xs x.r.toNat) else if x.k = 4 then jn n r (val n r hs xs x.l.toNat) (val n r hs xs x.r.toNat) else im n r (val n r hs xs x.l.toNat) (val n r hs xs x.r.toNat) := by
  rcases G j x hx with h1 | h1 | ⟨_, ⟨l1, l2⟩, r1, r2⟩
  · omega
  · omega
  · rw [show val n r hs xs j = valF n r hs xs (j + 1) j from rfl]
    unfold valF
    simp only [hx]
    rw [if_neg (by omega), if_neg (by omega), valF_fuel G _ _ (by omega), valF_fuel G _ _ (by omega)]
omit hx G in
theorem val_lt (h1 : 1 ≤ n) (H : ∀ x ∈ hs, inE n x.f = true) : ∀ j, val n r hs xs j < n := by
  intro j
  unfold val valF
  cases e : xs[j]? with
  | none => simp only; omega
  | some x =>
    simp only
    split
    · unfold byF
      cases e2 : byN hs x.s with
      | none => simp; omega
      | some c =>
        obtain ⟨y, hy, rfl⟩ := byN_in e2
        have := H y hy
        simp only [inE, Bool.and_eq_true, decide_eq_true_eq] at this
        simp only [Option.getD_some]
        omega
    · split
      · exact low_lt h1
      · split
        · exact mt_lt h1 _ _
        · split
          · exact jn_lt h1 _ _
          · exact im_lt h1 _ _
end
/-- is every atom below named? -/
def NamedB (hs : List Hy) (xs : List Nd) (c : Nat) : Prop := ∀ x, xs[c]? = some x → x.k = 1 → x.s ∈ nmS hs
open Classical in
/-- what Value answers -/
noncomputable def valR (L : List (List Bool)) (hs : List Hy) (xs : List Nd) (id : Int) : Int × Int :=
  if algP L = true then (if hasN xs.length id = true then (if HyOK L.length hs ∧ ∀ c ∈ subL xs id.toNat, NamedB hs xs c then ((val L.length (at2 L) hs xs id.toNat : Nat), 0) else (0, 2)) else (0, 31)) else (0, 230)
noncomputable def valV (L : List (List Bool)) (hs : List Hy) (xs : List Nd) (id : Int) : AVal := .tuple [.int .i64 (valR L hs xs id).1, .int .i64 (valR L hs xs id).2]
section
variable {L : List (List Bool)} {hs : List Hy} {xs : List Nd} {id : Int}
theorem valV_alg (h1 : algP L = false) : valV L hs xs id = .tuple [.int .i64 0, .int .i64 230] := by
  unfold valV valR
  rw [if_neg (by rw [h1]; simp)]
theorem valV_has (h1 : algP L = true) (h2 : hasN xs.length id = false) : valV L hs xs id = .tuple [.int .i64 0, .int .i64 31] := by
  unfold valV valR
  rw [if_pos h1, if_neg (by rw [h2]; simp)]
theorem valV_no (h1 : algP L = true) (h2 : hasN xs.length id = true) (h3 : ¬ (HyOK L.length hs ∧ ∀ c ∈ subL xs id.toNat, NamedB hs xs c)) : valV L hs xs id = .tuple [.int .i64 0, .int .i64 2] := by
  unfold valV valR
  rw [if_pos h1, if_pos h2, if_neg h3]
theorem valV_yes (h1 : algP L = true) (h2 : hasN xs.length id = true) (h3 : HyOK L.length hs ∧ ∀ c ∈ subL xs id.toNat, NamedB hs xs c) : valV L hs xs id = .tuple [.int .i64 (val L.length (at2 L) hs xs id.toNat : Nat), .int .i64 0] := by
  unfold valV valR
  rw [if_pos h1, if_pos h2, if_pos h3]
end
end Go.Proofs.YtljglglbfcgjpaaGreat

namespace Go.Proofs.YtljglglbfcgjpaaGreat
open Go Go.Sym Go.Proofs.Tryz

variable {K : AVal → Heap → Prop} {h h0 hb : Heap}

theorem ldN2_lptr (h : Heap) (a b : AVal) (X : List AVal → Prop) : ldN 2 h (.lptr [a, b]) X = X [a, b] := rfl
theorem subL_kid {xs : List Nd} (G : GoodT xs) {i j k : Nat} (hj : j ∈ subL xs i) (hk : Kid xs j k) : k ∈ subL xs i := (mem_subL G).2 (((mem_subL G).1 hj).trans (.step hk (.refl _)))
theorem subL_lt {xs : List Nd} (i : Nat) : (subL xs i).Pairwise (· < ·) := List.pairwise_lt_range.sublist List.filter_sublist
theorem subL_lt_len {xs : List Nd} {i j : Nat} (hi : i < xs.length) (h : j ∈ subL xs i) : j < xs.length := by
  unfold subL at h
  have := List.mem_range.1 (List.mem_filter.1 h).1
  omega
/-- what is less than the i-th stands before it -/
theorem take_of_lt {l : List Nat} (hp : l.Pairwise (· < ·)) {i : Nat} (hi : i < l.length) {k : Nat} (hk : k ∈ l) (h : k < l[i]) : k ∈ l.take i := by
  obtain ⟨j, hj, rfl⟩ := List.getElem_of_mem hk
  have : j < i := by
    rcases Nat.lt_or_ge j i with e | e
    · exact e
    · rcases Nat.eq_or_lt_of_le e with e | e
      · subst e; omega
      · have := List.pairwise_iff_getElem.1 hp i j hi hj e
        omega
  rw [List.mem_take_iff_getElem]
  exact ⟨j, by omega, rfl⟩
theorem not_take {l : List Nat} (hp : l.Pairwise (· < ·)) {i : Nat} (hi : i < l.length) : l[i] ∉ l.take i := fun h => by
  obtain ⟨j, hj, e⟩ := List.mem_take_iff_getElem.1 h
  have := List.pairwise_iff_getElem.1 hp j i (by omega) hi (by omega)
  omega

section
variable {n : Nat} {r : Nat → Nat → Bool} {f : AVal} {hs : List Hy} {xs : List Nd} {t bv : AVal} {q q1 q2 j0 : Nat}
/-- the state of the last loop -/
def VS (hb : Heap) (q q1 q2 n : Nat) (f : AVal) (r : Nat → Nat → Bool) (hs : List Hy) (xs : List Nd) (L : List Nat) (h : Heap) : Prop :=
  Own hb [.cell q (.row 2 [.agg (latC n f)]), .cell q1 (.map (kmap kS (byF hs) (nmS hs))), .cell q2 (.map (kmap kN (fun j => ((val n r hs xs j : Nat) : Int)) L))] h
theorem valueP_l3 (P : PRd h0 t xs) (G : GoodT xs) (hl : xs.length ≤ 1024) (hf : T2 f n r) (hn : n ≤ 1073741824) (h1 : 1 ≤ n) (HY : HyOK n hs) (hj0 : j0 < xs.length) (hbv : Ints bv (natI (subL xs j0)))
    (no : ¬ (∀ c ∈ subL xs j0, NamedB hs xs c) → K (.tuple [.int .i64 0, .int .i64 2]) h0) (yes : (∀ c ∈ subL xs j0, NamedB hs xs c) → K (.tuple [.int .i64 ((val n r hs xs j0 : Nat) : Int), .int .i64 0]) h0) :
    ∀ (d i : Nat) (h : Heap), i + d = (subL xs j0).length → (∀ c ∈ (subL xs j0).take i, NamedB hs xs c) → VS h0 q q1 q2 n f r hs xs ((subL xs j0).take i) h →
      s21l3 K (d + 1) t (j0 : Int) (.ptr q 0 0) (.mapr q1) ((lowP n r : Nat) : Int) (.mapr q2) bv ((subL xs j0).length : Int) (i : Int) h
  | 0, i, h, hd, hnm, O => by
    unfold s21l3
    refine ifT_neg (by simp; omega) ?_
    rw [List.take_of_length_le (by omega)] at O hnm
    rw [getN (O.get 2 _ q2 rfl rfl), if_pos ((mem_subL G).2 (.refl j0)), tInt_int]
    exact retG_drop O.old (yes hnm)
  | d + 1, i, h, hd, hnm, O => by
    have hlen : (subL xs j0).length ≤ j0 + 1 := by
      unfold subL
      exact Nat.le_trans (List.length_filter_le _ _) (by simp)
    have hi : i < (subL xs j0).length := by omega
    have hsorted := subL_lt (xs := xs) j0
    have hmem : (subL xs j0)[i] ∈ subL xs j0 := List.getElem_mem hi
    have hnt := not_take hsorted hi
    have htk : ∀ k, Kid xs (subL xs j0)[i] k → k ∈ (subL xs j0).take i := fun k hk => take_of_lt hsorted hi (subL_kid G hmem hk) (hk.lt G)
    have htS : (subL xs j0).take (i + 1) = (subL xs j0).take i ++ [(subL xs j0)[i]] := List.take_succ_eq_append_getElem hi
    unfold s21l3
    refine ifT_pos (by simp; omega) ?_
    have hni : i < (natI (subL xs j0)).length := by simpa [natI] using hi
    rw [hbv.ix hni, ld1_lptr, tInt_int]
    have ej : (natI (subL xs j0))[i] = (((subL xs j0)[i] : Nat) : Int) := by simp [natI]
    rw [ej]
    generalize hjj : (subL xs j0)[i] = j at *
    refine callG_of (nodeP_ok (P.ext O.old) _ (fun j' x ej' hx => ?_) (fun e => ?_))
    · obtain rfl : j = j' := by omega
      rw [tTup_tuple, tCons_cons, tCons_cons, tBool_bool, tNil_nil, nodeV, tAgg_agg, nodeC, tCons_cons, tInt_int, tCons_cons, tStr_str, tCons_cons, tInt_int, tCons_cons, tInt_int, tNil_nil]
      refine newRow_in fun r4 hr4 => st_z (Heap.set_same _ _ _) ?_
      rw [Heap.set_set]
      have O1 := Own.skip O hr4 (.row 4 [.agg [.int .i64 x.k, .str x.s, .int .i64 x.l, .int .i64 x.r]])
      have go : ∀ (w : Int), NamedB hs xs j → w = ((val n r hs xs j : Nat) : Int) → mapPut (h.set r4 (.row 4 [.agg [.int .i64 x.k, .str x.s, .int .i64 x.l, .int .i64 x.r]])) (.mapr q2) (.int .i64 (j : Int)) (.int .i64 w) fun h14 =>
          s21c4 K (s21l3_G (s21l3 K (d + 1))) t (j0 : Int) (.ptr q 0 0) (.mapr q1) ((lowP n r : Nat) : Int) (.mapr q2) bv ((subL xs j0).length : Int) (i : Int) h14 := fun w hnb hw => by
        subst hw
        rw [putN (f := fun j => ((val n r hs xs j : Nat) : Int)) (O1.get 2 _ q2 rfl rfl) hnt]
        unfold s21c4
        refine rg_of (by omega) (by omega) (s21l3_go (valueP_l3 P G hl hf hn h1 HY hj0 hbv no yes d (i + 1) _ (by omega) (fun c hc => ?_) ?_))
        · rw [htS] at hc
          rcases List.mem_append.1 hc with e | e
          · exact hnm c e
          · rw [List.mem_singleton.1 e]; exact hnb
        · rw [htS]
          exact O1.put (i := 2) rfl _
      have f0 := fun X => ld1_fld (o := 0) (Heap.set_same h r4 (.row 4 [.agg [.int .i64 x.k, .str x.s, .int .i64 x.l, .int .i64 x.r]])) rfl X
      have f1 := fun X => ld1_fld (o := 1) (Heap.set_same h r4 (.row 4 [.agg [.int .i64 x.k, .str x.s, .int .i64 x.l, .int .i64 x.r]])) rfl X
      have f2 := fun X => ld1_fld (o := 2) (Heap.set_same h r4 (.row 4 [.agg [.int .i64 x.k, .str x.s, .int .i64 x.l, .int .i64 x.r]])) rfl X
      have f3 := fun X => ld1_fld (o := 3) (Heap.set_same h r4 (.row 4 [.agg [.int .i64 x.k, .str x.s, .int .i64 x.l, .int .i64 x.r]])) rfl X
      have lat := ldN2 (O1.get 0 _ q rfl rfl)
      have g2 := fun a X => getN (f := fun j => ((val n r hs xs j : Nat) : Int)) (O1.get 2 _ q2 rfl rfl) a X
      have nb2 : x.k ≠ 1 → NamedB hs xs j := fun hk y hy hk2 => by rw [hx] at hy; cases hy; exact absurd hk2 hk
      rw [f0, tInt_int]
      by_cases k1 : x.k = 1
      · refine ifT_pos (by simpa using k1) ?_
        rw [f1, tStr_str]
        refine getS (O1.get 1 _ q1 rfl rfl) x.s (fun hin => ?_) (fun hout => ?_)
        · rw [tInt_int]
          refine ifT_neg rfl (go _ (fun y hy _ => ?_) ?_)
          · rw [hx] at hy; cases hy; exact hin
          · rw [val_1 hx k1]
            obtain ⟨c, hc⟩ := Option.isSome_iff_exists.1 (byN_isSome.2 hin)
            obtain ⟨y, hy, e⟩ := byN_in hc
            have := HY.el y hy
            simp only [inE, Bool.and_eq_true, decide_eq_true_eq] at this
            unfold byF
            rw [hc]
            simp only [Option.getD_some]
            omega
        · rw [tInt_int]
          refine ifT_pos rfl (retG_drop O1.old (no fun hall => hout (hall j hmem x hx k1)))
      · refine ifT_neg (by simpa using k1) ?_
        by_cases k2 : x.k = 2
        · refine ifT_pos (by simpa using k2) (go _ (nb2 k1) ?_)
          rw [val_2 hx k2]
        · refine ifT_neg (by simpa using k2) ?_
          have g := G j x hx
          obtain ⟨e, ⟨l1, l2⟩, r1, r2⟩ := (g.resolve_left k1).resolve_left k2
          obtain ⟨a, ha⟩ := Int.eq_ofNat_of_zero_le l1
          obtain ⟨b, hb'⟩ := Int.eq_ofNat_of_zero_le r1
          have hva : val n r hs xs a < n := val_lt h1 HY.el a
          have hvb : val n r hs xs b < n := val_lt h1 HY.el b
          have ma : a ∈ (subL xs j0).take i := htk a ⟨x, hx, by omega, .inl ha⟩
          have mb : b ∈ (subL xs j0).take i := htk b ⟨x, hx, by omega, .inr hb'⟩
          have hv := val_k (n := n) (r := r) (hs := hs) G hx (by omega)
          rw [ha, hb', Int.toNat_natCast, Int.toNat_natCast] at hv
          have ga := fun X => g2 a X
          have gb := fun X => g2 b X
          rw [← ha] at ga
          rw [← hb'] at gb
          by_cases k3 : x.k = 3
          · refine ifT_pos (by simpa using k3) ?_
            rw [lat, tCons_cons, tInt_int, tCons_cons, tNil_nil, f2, tInt_int, ga, if_pos ma, tInt_int, f3, tInt_int, gb, if_pos mb, tInt_int]
            refine callG_of (meetH_ok hf hn hva hvb ?_)
            unfold bestV
            rw [tTup_tuple, tCons_cons, tInt_int, tCons_cons, tBool_bool, tNil_nil]
            refine go _ (nb2 k1) ?_
            rw [hv, if_pos k3]
            rfl
          · refine ifT_neg (by simpa using k3) ?_
            by_cases k4 : x.k = 4
            · refine ifT_pos (by simpa using k4) ?_
              rw [lat, tCons_cons, tInt_int, tCons_cons, tNil_nil, f2, tInt_int, ga, if_pos ma, tInt_int, f3, tInt_int, gb, if_pos mb, tInt_int]
              refine callG_of (joinH_ok hf hn hva hvb ?_)
              unfold bestV
              rw [tTup_tuple, tCons_cons, tInt_int, tCons_cons, tBool_bool, tNil_nil]
              refine go _ (nb2 k1) ?_
              rw [hv, if_neg k3, if_pos k4]
              rfl
            · refine ifT_neg (by simpa using k4) ?_
              refine ifT_pos (by simp; omega) ?_
              rw [lat, tCons_cons, tInt_int, tCons_cons, tNil_nil, f2, tInt_int, ga, if_pos ma, tInt_int, f3, tInt_int, gb, if_pos mb, tInt_int]
              refine callG_of (impH_ok hf hn hva hvb ?_)
              rw [tInt_int]
              refine go _ (nb2 k1) ?_
              rw [hv, if_neg k3, if_neg k4]
    · have := subL_lt_len hj0 hmem
      rw [hasN_iff.2 (by omega)] at e
      cases e
theorem valueP_l1 (P : PRd h0 t xs) (G : GoodT xs) (hl : xs.length ≤ 1024) (hf : T2 f n r) (hn : n ≤ 1073741824) (h1 : 1 ≤ n) {v : AVal} (H : Hyps v hs) (hhs : hs.length ≤ 1048576) (hj0 : j0 < xs.length) (hbv : Ints bv (natI (subL xs j0)))
    (no : ¬ (HyOK n hs ∧ ∀ c ∈ subL xs j0, NamedB hs xs c) → K (.tuple [.int .i64 0, .int .i64 2]) h0) (yes : (HyOK n hs ∧ ∀ c ∈ subL xs j0, NamedB hs xs c) → K (.tuple [.int .i64 ((val n r hs xs j0 : Nat) : Int), .int .i64 0]) h0) :
    ∀ (d i : Nat) (h : Heap), i + d = hs.length → HyOK n (hs.take i) → Own h0 [.cell q (.row 2 [.agg (latC n f)]), .cell q1 (.map (kmap kS (byF hs) (nmS (hs.take i))))] h →
      s21l1 K (d + 1) t (j0 : Int) (.ptr q 0 0) bv (.mapr q1) v (hs.length : Int) (i : Int) h
  | 0, i, h, hd, HY, O => by
    unfold s21l1
    refine ifT_neg (by simp; omega) ?_
    rw [List.take_of_length_le (by omega)] at HY O
    rw [ldN2 (O.get 0 _ q rfl rfl), tCons_cons, tInt_int, tCons_cons, tNil_nil]
    refine callG_of (boundsH_ok hf hn ?_)
    rw [tTup_tuple, tCons_cons, tInt_int, tCons_cons, tInt_int, tNil_nil]
    intro q2 hq2 _
    have O2 := O.newC hq2 (.map [])
    rw [hbv.len]
    have e : (natI (subL xs j0)).length = (subL xs j0).length := by simp [natI]
    rw [e]
    exact s21l3_in ((subL xs j0).length + 1) (valueP_l3 P G hl hf hn h1 HY hj0 hbv (fun hno => no fun h => hno h.2) (fun hy => yes ⟨HY, hy⟩) (subL xs j0).length 0 _ (by omega) (fun c hc => by simp at hc) O2)
  | d + 1, i, h, hd, HY, O => by
    have hi : i < hs.length := by omega
    have htS : hs.take (i + 1) = hs.take i ++ [hs[i]] := List.take_succ_eq_append_getElem hi
    have hall : HyOK n hs → HyOK n (hs.take i ++ [hs[i]]) := fun W => by
      rw [← htS]
      rw [← List.take_append_drop (i + 1) hs] at W
      exact W.mono
    unfold s21l1
    refine ifT_pos (by simp; omega) ?_
    rw [H.ix hi, hyC, ldN2_lptr, tCons_cons, tStr_str, tCons_cons, tInt_int, tNil_nil]
    refine newRow_in fun r4 hr4 => st_all (Heap.set_same _ _ _) rfl ?_
    rw [Heap.set_set]
    have O1 := Own.skip O hr4 (.row 2 [.agg [.str hs[i].s, .int .i64 hs[i].f]])
    have f0 := fun X => ld1_fld (o := 0) (Heap.set_same h r4 (.row 2 [.agg [.str hs[i].s, .int .i64 hs[i].f]])) rfl X
    have f1 := fun X => ld1_fld (o := 1) (Heap.set_same h r4 (.row 2 [.agg [.str hs[i].s, .int .i64 hs[i].f]])) rfl X
    have bad : ¬ HyOK n (hs.take i ++ [hs[i]]) → s21c2 K (s21l1_G (s21l1 K (d + 1))) t (j0 : Int) (.ptr q 0 0) bv (.mapr q1) (.ptr r4 0 0) v (hs.length : Int) (i : Int) true (h.set r4 (.row 2 [.agg [.str hs[i].s, .int .i64 hs[i].f]])) := fun hb => by
      unfold s21c2
      exact ifT_pos rfl (retG_drop O1.old (no fun hw => hb (hall hw.1)))
    rw [f0, tStr_str]
    refine getS (O1.get 1 _ q1 rfl rfl) hs[i].s (fun hin => ?_) (fun hout => ?_)
    · rw [tInt_int]
      exact ifT_pos rfl (bad fun W => (HyOK.snoc.1 W).2.2 hin)
    · rw [tInt_int]
      refine ifT_neg rfl ?_
      rw [f1, tInt_int]
      by_cases e1 : hs[i].f < 0
      · refine ifT_pos (by simpa using e1) (bad fun W => ?_)
        have := (HyOK.snoc.1 W).2.1
        simp only [inE, Bool.and_eq_true, decide_eq_true_eq] at this
        omega
      · refine ifT_neg (by simpa using e1) ?_
        rw [f1, tInt_int]
        show ld1 _ (.ptr q 0 0) _
        rw [ld1_fld (O1.get 0 _ q rfl rfl) rfl, tInt_int]
        by_cases e2 : (n : Int) ≤ hs[i].f
        · rw [decide_eq_true e2]
          refine bad fun W => ?_
          have := (HyOK.snoc.1 W).2.1
          simp only [inE, Bool.and_eq_true, decide_eq_true_eq] at this
          omega
        · rw [decide_eq_false e2]
          unfold s21c2
          refine ifT_neg rfl ?_
          show ld1 _ (.ptr r4 0 0) _
          rw [f0, tStr_str]
          show ld1 _ (.ptr r4 0 1) _
          rw [f1, tInt_int]
          have ef : hs[i].f = byF hs hs[i].s := by
            unfold byF
            rw [byN_at hi hout]
            rfl
          have pp := fun X => putS (f := byF hs) (O1.get 1 _ q1 rfl rfl) hout X
          rw [← ef] at pp
          rw [pp]
          refine rg_of (by omega) (by omega) (s21l1_go (valueP_l1 P G hl hf hn h1 H hhs hj0 hbv no yes d (i + 1) _ (by omega) ?_ ?_))
          · rw [htS]
            exact HyOK.snoc.2 ⟨HY, by unfold inE; simp; omega, hout⟩
          · have e3 : nmS (hs.take (i + 1)) = nmS (hs.take i) ++ [hs[i].s] := by rw [htS]; unfold nmS; rw [List.map_append]; rfl
            rw [e3]
            exact O1.put (i := 1) rfl _
end
section
variable {a t v : AVal} {L : List (List Bool)} {hs : List Hy} {xs : List Nd}
theorem valueP_ok (A : AlgV a L) (P : PRd h t xs) (G : GoodT xs) (hl : xs.length ≤ 1024) (H : Hyps v hs) (hhs : hs.length ≤ 1048576) (id : Int) (hk : K (valV L hs xs id) h) : ACalls prog 21 [.agg [a], t, .int .i64 id, v] h K := by
  refine s21_ok ?_
  unfold s21
  refine callG_of (look_ok A.v A.len A.row (els := []) (.inr ⟨rfl, rfl⟩) (by simp) ?_)
  rw [tTup_tuple, tCons_cons, tCons_cons, tInt_int, tNil_nil, tAgg_agg, tCons_cons, tInt_int, tCons_cons, tNil_nil]
  refine newRow_in fun q hq => st_all (Heap.set_same _ _ _) rfl ?_
  rw [Heap.set_set]
  unfold lookE
  cases e : algP L with
  | false =>
    rw [valV_alg e] at hk
    exact ifT_pos rfl (retG_drop (Heap.set_sub hq) hk)
  | true =>
    obtain ⟨hf, hn, h1⟩ := A.alg e
    refine ifT_neg rfl ?_
    refine callG_of (belowF_ok (P.ext (Heap.set_sub hq)) G hl id (fun e2 => ?_) (fun j0 e2 hj0 bv hbv => ?_))
    · rw [tTup_tuple, tCons_cons, tCons_cons, tInt_int, tNil_nil]
      rw [valV_has e e2] at hk
      exact ifT_pos rfl (retG_drop (Heap.set_sub hq) hk)
    · subst e2
      rw [tTup_tuple, tCons_cons, tCons_cons, tInt_int, tNil_nil]
      refine ifT_neg rfl ?_
      intro q1 hq1 _
      have O := ((Own.start h).newC hq (.row 2 [.agg (latC L.length (leqV a))])).newC hq1 (.map [])
      rw [H.len]
      have e3 : hasN xs.length (j0 : Int) = true := hasN_iff.2 (by omega)
      refine s21l1_in (hs.length + 1) (valueP_l1 P G hl hf hn h1 H hhs hj0 hbv (fun hno => ?_) (fun hy => ?_) hs.length 0 _ (by omega) ⟨fun x hx => by simp at hx, by simp [nmS]⟩ O)
      · rw [valV_no e e3 (by rwa [Int.toNat_natCast])] at hk
        exact hk
      · rw [valV_yes e e3 (by rwa [Int.toNat_natCast]), Int.toNat_natCast] at hk
        exact hk
theorem belowNil_ok (i : Int) (hk : K (.tuple [.nilsl, .int .i64 1]) h) : ACalls prog 48 [.nilptr, .int .i64 i] h K := by
  refine s48_ok ?_
  unfold s48
  refine chk_iff.2 ⟨rfl, callG_of (s91_ok ?_)⟩
  unfold s91
  rw [nilP_nil]
  refine ifT_neg rfl (retG_of ?_)
  rw [tBool_bool]
  exact ifT_pos rfl (retG_of hk)
/-- a table that no call made -/
theorem valueNil_ok (A : AlgV a L) (id : Int) (hk : ∀ x : Int, K (.tuple [.int .i64 x, .int .i64 (if algP L = true then 1 else 230)]) h) : ACalls prog 21 [.agg [a], .nilptr, .int .i64 id, v] h K := by
  refine s21_ok ?_
  unfold s21
  refine callG_of (look_ok A.v A.len A.row (els := []) (.inr ⟨rfl, rfl⟩) (by simp) ?_)
  rw [tTup_tuple, tCons_cons, tCons_cons, tInt_int, tNil_nil, tAgg_agg, tCons_cons, tInt_int, tCons_cons, tNil_nil]
  refine newRow_in fun q hq => st_all (Heap.set_same _ _ _) rfl ?_
  rw [Heap.set_set]
  unfold lookE
  cases e : algP L with
  | false =>
    have := hk 0
    rw [if_neg (by rw [e]; simp)] at this
    exact ifT_pos rfl (retG_drop (Heap.set_sub hq) this)
  | true =>
    have := hk 0
    rw [if_pos e] at this
    refine ifT_neg rfl ?_
    refine callG_of (belowNil_ok _ ?_)
    rw [tTup_tuple, tCons_cons, tCons_cons, tInt_int, tNil_nil]
    exact ifT_pos rfl (retG_drop (Heap.set_sub hq) this)
end
end Go.Proofs.YtljglglbfcgjpaaGreat

namespace Go.Proofs.YtljglglbfcgjpaaGreat
open Go Go.Sym Go.Proofs.Tryz

variable {K : AVal → Heap → Prop} {h h0 hb : Heap}

theorem RdN.pt {v : AVal} {xs : List Nd} (R : RdN h v xs) {i : Nat} {x : Nd} (hi : xs[i]? = some x) : ∃ p, (∀ X : AVal → Prop, X p → ixS 4 v (i : Int) X) ∧ ∀ h', (∀ q o, h q = some o → h' q = some o) → ∀ Y : List AVal → Prop, ldN 4 h' p Y = Y (nodeC x) := by
  have hlt := (List.getElem?_eq_some_iff.1 hi).1
  rcases R with ⟨rfl, rfl⟩ | ⟨r, L, rfl, hr, hL⟩ | R
  · simp at hlt
  · exact ⟨.ptr r i 0, fun X hX => ixS_sl0 hlt hX, fun h' e Y => ldN_elem (n := 4) (e _ _ hr) (hL i x hi) rfl Y⟩
  · refine ⟨.lptr (nodeC x), fun X hX => ?_, fun h' _ Y => ldN_node h' x Y⟩
    rw [R.ix hlt, (List.getElem?_eq_some_iff.1 hi).2]
    exact hX
theorem iRow_rdI {r n : Nat} {f : Nat → Int} {hh : Heap} (hr : hh r = some (iRow n f)) {w : Nat} (hw : w < n) {z : Int} (hz : z = (w : Int)) {K : AVal → Prop} (hk : K (.int .i64 (f w))) : ixS 1 (.sl r 1 0 n) z fun q => ld1 hh q K := by
  subst hz
  exact iRow_rd hr hw hk
theorem HP.ldA {v a vM vJ : AVal} {L : List (List Bool)} (H : HP v L a vM vJ) (h : Heap) (X : AVal → Prop) : (nilCheckA v fun p => addOff p 0 fun p => ld1 h p X) = X a := by obtain ⟨rfl, _, _, _⟩ := H; rfl
theorem HP.ldM {v a vM vJ : AVal} {L : List (List Bool)} (H : HP v L a vM vJ) (h : Heap) (X : AVal → Prop) : (nilCheckA v fun p => addOff p 1 fun p => ld1 h p X) = X vM := by obtain ⟨rfl, _, _, _⟩ := H; rfl
theorem HP.ldJ {v a vM vJ : AVal} {L : List (List Bool)} (H : HP v L a vM vJ) (h : Heap) (X : AVal → Prop) : (nilCheckA v fun p => addOff p 2 fun p => ld1 h p X) = X vJ := by obtain ⟨rfl, _, _, _⟩ := H; rfl
theorem Hyps.nm {v : AVal} {hs : List Hy} (H : Hyps v hs) {i : Nat} (hi : i < hs.length) (h : Heap) (X : AVal → Prop) : (ixS 2 v (i : Int) fun p => addOff p 0 fun p => ld1 h p X) = X (.str hs[i].s) := by rw [H.ix hi]; rfl
theorem Hyps.fm {v : AVal} {hs : List Hy} (H : Hyps v hs) {i : Nat} (hi : i < hs.length) (h : Heap) (X : AVal → Prop) : (ixS 2 v (i : Int) fun p => addOff p 1 fun p => ld1 h p X) = X (.int .i64 hs[i].f) := by rw [H.ix hi]; rfl

section
variable {v : AVal} {hs : List Hy} (H : Hyps v hs) (hl : hs.length ≤ 1048576)
include H hl
theorem namedD_l1 {s : ByteArray} : ∀ (d i : Nat), i + d = hs.length → (∀ k (hk : k < hs.length), k < i → hs[k].s ≠ s) → K (.int .i64 ((byN hs s).getD (-1))) h → s53l1 K (d + 1) v s (i : Int) h
  | 0, i, hd, hb, hk => by
    unfold s53l1
    rw [H.len]
    refine ifT_neg (by simp; omega) (retG_of ?_)
    have e : byN hs s = none := by
      unfold byN
      rw [Option.map_eq_none_iff, List.find?_eq_none]
      intro x hx hc
      obtain ⟨k, hk, rfl⟩ := List.getElem_of_mem hx
      rw [strEq_dec, decide_eq_true_eq] at hc
      exact hb k hk (by omega) hc
    rwa [e] at hk
  | d + 1, i, hd, hb, hk => by
    have hi : i < hs.length := by omega
    unfold s53l1
    rw [H.len]
    refine ifT_pos (by simp; omega) ?_
    rw [H.nm hi, tStr_str, strEq_dec]
    by_cases e : hs[i].s = s
    · refine ifT_pos (by simpa using e) ?_
      rw [H.fm hi, tInt_int]
      refine retG_of ?_
      have hn : hs[i].s ∉ nmS (hs.take i) := fun hm => by
        unfold nmS at hm
        obtain ⟨x, hx, e2⟩ := List.mem_map.1 hm
        obtain ⟨k, hk, rfl⟩ := List.mem_take_iff_getElem.1 hx
        exact hb k (by omega) (by omega) (e2.trans e)
      rw [← e, byN_at hi hn] at hk
      exact hk
    · exact ifT_neg (by simpa using e) (rg_of (by omega) (by omega) (s53l1_go (namedD_l1 d (i + 1) (by omega) (fun k hk1 hk2 => by
        by_cases e2 : k = i
        · subst e2; exact e
        · exact hb k hk1 (by omega)) hk)))
theorem namedD_ok (s : ByteArray) (hk : K (.int .i64 ((byN hs s).getD (-1))) h) : ACalls prog 53 [v, .str s] h K := by
  refine s53_ok ?_
  unfold s53
  exact s53l1_in (hs.length + 1) (namedD_l1 H hl hs.length 0 (by omega) (fun k hk1 hk2 => by omega) hk)
end

section
variable {v vH a vM vJ bv : AVal} {L : List (List Bool)} {hs : List Hy} {xs : List Nd} {t : AVal} {j0 : Nat}
theorem valueD_l4 {rv : Nat} (D : DRd h0 t xs) (G : GoodT xs) (hl : xs.length ≤ 1024) (HH : HP vH L a vM vJ) (hs1 : Sq L) (hL : L.length ≤ 64) (h1 : 1 ≤ L.length) (A : Lat L.length (at2 L)) (H : Hyps v hs) (hhs : hs.length ≤ 1048576) (HY : HyOK L.length hs) (hj0 : j0 < xs.length) (hbv : Ints bv (natI (subL xs j0)))
    (no : ¬ (∀ c ∈ subL xs j0, NamedB hs xs c) → K (.tuple [.int .i64 0, .int .i64 2]) h0) (yes : (∀ c ∈ subL xs j0, NamedB hs xs c) → K (.tuple [.int .i64 ((val L.length (at2 L) hs xs j0 : Nat) : Int), .int .i64 0]) h0) :
    ∀ (d i : Nat) (g : Nat → Int) (h : Heap), i + d = (subL xs j0).length → (∀ c ∈ (subL xs j0).take i, NamedB hs xs c) → (∀ c ∈ (subL xs j0).take i, g c = ((val L.length (at2 L) hs xs c : Nat) : Int)) → Own h0 [.cell rv (iRow xs.length g)] h →
      s22l4 K (d + 1) t (j0 : Int) v vH ((lowP L.length (at2 L) : Nat) : Int) bv (.sl rv 1 0 xs.length) (i : Int) h
  | 0, i, g, h, hd, hnm, hg, O => by
    unfold s22l4
    rw [hbv.len]
    refine ifT_neg (by simp [natI]; omega) ?_
    rw [List.take_of_length_le (by omega)] at hg hnm
    refine iRow_rd (O.get 0 _ rv rfl rfl) hj0 ?_
    rw [tInt_int, hg j0 ((mem_subL G).2 (.refl j0))]
    exact retG_drop O.old (yes hnm)
  | d + 1, i, g, h, hd, hnm, hg, O => by
    have hlen : (subL xs j0).length ≤ j0 + 1 := by
      unfold subL
      exact Nat.le_trans (List.length_filter_le _ _) (by simp)
    have hi : i < (subL xs j0).length := by omega
    have hsorted := subL_lt (xs := xs) j0
    have hmem : (subL xs j0)[i] ∈ subL xs j0 := List.getElem_mem hi
    have hnt := not_take hsorted hi
    have hjl := subL_lt_len hj0 hmem
    have htk : ∀ k, Kid xs (subL xs j0)[i] k → k ∈ (subL xs j0).take i := fun k hk => take_of_lt hsorted hi (subL_kid G hmem hk) (hk.lt G)
    have htS : (subL xs j0).take (i + 1) = (subL xs j0).take i ++ [(subL xs j0)[i]] := List.take_succ_eq_append_getElem hi
    have hni : i < (natI (subL xs j0)).length := by simpa [natI] using hi
    have ej : (natI (subL xs j0))[i] = (((subL xs j0)[i] : Nat) : Int) := by simp [natI]
    have hbx : ∀ (h : Heap) (X : AVal → Prop), (ixS 1 bv (i : Int) fun p => ld1 h p X) = X (.int .i64 (((subL xs j0)[i] : Nat) : Int)) := fun h X => by rw [hbv.ix hni, ld1_lptr, ej]
    have hby : ∀ (X : AVal → Prop), (ixS 1 bv (i : Int) X) = X (.lptr [.int .i64 (((subL xs j0)[i] : Nat) : Int)]) := fun X => by rw [hbv.ix hni, ej]
    have hx : xs[(subL xs j0)[i]]? = some xs[(subL xs j0)[i]] := List.getElem?_eq_getElem hjl
    have IH := valueD_l4 (rv := rv) D G hl HH hs1 hL h1 A H hhs HY hj0 hbv no yes d (i + 1)
    unfold s22l4
    rw [hbv.len]
    refine ifT_pos (by simp [natI]; omega) ?_
    generalize hjj : (subL xs j0)[i] = j at *
    generalize xs[j] = x at *
    obtain ⟨rt, vN, rfl, hrt, RN⟩ := D.ext O.old
    obtain ⟨p15, hp, hl15⟩ := RN.pt hx
    rw [nilCheckA_ptr, addOff_ptr, ld1_fld hrt rfl, hby, ld1_lptr, tInt_int]
    refine hp _ ?_
    rw [hl15 h (fun _ _ e => e), nodeC, tCons_cons, tInt_int, tCons_cons, tStr_str, tCons_cons, tInt_int, tCons_cons, tInt_int, tNil_nil]
    refine newRow_in fun r4 hr4 => ⟨?_, ?_, ?_, ?_⟩
    · rw [hl15 _ (Heap.set_sub hr4)]; rfl
    · rw [ld1_lptr]
    · rw [ld1_fld (Heap.set_sub hr4 _ _ hrt) rfl]
    refine st_z (Heap.set_same _ _ _) ?_
    rw [Heap.set_set]
    have O1 := Own.skip O hr4 (.row 4 [.agg [.int .i64 x.k, .str x.s, .int .i64 x.l, .int .i64 x.r]])
    have f0 := fun X => ld1_fld (o := 0) (Heap.set_same h r4 (.row 4 [.agg [.int .i64 x.k, .str x.s, .int .i64 x.l, .int .i64 x.r]])) rfl X
    have f1 := fun X => ld1_fld (o := 1) (Heap.set_same h r4 (.row 4 [.agg [.int .i64 x.k, .str x.s, .int .i64 x.l, .int .i64 x.r]])) rfl X
    have f2 := fun X => ld1_fld (o := 2) (Heap.set_same h r4 (.row 4 [.agg [.int .i64 x.k, .str x.s, .int .i64 x.l, .int .i64 x.r]])) rfl X
    have f3 := fun X => ld1_fld (o := 3) (Heap.set_same h r4 (.row 4 [.agg [.int .i64 x.k, .str x.s, .int .i64 x.l, .int .i64 x.r]])) rfl X
    generalize h.set r4 (.row 4 [.agg [.int .i64 x.k, .str x.s, .int .i64 x.l, .int .i64 x.r]]) = h11 at *
    have go : ∀ (w : Int), NamedB hs xs j → w = ((val L.length (at2 L) hs xs j : Nat) : Int) → s22c5 K (s22l4_G (s22l4 K (d + 1))) (.ptr rt 0 0) (j0 : Int) v vH ((lowP L.length (at2 L) : Nat) : Int) bv (.sl rv 1 0 xs.length) (i : Int) (h11.set rv (iRow xs.length (upd g j w))) := fun w hnb hw => by
      unfold s22c5
      refine rg_of (by omega) (by omega) (s22l4_go (IH _ _ (by omega) (fun c hc => ?_) (fun c hc => ?_) (O1.put (i := 0) rfl _)))
      · rw [htS] at hc
        rcases List.mem_append.1 hc with e | e
        · exact hnm c e
        · rw [List.mem_singleton.1 e]; exact hnb
      · rw [htS] at hc
        rcases List.mem_append.1 hc with e | e
        · have : c ≠ j := fun e2 => hnt (e2 ▸ e)
          unfold upd
          rw [if_neg this]
          exact hg c e
        · rw [List.mem_singleton.1 e]
          unfold upd
          rw [if_pos rfl]
          exact hw
    have nb2 : x.k ≠ 1 → NamedB hs xs j := fun hk y hy hk2 => by rw [hx] at hy; cases hy; exact absurd hk2 hk
    rw [f0, tInt_int]
    by_cases k1 : x.k = 1
    · refine ifT_pos (by simpa using k1) ?_
      rw [hby, ld1_lptr, tInt_int, f1, tStr_str]
      refine callG_of (namedD_ok H hhs _ ?_)
      rw [tInt_int]
      refine ⟨by rw [ld1_lptr], iRow_wr (O1.get 0 _ rv rfl rfl) hjl _ ?_⟩
      rw [hbx, tInt_int]
      refine iRow_rd (Heap.set_same _ _ _) hjl ?_
      rw [tInt_int]
      unfold upd
      rw [if_pos rfl]
      cases e : byN hs x.s with
      | none =>
        refine ifT_pos rfl (retG_drop (O1.put (i := 0) rfl _).old (no fun hall => ?_))
        have := byN_isSome.2 (hall j hmem x hx k1)
        rw [e] at this
        cases this
      | some c =>
        obtain ⟨y, hy, e2⟩ := byN_in e
        have := HY.el y hy
        simp only [inE, Bool.and_eq_true, decide_eq_true_eq] at this
        refine ifT_neg (by simp; omega) (go _ (fun y hy _ => ?_) ?_)
        · rw [hx] at hy; cases hy
          exact byN_isSome.1 (by rw [e]; rfl)
        · rw [val_1 hx k1]
          unfold byF
          rw [e]
          simp only [Option.getD_some]
          omega
    · refine ifT_neg (by simpa using k1) ?_
      by_cases k2 : x.k = 2
      · refine ifT_pos (by simpa using k2) ?_
        rw [hbx, tInt_int]
        refine iRow_wr (O1.get 0 _ rv rfl rfl) hjl _ (go _ (nb2 k1) ?_)
        rw [val_2 hx k2]
      · refine ifT_neg (by simpa using k2) ?_
        have gg := G j x hx
        obtain ⟨e, ⟨l1, l2⟩, r1, r2⟩ := (gg.resolve_left k1).resolve_left k2
        obtain ⟨ca, ha⟩ := Int.eq_ofNat_of_zero_le l1
        obtain ⟨cb, hb'⟩ := Int.eq_ofNat_of_zero_le r1
        have hva : val L.length (at2 L) hs xs ca < L.length := val_lt h1 HY.el ca
        have hvb : val L.length (at2 L) hs xs cb < L.length := val_lt h1 HY.el cb
        have ga := hg ca (htk ca ⟨x, hx, by omega, .inl ha⟩)
        have gb := hg cb (htk cb ⟨x, hx, by omega, .inr hb'⟩)
        have hv := val_k (n := L.length) (r := at2 L) (hs := hs) G hx (by omega)
        rw [ha, hb', Int.toNat_natCast, Int.toNat_natCast] at hv
        by_cases k3 : x.k = 3
        · refine ifT_pos (by simpa using k3) ?_
          obtain ⟨em, m1, m2⟩ := tab_rd (c := mt L.length (at2 L)) HH.m hva
          rw [hbx, tInt_int, HH.ldM, f2, tInt_int]
          refine iRow_rdI (O1.get 0 _ rv rfl rfl) (w := ca) (by omega) ha ?_
          rw [ga, tInt_int, m1, f3, tInt_int]
          refine iRow_rdI (O1.get 0 _ rv rfl rfl) (w := cb) (by omega) hb' ?_
          rw [gb, tInt_int, m2 _ hvb, tInt_int]
          refine iRow_wr (O1.get 0 _ rv rfl rfl) hjl _ (go _ (nb2 k1) ?_)
          rw [hv, if_pos k3]
        · refine ifT_neg (by simpa using k3) ?_
          by_cases k4 : x.k = 4
          · refine ifT_pos (by simpa using k4) ?_
            obtain ⟨em, m1, m2⟩ := tab_rd (c := jn L.length (at2 L)) HH.j hva
            rw [hbx, tInt_int, HH.ldJ, f2, tInt_int]
            refine iRow_rdI (O1.get 0 _ rv rfl rfl) (w := ca) (by omega) ha ?_
            rw [ga, tInt_int, m1, f3, tInt_int]
            refine iRow_rdI (O1.get 0 _ rv rfl rfl) (w := cb) (by omega) hb' ?_
            rw [gb, tInt_int, m2 _ hvb, tInt_int]
            refine iRow_wr (O1.get 0 _ rv rfl rfl) hjl _ (go _ (nb2 k1) ?_)
            rw [hv, if_neg k3, if_pos k4]
          · refine ifT_neg (by simpa using k4) ?_
            rw [hby, ld1_lptr, tInt_int, f2, tInt_int]
            refine iRow_rdI (O1.get 0 _ rv rfl rfl) (w := ca) (by omega) ha ?_
            rw [ga, tInt_int, f3, tInt_int]
            refine iRow_rdI (O1.get 0 _ rv rfl rfl) (w := cb) (by omega) hb' ?_
            rw [gb, tInt_int]
            refine callG_of (impD_ok HH hs1 hL h1 A hva hvb ?_)
            rw [tInt_int]
            refine ⟨by rw [ld1_lptr], iRow_wr (O1.get 0 _ rv rfl rfl) hjl _ (go _ (nb2 k1) ?_)⟩
            rw [hv, if_neg k3, if_neg k4]
theorem valueD_l3 {L1 : s22l1_T} (H : Hyps v hs) (hhs : hs.length ≤ 1048576) {id : Int} {i : Nat} (hi : i < hs.length) (no : hs[i].s ∈ nmS (hs.take i) → K (.tuple [.int .i64 0, .int .i64 2]) h) (yes : hs[i].s ∉ nmS (hs.take i) → L1 t id v vH ((i : Int) + 1) h) :
    ∀ (d k : Nat), k + d = i → (∀ k' (hk : k' < hs.length), k' < k → hs[k'].s ≠ hs[i].s) → s22l3 K L1 (d + 1) t id v vH (i : Int) (k : Int) h
  | 0, k, hd, hb => by
    unfold s22l3
    refine ifT_neg (by simp; omega) (rg_of (by omega) (by omega) (yes fun hm => ?_))
    unfold nmS at hm
    obtain ⟨x, hx, e2⟩ := List.mem_map.1 hm
    obtain ⟨k', hk, rfl⟩ := List.mem_take_iff_getElem.1 hx
    exact hb k' (by omega) (by omega) e2
  | d + 1, k, hd, hb => by
    have hk : k < hs.length := by omega
    unfold s22l3
    refine ifT_pos (by simp; omega) ?_
    rw [H.nm hk, tStr_str, H.nm hi, tStr_str, strEq_dec]
    by_cases e : hs[k].s = hs[i].s
    · refine ifT_pos (by simpa using e) (retG_of (no ?_))
      rw [← e]
      exact List.mem_map.2 ⟨_, List.mem_take_iff_getElem.2 ⟨k, by omega, rfl⟩, rfl⟩
    · exact ifT_neg (by simpa using e) (rg_of (by omega) (by omega) (s22l3_go (valueD_l3 H hhs hi no yes d (k + 1) (by omega) (fun k' hk1 hk2 => by
        by_cases e2 : k' = k
        · subst e2; exact e
        · exact hb k' hk1 (by omega)))))
theorem valueD_l1 (D : DRd h t xs) (G : GoodT xs) (hl : xs.length ≤ 1024) (HH : HP vH L a vM vJ) (hs1 : Sq L) (hL : L.length ≤ 64) (h1 : 1 ≤ L.length) (A : Lat L.length (at2 L)) (H : Hyps v hs) (hhs : hs.length ≤ 1048576) (hj0 : j0 < xs.length)
    (no : ¬ (HyOK L.length hs ∧ ∀ c ∈ subL xs j0, NamedB hs xs c) → K (.tuple [.int .i64 0, .int .i64 2]) h) (yes : (HyOK L.length hs ∧ ∀ c ∈ subL xs j0, NamedB hs xs c) → K (.tuple [.int .i64 ((val L.length (at2 L) hs xs j0 : Nat) : Int), .int .i64 0]) h) :
    ∀ (d i : Nat), i + d = hs.length → HyOK L.length (hs.take i) → s22l1 K (d + 1) t (j0 : Int) v vH (i : Int) h
  | 0, i, hd, HY => by
    unfold s22l1
    rw [H.len]
    refine ifT_neg (by simp; omega) ?_
    rw [List.take_of_length_le (by omega)] at HY
    refine callG_of (boundsD_ok HH hs1 hL h1 A ?_)
    rw [tTup_tuple, tCons_cons, tInt_int, tCons_cons, tInt_int, tNil_nil]
    refine callG_of (belowT_ok D G hl hj0 fun bv hbv => ?_)
    rw [tTup_tuple, tCons_cons, tCons_cons, tInt_int, tNil_nil]
    obtain ⟨vN, RN, hld⟩ := D.ld
    rw [hld, RN.len]
    refine mkS_own (n := xs.length) (by omega) (by omega) fun rv hrv => ?_
    rw [iRow_zero]
    exact s22l4_in ((subL xs j0).length + 1) (valueD_l4 D G hl HH hs1 hL h1 A H hhs HY hj0 hbv (fun hno => no fun h => hno h.2) (fun hy => yes ⟨HY, hy⟩) (subL xs j0).length 0 _ _ (by omega) (fun c hc => by simp at hc) (fun c hc => by simp at hc) ((Own.start h).newC hrv _))
  | d + 1, i, hd, HY => by
    have hi : i < hs.length := by omega
    have htS : hs.take (i + 1) = hs.take i ++ [hs[i]] := List.take_succ_eq_append_getElem hi
    have hall : HyOK L.length hs → HyOK L.length (hs.take i ++ [hs[i]]) := fun W => by
      rw [← htS]
      rw [← List.take_append_drop (i + 1) hs] at W
      exact W.mono
    unfold s22l1
    rw [H.len]
    refine ifT_pos (by simp; omega) ?_
    rw [H.fm hi, tInt_int]
    have bad : ¬ HyOK L.length (hs.take i ++ [hs[i]]) → s22c2 K (s22l1_G (s22l1 K (d + 1))) t (j0 : Int) v vH (i : Int) true h := fun hb => by
      unfold s22c2
      exact ifT_pos rfl (retG_of (no fun hw => hb (hall hw.1)))
    by_cases e1 : hs[i].f < 0
    · refine ifT_pos (by simpa using e1) (bad fun W => ?_)
      have := (HyOK.snoc.1 W).2.1
      simp only [inE, Bool.and_eq_true, decide_eq_true_eq] at this
      omega
    · refine ifT_neg (by simpa using e1) ?_
      rw [H.fm hi, tInt_int, HH.ldA, HH.a.len]
      by_cases e2 : (L.length : Int) ≤ hs[i].f
      · rw [decide_eq_true e2]
        refine bad fun W => ?_
        have := (HyOK.snoc.1 W).2.1
        simp only [inE, Bool.and_eq_true, decide_eq_true_eq] at this
        omega
      · rw [decide_eq_false e2]
        unfold s22c2
        refine ifT_neg rfl (s22l3_in (i + 1) (valueD_l3 H hhs hi (fun hm => no fun hw => (HyOK.snoc.1 (hall hw.1)).2.2 hm) (fun hm => ?_) i 0 (by omega) (fun k' hk1 hk2 => by omega)))
        refine s22l1_go (valueD_l1 D G hl HH hs1 hL h1 A H hhs hj0 no yes d (i + 1) (by omega) ?_)
        rw [htS]
        exact HyOK.snoc.2 ⟨HY, by unfold inE; simp; omega, hm⟩
theorem valueD_ok (hv : AlgV a L) (D : DRd h t xs) (G : GoodT xs) (hl : xs.length ≤ 1024) (H : Hyps v hs) (hhs : hs.length ≤ 1048576) (id : Int) (hk : K (valV L hs xs id) h) : ACalls prog 22 [.agg [a], t, .int .i64 id, v] h K := by
  refine s22_ok ?_
  unfold s22
  refine callG_of (ofD_ok hv.v (fun e => ?_) fun e vH vM vJ HH => ?_)
  · rw [tTup_tuple, tCons_cons, tCons_cons, tBool_bool, tNil_nil]
    rw [valV_alg e] at hk
    exact ifT_pos rfl (retG_of hk)
  · obtain ⟨hs1, h1, hL⟩ := algP_sq e
    rw [tTup_tuple, tCons_cons, tCons_cons, tBool_bool, tNil_nil]
    refine ifT_neg rfl (callG_of (hasT_ok D _ ?_))
    rw [tBool_bool]
    cases e2 : hasN xs.length id with
    | false =>
      rw [valV_has e e2] at hk
      exact ifT_pos rfl (retG_of hk)
    | true =>
      obtain ⟨j0, x, rfl, hx⟩ := hasN_get e2
      have hj0 := (List.getElem?_eq_some_iff.1 hx).1
      refine ifT_neg rfl (s22l1_in (hs.length + 1) (valueD_l1 D G hl HH hs1 hL h1 (lat_of e) H hhs hj0 (fun hno => ?_) (fun hy => ?_) hs.length 0 (by omega) ⟨fun x hx => by simp at hx, by simp [nmS]⟩))
      · rw [valV_no e e2 (by rwa [Int.toNat_natCast])] at hk
        exact hk
      · rw [valV_yes e e2 (by rwa [Int.toNat_natCast]), Int.toNat_natCast] at hk
        exact hk
end
end Go.Proofs.YtljglglbfcgjpaaGreat

namespace Go.Proofs.YtljglglbfcgjpaaGreat
open Go Go.Sym Go.Proofs.Tryz

variable {K : AVal → Heap → Prop} {h h0 hb : Heap}

theorem eqHy (x y : Hy) : eqT prog 8 73 (hyV x) (hyV y) = some (strEq x.s y.s && ((x.f == y.f) && true)) := by kernel_rfl
theorem eqHyG : prog.eqGuardType prog.depth 73 = false := by kernel_rfl
theorem eqHyX {x : Hy} {X : Bool → Prop} (hk : X true) : eqQ prog 73 (hyV x) (hyV x) X := by
  refine ⟨eqHyG, ?_⟩
  rw [eqHy, strEq_dec]
  simpa using hk
theorem hyps_l1 {a b : AVal} {hs : List Hy} (A : Hyps a hs) (B : Hyps b hs) (hl : hs.length ≤ 1048576) (hk : K (.bool true) h) : ∀ d i : Nat, i + d = hs.length → s12l1 K (d + 1) a b (i : Int) h
  | 0, i, hd => by
    unfold s12l1
    rw [A.len]
    exact ifT_neg (by simp; omega) (retG_of hk)
  | d + 1, i, hd => by
    have hi : i < hs.length := by omega
    unfold s12l1
    rw [A.len]
    refine ifT_pos (by simp; omega) ?_
    rw [A.ix hi, hyC, ldN2_lptr, tCons_cons, tStr_str, tCons_cons, tInt_int, tNil_nil, B.ix hi, hyC, ldN2_lptr, tCons_cons, tStr_str, tCons_cons, tInt_int, tNil_nil]
    refine eqHyX (x := hs[i]) (ifT_neg rfl (rg_of (by omega) (by omega) (s12l1_go (hyps_l1 A B hl hk d (i + 1) (by omega)))))
theorem hyps_ok {a b : AVal} {hs : List Hy} (A : Hyps a hs) (B : Hyps b hs) (hl : hs.length ≤ 1048576) (hk : K (.bool true) h) : ACalls prog 12 [a, b] h K := by
  refine s12_ok ?_
  unfold s12
  rw [A.len, B.len]
  exact ifT_neg (by simp) (s12l1_in (hs.length + 1) (hyps_l1 A B hl hk hs.length 0 (by omega)))

theorem valuesL_ok (HH : Heads23) {a v b : AVal} {L : List (List Bool)} {xs : List Nd} {hs : List Hy} (A : AlgV a L) (hv : Nodes v xs) (hxs : xs.length ≤ 1048576) (hsz : ∀ x ∈ xs, x.s.size ≤ 1073741824) (id : Int) (H : Hyps b hs) (hhs : hs.length ≤ 1048576) (hk : ∀ h', K (.bool true) h') :
    ACalls prog 4 [.agg [a], v, .int .i64 id, b] h K := by
  refine s4_ok ?_
  unfold s4
  refine callG_of (both_ok hv hxs hsz (fun nok => ?_) fun ok hl rt rd h1 W => ?_)
  · rw [tTup_tuple, tCons_cons, tCons_cons, tCons_cons, tBool_bool, tNil_nil]
    exact ifT_pos rfl (headsRet HH hk)
  · rw [tTup_tuple, tCons_cons, tCons_cons, tCons_cons, tBool_bool, tNil_nil]
    refine ifT_neg rfl ?_
    obtain ⟨P, D⟩ := TT.reads W
    have G := okTab_good ok
    refine newRow_in fun r hr => appC_copy hr (elemsA_of H) (by simp; omega) (by simp; omega) fun v' h' g => ?_
    obtain ⟨S, w, hl', hsl, gs⟩ := g.freeze
    refine ⟨S, w, h1, hl', gs, callG_of (valueP_ok A P G hl hsl hhs id ?_)⟩
    unfold valV
    rw [tTup_tuple, tCons_cons, tInt_int, tCons_cons, tInt_int, tNil_nil]
    refine callG_of (valueD_ok A D G hl H hhs id ?_)
    unfold valV
    rw [tTup_tuple, tCons_cons, tInt_int, tCons_cons, tInt_int, tNil_nil]
    refine callG_of (valueNil_ok A id fun z => ?_)
    rw [tTup_tuple, tCons_cons, tInt_int, tCons_cons, tInt_int, tNil_nil]
    refine callG_of (checkD_ok A.v ?_)
    rw [tInt_int]
    refine ifT_pos (by simp) (ifT_pos (by simp) (callG_of (hyps_ok hsl H hhs ?_)))
    rw [tBool_bool]
    refine ifT_pos rfl ?_
    unfold lookE
    cases e : algP L with
    | true => exact ifT_neg rfl (ifT_pos rfl (ifT_pos rfl (headsRet HH hk)))
    | false => exact ifT_pos rfl (ifT_pos rfl (headsRet HH hk))
end Go.Proofs.YtljglglbfcgjpaaGreat

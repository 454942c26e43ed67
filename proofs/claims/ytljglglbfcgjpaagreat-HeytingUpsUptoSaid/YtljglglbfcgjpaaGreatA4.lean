/- Contracts: the document's Atoms: names in order, each with its up-set's number. No condition. Contracts: the document's Atoms, whole. No condition. Contracts: the document's algebra: order, best, Of, Check, Imp, Bounds, Two, Boolean. No condition. Contracts: the document's algebra: Of, Check, Imp, Bounds, Two, Boolean, Copy, Same. No condition. Contracts: what is next above each world (the document's tidying). No condition. Contract: the document's Primes. No condition. Contracts: the same models. No condition. Contracts: the same names with the same numbers. No condition. HeytingUps over its inputs: up-sets, atoms, primes, chains as the document has them. No condition. -/
import Derived.Test.YtljglglbfcgjpaaGreatA3
import Derived.Test.YtljglglbfcgjpaaGreatA1
import Derived.Test.YtljglglbfcgjpaaGreatA2
import Derived.KernelRfl
import Derived.Test.YtljglglbfcgjpaaGreatM5

set_option linter.unusedVariables false
set_option linter.unusedSimpArgs false

namespace Go.Proofs.YtljglglbfcgjpaaGreat
open Go Go.Sym Go.Proofs.Tryz
variable {K : AVal → Heap → Prop} {h h0 hb : Heap} {up : List (List Int)} {val : List (List ByteArray)} {mU mV : AVal}
/- ---- plain: a name into a rising row, once ---- -/
def putU (s : ByteArray) : List ByteArray → List ByteArray
  | [] => [s]
  | x :: l => if strLt s x then s :: x :: l else if decide (s = x) then x :: l else x :: putU s l
theorem mem_putU {s y : ByteArray} : ∀ {l : List ByteArray}, y ∈ putU s l ↔ y = s ∨ y ∈ l
  | [] => by simp [putU]
  | x :: l => by
    unfold putU
    split
    · simp
    · split
      · rename_i e
        have e := of_decide_eq_true e
        subst e
        simp
      · rw [List.mem_cons, mem_putU, List.mem_cons]
        constructor
        · rintro (h | h | h)
          · exact .inr (.inl h)
          · exact .inl h
          · exact .inr (.inr h)
        · rintro (h | h | h)
          · exact .inr (.inl h)
          · exact .inl h
          · exact .inr (.inr h)
theorem strLt_tot {a b : ByteArray} (h1 : strLt a b = false) (h2 : a ≠ b) : strLt b a = true := by
  rw [strLt_lt] at *
  have h1 := of_decide_eq_false h1
  refine decide_eq_true ?_
  rcases List.le_iff_lt_or_eq.1 (List.not_lt.1 h1) with h | h
  · exact h
  · exfalso
    apply h2
    cases a; cases b
    simp only [ByteArray.toList_eq] at h
    congr 1
    exact (Array.toList_inj.1 h).symm
theorem putU_rise {s : ByteArray} : ∀ {l : List ByteArray}, (l.Pairwise fun a b => strLt a b = true) → (putU s l).Pairwise fun a b => strLt a b = true
  | [], _ => by simp [putU]
  | x :: l, h => by
    rw [List.pairwise_cons] at h
    unfold putU
    split
    · rename_i e
      rw [List.pairwise_cons, List.pairwise_cons]
      refine ⟨fun y hy => ?_, h⟩
      rcases List.mem_cons.1 hy with rfl | hy
      · exact e
      · exact strLt_tr e (h.1 y hy)
    · rename_i e
      split
      · rw [List.pairwise_cons]; exact h
      · rename_i e2
        rw [List.pairwise_cons]
        refine ⟨fun y hy => ?_, putU_rise h.2⟩
        rcases mem_putU.1 hy with rfl | hy
        · exact strLt_tot (by simpa using e) (by simpa using e2)
        · exact h.1 y hy
theorem putU_le {s : ByteArray} : ∀ {l : List ByteArray}, (putU s l).length ≤ l.length + 1
  | [] => by simp [putU]
  | x :: l => by
    unfold putU
    split
    · simp
    · split
      · simp
      · have := putU_le (s := s) (l := l)
        simp; omega
theorem rise_unique {a b : List ByteArray} (h1 : a.Pairwise fun x y => strLt x y = true) (h2 : b.Pairwise fun x y => strLt x y = true) (hm : ∀ s, s ∈ a ↔ s ∈ b) : a = b := by
  have nd : ∀ {l : List ByteArray}, (l.Pairwise fun x y => strLt x y = true) → l.Nodup := fun h => h.imp fun {x y} e e2 => by subst e2; rw [strLt_irr] at e; cases e
  refine List.Perm.eq_of_pairwise (le := fun x y => strLt x y = true) (fun x y _ _ e1 e2 => ?_) h1 h2 ((List.perm_ext_iff_of_nodup (nd h1) (nd h2)).2 hm)
  have := strLt_tr e1 e2
  rw [strLt_irr] at this
  cases this
theorem sortS_rise {l : List ByteArray} (hn : l.Nodup) : (sortS l).Pairwise fun x y => strLt x y = true := by
  have hp := sortS_perm l
  have h1 := List.pairwise_mergeSort (le := fun x y : List UInt8 => decide (x ≤ y)) (fun a b c h1 h2 => by
    simp only [decide_eq_true_eq] at *
    exact List.le_trans h1 h2) (fun a b => by
    simp only [Bool.or_eq_true, decide_eq_true_eq]
    exact List.le_total a b) (l.map bsL)
  have h2 : (sortS l).Pairwise fun x y => x.toList ≤ y.toList := by
    unfold sortS
    rw [List.pairwise_map]
    refine h1.imp fun {a b} e => ?_
    have e := of_decide_eq_true e
    simpa [ByteArray.toList_eq] using e
  have hnd : (sortS l).Nodup := hp.nodup_iff.2 hn
  refine (h2.and hnd).imp fun {a b} ⟨e1, e2⟩ => ?_
  rw [strLt_lt]
  refine decide_eq_true ?_
  rcases List.le_iff_lt_or_eq.1 e1 with h | h
  · exact h
  · exfalso
    apply e2
    cases a; cases b
    simp only [ByteArray.toList_eq] at h
    congr 1
    exact Array.toList_inj.1 h
/- ---- put ---- -/
theorem put_l1 {v : AVal} {l : List ByteArray} {s : ByteArray} (hv : Strs v l) (hl : l.length ≤ 549755813888) (hk : ∀ w, Strs w (putU s l) → K w h0) :
    ∀ d i : Nat, i + d = l.length → ∀ (in_ : Bool) (out : AVal) (P : List ByteArray) (h : Heap), P.length ≤ i + in_.toNat → P ++ (if in_ then l.drop i else putU s (l.drop i)) = putU s l → Own h0 [.slc 1 out (P.map .str)] h →
      s33l1 K (d + 1) v s out in_ (i : Int) h
  | 0, i, hd, in_, out, P, h, hP, he, O => by
    have hb : in_.toNat ≤ 1 := by cases in_ <;> decide
    rw [List.drop_eq_nil_of_le (by omega)] at he
    unfold s33l1
    rw [hv.len]
    refine ifT_neg (by simp; omega) ?_
    have fin : ∀ (w : AVal) (h1 : Heap), Own h0 [.slc 1 w ((putU s l).map .str)] h1 → s33c5 K w h1 := fun w h1 O1 => by
      unfold s33c5
      obtain ⟨w', lw, sw⟩ := O1.lit (i := 0) rfl (S := nameOf w) (fun _ h => h) (Lits.refl _)
      exact ⟨nameOf w, w', h0, lw, base_step O1 _ (fun q hq => O1.new 0 _ q rfl hq), hk w' sw⟩
    cases in_ with
    | true =>
      refine ifT_neg rfl (fin out h ?_)
      simp only [if_true, List.append_nil] at he
      rw [← he]; exact O
    | false =>
      refine ifT_pos rfl (O.app (i := 0) rfl (by rw [List.length_map]; omega) (by rw [List.length_map]; omega) fun v2 h2 O2 => fin v2 h2 ?_)
      simp only [Bool.false_eq_true, if_false, putU] at he
      rw [← he, List.map_append]
      exact O2
  | d + 1, i, hd, in_, out, P, h, hP, he, O => by
    have hi : i < l.length := by omega
    have hdr : l.drop i = l[i] :: l.drop (i + 1) := List.drop_eq_getElem_cons hi
    unfold s33l1
    rw [hv.len]
    refine ifT_pos (by simp; omega) ?_
    -- the element goes in
    have copy : ∀ (in' : Bool) (out' : AVal) (P' : List ByteArray) (h' : Heap), P'.length ≤ i + in'.toNat → P' ++ l[i] :: (if in' then l.drop (i + 1) else putU s (l.drop (i + 1))) = putU s l → Own h0 [.slc 1 out' (P'.map .str)] h' →
        s33c2 K (s33l1_G (s33l1 K (d + 1))) v s out' in' (i : Int) h' := fun in' out' P' h' hP' he' O' => by
      have hb : in'.toNat ≤ 1 := by cases in' <;> decide
      unfold s33c2
      rw [hv.ix hi, ld1_lptr, tStr_str]
      refine O'.app (i := 0) rfl (by rw [List.length_map]; omega) (by rw [List.length_map]; omega) fun v2 h2 O2 => rg_of (by omega) (by omega) (s33l1_go (put_l1 hv hl hk d (i + 1) (by omega) in' v2 (P' ++ [l[i]]) h2 (by simp; omega) (by rw [List.append_assoc]; exact he') ?_))
      rw [List.map_append]
      exact O2
    cases in_ with
    | true =>
      refine ifT_neg rfl ?_
      unfold s33c3
      refine ifT_neg rfl (copy true out P h hP ?_ O)
      simp only [if_true] at he ⊢
      rw [← hdr]; exact he
    | false =>
      have hP0 : P.length ≤ i := hP
      refine ifT_pos rfl ?_
      rw [hv.ix hi, ld1_lptr, tStr_str, strEq_dec]
      unfold s33c3
      simp only [Bool.false_eq_true, if_false, hdr, putU] at he
      by_cases h1 : strLt s l[i] = true
      · rw [if_pos h1] at he
        refine ifT_pos (by rw [h1]; rfl) ?_
        rw [hv.ix hi, ld1_lptr, tStr_str]
        refine ifT_pos h1 (O.app (i := 0) rfl (by rw [List.length_map]; omega) (by rw [List.length_map]; omega) fun v2 h2 O2 => ?_)
        unfold s33c4 s33c2
        rw [hv.ix hi, ld1_lptr, tStr_str]
        refine O2.app (i := 0) rfl (by simp; omega) (by simp; omega) fun v3 h3 O3 => rg_of (by omega) (by omega) (s33l1_go (put_l1 hv hl hk d (i + 1) (by omega) true v3 (P ++ [s] ++ [l[i]]) h3 ?_ ?_ ?_))
        · simp only [Bool.toNat_false] at hP
          simp
          omega
        · rw [List.append_assoc, List.append_assoc]
          exact he
        · rw [List.map_append, List.map_append]
          exact O3
      · have h1f : strLt s l[i] = false := by simpa using h1
        rw [if_neg h1] at he
        by_cases h2 : s = l[i]
        · rw [if_pos (decide_eq_true h2)] at he
          refine ifT_pos (by rw [h1f, decide_eq_true h2]; rfl) ?_
          rw [hv.ix hi, ld1_lptr, tStr_str]
          refine ifT_neg h1f ?_
          unfold s33c4
          exact copy true out P h (by simp; omega) (by simpa using he) O
        · rw [if_neg (by simpa using h2)] at he
          refine ifT_neg (by rw [h1f, decide_eq_false h2]; rfl) ?_
          exact copy false out P h hP (by simpa using he) O
theorem put_ok {v : AVal} {l : List ByteArray} {s : ByteArray} (hv : Strs v l) (hl : l.length ≤ 549755813888) (hk : ∀ w, Strs w (putU s l) → K w h) : ACalls prog 33 [v, .str s] h K := by
  refine s33_ok ?_
  unfold s33
  exact s33l1_in (l.length + 1) (put_l1 hv hl hk l.length 0 (by omega) false .nilsl [] h (by simp) (by simp) ((Own.start h).newN 1))
end Go.Proofs.YtljglglbfcgjpaaGreat

namespace Go.Proofs.YtljglglbfcgjpaaGreat
open Go Go.Sym Go.Proofs.Tryz
variable {K : AVal → Heap → Prop} {h h0 hb : Heap} {up : List (List Int)} {val : List (List ByteArray)} {mU mV : AVal}
theorem asked17U_ok (S : Small up val) (hU : Intss mU up) (hV : Strss mV val) (W : WF up val) {w : Nat} (hw : w < up.length) (good : ∀ o, OTab o up → K (.tuple [o, .int .i64 0]) h) : ACalls prog 68 [.agg [mU, mV], .int .i64 (w : Int)] h K := by
  refine s68_ok ?_
  unfold s68
  refine callG_of (right_ok S hU hV (fun hW => absurd W hW) fun W o hO => ?_)
  simp only [tTup_tuple, tCons_cons, tBool_bool, tNil_nil]
  refine ifT_neg rfl (ifT_neg (decide_eq_false (by omega)) ?_)
  rw [hO.len]
  exact ifT_neg (decide_eq_false (by omega)) (retG_of (good o hO))
theorem true17_ok (S : Small up val) (hU : Intss mU up) (hV : Strss mV val) (W : WF up val) {w : Nat} (hw : w < up.length) {s : ByteArray} (hk : K (.tuple [.bool (inS (val.getD w []) s), .int .i64 0]) h) : ACalls prog 34 [.agg [mU, mV], .int .i64 (w : Int), .str s] h K := by
  refine s34_ok ?_
  unfold s34
  refine callG_of (asked17U_ok S hU hV W hw fun o _ => ?_)
  rw [tTup_tuple, tCons_cons, tCons_cons, tInt_int, tNil_nil]
  have hwv : w < val.length := by rw [W.len]; exact hw
  obtain ⟨e, he, hix⟩ := hV.ix hwv
  refine ifT_neg rfl ?_
  rw [hix, ld1_lptr]
  refine callG_of (has17_ok he (by have := (S.names _ (List.getElem_mem hwv)).2; omega) ?_)
  rw [tBool_bool]
  refine retG_of ?_
  rwa [getD_val hwv] at hk
def hyU (val : List (List ByteArray)) (n : Nat) (V : List (List Bool)) (s : ByteArray) : Hy := ⟨s, ((V.idxOf (atomS val n s) : Nat) : Int)⟩
structure NmI (val : List (List ByteArray)) (w k : Nat) (N : List ByteArray) : Prop where
  rise : N.Pairwise fun a b => strLt a b = true
  mem : ∀ s, s ∈ N ↔ ∃ u, Occ val w k u s
  cnt : N.length ≤ cB w k
theorem NmI.start : NmI val 0 0 [] where
  rise := .nil
  mem s := by
    refine ⟨(fun h => by cases h), fun ⟨u, hu⟩ => ?_⟩
    rcases hu with ⟨h, _⟩ | ⟨_, h⟩
    · omega
    · simp at h
  cnt := by simp
theorem NmI.next {w k : Nat} {N : List ByteArray} (I : NmI val w k N) (hk : k < (val.getD w []).length) : NmI val w (k + 1) (putU (val.getD w [])[k] N) where
  rise := putU_rise I.rise
  mem s := by
    rw [mem_putU, I.mem]
    have htk : (val.getD w []).take (k + 1) = (val.getD w []).take k ++ [(val.getD w [])[k]] := List.take_succ_eq_append_getElem hk
    unfold Occ
    constructor
    · rintro (h | ⟨u, h | ⟨rfl, h⟩⟩)
      · exact ⟨w, .inr ⟨rfl, by rw [htk, h]; exact List.mem_append_right _ (List.mem_singleton_self _)⟩⟩
      · exact ⟨u, .inl h⟩
      · exact ⟨u, .inr ⟨rfl, by rw [htk]; exact List.mem_append_left _ h⟩⟩
    · rintro ⟨u, h | ⟨rfl, h⟩⟩
      · exact .inr ⟨u, .inl h⟩
      · rw [htk, List.mem_append, List.mem_singleton] at h
        rcases h with h | h
        · exact .inr ⟨u, .inr ⟨rfl, h⟩⟩
        · exact .inl h
  cnt := by
    have := putU_le (s := (val.getD w [])[k]) (l := N)
    have := I.cnt
    rw [← cB_next]
    omega
theorem NmI.row {w : Nat} {N : List ByteArray} (I : NmI val w (val.getD w []).length N) (hle : (val.getD w []).length ≤ 1048576) : NmI val (w + 1) 0 N where
  rise := I.rise
  mem s := by
    rw [I.mem]
    unfold Occ
    constructor
    · rintro ⟨u, h | ⟨rfl, h⟩⟩
      · exact ⟨u, .inl ⟨by omega, h.2⟩⟩
      · exact ⟨u, .inl ⟨by omega, by simpa using h⟩⟩
    · rintro ⟨u, h | ⟨_, h⟩⟩
      · by_cases e : u = w
        · subst e; exact ⟨u, .inr ⟨rfl, by simpa using h.2⟩⟩
        · exact ⟨u, .inl ⟨by omega, h.2⟩⟩
      · simp at h
  cnt := Nat.le_trans I.cnt (cB_row hle)
section
variable {V : List (List Bool)} {sets : AVal} (S : Small up val) (hU : Intss mU up) (hV : Strss mV val) (W : WF up val) (hUp : IsUps up V) (hl : V.length ≤ 64) (hsets : Intss sets (V.map fun l => natI (idxL l)))
include S hU hV W hUp hl hsets
omit S hU hV in
theorem atomsD_l6 {N : List ByteArray} {nm on : AVal} {i : Nat} (hN : Strs nm N) (hi : i < N.length) (hon : Ints on (natI (idxL (atomS val up.length N[i])))) (hNl : N.length ≤ 549755813888) {acc : List Hy} (hacc : acc.length ≤ 549755813888) {L3 : s11l3_T}
    (next : ∀ out' h', Own h0 [.slc 2 out' ((acc ++ [hyU val up.length V N[i]]).map hyV)] h' → L3 (.lptr [mU, mV]) sets nm out' ((i : Int) + 1) h') :
    ∀ (d k : Nat) (out : AVal) (h : Heap), k + d = V.length → Own h0 [.slc 2 out ((acc ++ if V.idxOf (atomS val up.length N[i]) < k then [hyU val up.length V N[i]] else []).map hyV)] h →
      s11l6 K (s11l3_G L3) (d + 1) (.lptr [mU, mV]) sets nm out (i : Int) on (k : Int) h
  | 0, k, out, h, hd, O => by
    have hmem : atomS val up.length N[i] ∈ V := (hUp.mem _).2 (atomS_closed W _)
    have hlt := List.idxOf_lt_length_of_mem hmem
    rw [if_pos (by omega)] at O
    unfold s11l6
    rw [hsets.len, List.length_map]
    exact ifT_neg (by simp; omega) (rg_of (by omega) (by omega) (s11l3_go (next out h O)))
  | d + 1, k, out, h, hd, O => by
    have hk : k < V.length := by omega
    have hmem : atomS val up.length N[i] ∈ V := (hUp.mem _).2 (atomS_closed W _)
    have hlt := List.idxOf_lt_length_of_mem hmem
    have hget : V[V.idxOf (atomS val up.length N[i])] = atomS val up.length N[i] := List.getElem_idxOf hlt
    have hkm : k < (V.map fun l => natI (idxL l)).length := by simpa using hk
    obtain ⟨e, he, hix⟩ := hsets.ix hkm
    unfold s11l6
    rw [hsets.len, List.length_map]
    refine ifT_pos (by simp; omega) ?_
    rw [hix, ld1_lptr]
    have hle : ∀ l : List Bool, l.length ≤ 512 → (natI (idxL l)).length ≤ 1073741824 := fun l hll => by
      have := List.length_filter_le (fun w => l.getD w false) (List.range l.length)
      simp only [List.length_range] at this
      unfold natI idxL
      rw [List.length_map]
      omega
    have hVl : V[k].length = up.length := ((hUp.mem _).1 (List.getElem_mem hk)).len
    have hmax := W.max
    refine callG_of (ints_ok he hon (by simp only [List.getElem_map]; exact hle _ (by omega)) ?_)
    rw [tBool_bool]
    have hiff : (natI (idxL V[k]) = natI (idxL (atomS val up.length N[i]))) ↔ V.idxOf (atomS val up.length N[i]) = k := by
      constructor
      · intro h
        have h1 : idxL V[k] = idxL (atomS val up.length N[i]) := by
          unfold natI at h
          exact (List.map_inj_right fun a b e => Int.ofNat_inj.1 e).1 h
        have h2 := idxL_inj (n := up.length) hVl atomS_len h1
        apply Classical.byContradiction
        intro hne
        rcases Nat.lt_or_gt_of_ne hne with h3 | h3
        · exact rise_ne hUp.rise hk hlt h3 (hget.trans h2.symm)
        · exact rise_ne hUp.rise hlt hk h3 (h2.trans hget.symm)
      · intro h
        subst h
        rw [hget]
    have step : ∀ (out' : AVal) (h' : Heap), Own h0 [.slc 2 out' ((acc ++ if V.idxOf (atomS val up.length N[i]) < k + 1 then [hyU val up.length V N[i]] else []).map hyV)] h' →
        s11c7 K (s11l3_G L3) (s11l6_G (s11l6 K (s11l3_G L3) (d + 1))) (.lptr [mU, mV]) sets nm out' (i : Int) on (k : Int) h' := fun out' h' O' => by
      unfold s11c7
      exact rg_of (by omega) (by omega) (s11l6_go (atomsD_l6 hN hi hon hNl hacc next d (k + 1) out' h' (by omega) O'))
    by_cases hek : V.idxOf (atomS val up.length N[i]) = k
    · refine ifT_pos (by simp only [List.getElem_map]; exact decide_eq_true (hiff.2 hek)) ?_
      rw [hN.ix hi, ld1_lptr, tStr_str]
      rw [if_neg (by omega), List.append_nil] at O
      refine O.app (i := 0) rfl (by rw [List.length_map]; omega) (by rw [List.length_map]; omega) fun v2 h2 O2 => step v2 h2 ?_
      rw [if_pos (by omega), List.map_append]
      have e2 : [hyU val up.length V N[i]].map hyV = [.agg [.str N[i], .int .i64 (k : Int)]] := by
        unfold hyU
        rw [hek]
        rfl
      rw [e2]
      exact O2
    · refine ifT_neg (by simp only [List.getElem_map]; exact decide_eq_false fun h => hek (hiff.1 h)) (step out h ?_)
      have e : (V.idxOf (atomS val up.length N[i]) < k + 1) ↔ V.idxOf (atomS val up.length N[i]) < k := by omega
      simp only [e]
      exact O
theorem atomsD_l4 {N : List ByteArray} {nm : AVal} {i : Nat} (hN : Strs nm N) (hi : i < N.length) (hNl : N.length ≤ 549755813888) {acc : List Hy} (hacc : acc.length ≤ 549755813888) {L3 : s11l3_T}
    (next : ∀ out' h', Own h0 [.slc 2 out' ((acc ++ [hyU val up.length V N[i]]).map hyV)] h' → L3 (.lptr [mU, mV]) sets nm out' ((i : Int) + 1) h') :
    ∀ (d w : Nat) (out on : AVal) (h : Heap), w + d = up.length → Own h0 [.slc 2 out (acc.map hyV), .slc 1 on ((natI ((List.range w).filter fun u => inS (val.getD u []) N[i])).map (.int .i64))] h →
      s11l4 K (s11l3_G L3) (d + 1) (.lptr [mU, mV]) sets nm out (i : Int) on (w : Int) h
  | 0, w, out, on, h, hd, O => by
    obtain rfl : w = up.length := by omega
    unfold s11l4
    rw [addOff_lptr]
    show ld1 h (.lptr [mV]) _
    rw [ld1_lptr, hV.len, W.len]
    refine ifT_neg (by simp) ?_
    have O' : Own h0 ([.slc 2 out (acc.map hyV)] ++ [.slc 1 on ((natI ((List.range up.length).filter fun u => inS (val.getD u []) N[i])).map (.int .i64))]) h := O
    obtain ⟨S', h', on', l1, s1, g, O2⟩ := Own.frzL O'
    have hon : Ints on' (natI (idxL (atomS val up.length N[i]))) := by
      unfold idxL
      rw [atomS_len, List.filter_congr fun u hu => atomS_get (List.mem_range.1 hu)]
      exact s1
    refine ⟨S', [.lptr [mU, mV], sets, nm, out, .int .i64 i, on', .int .i64 0], h', .cons (.refl _) (.cons (.refl _) (.cons (.refl _) (.cons (.refl _) (.cons (.refl _) (.cons l1 (Lits.refl _)))))), g, rfl, V.length + 1, ?_⟩
    exact atomsD_l6 W hUp hl hsets hN hi hon hNl hacc next V.length 0 out h' (by omega) (by rw [if_neg (by omega), List.append_nil]; exact O2)
  | d + 1, w, out, on, h, hd, O => by
    have hw : w < up.length := by omega
    have hmax := W.max
    unfold s11l4
    rw [addOff_lptr]
    show ld1 h (.lptr [mV]) _
    rw [ld1_lptr, hV.len, W.len]
    refine ifT_pos (by simp; omega) ?_
    show ldN 2 h (.lptr [mU, mV]) _
    rw [show ldN 2 h (.lptr [mU, mV]) = fun X => X [mU, mV] from rfl]
    simp only []
    rw [tCons_cons, tCons_cons, tNil_nil, hN.ix hi, ld1_lptr, tStr_str]
    refine callG_of (true17_ok S hU hV W hw ?_)
    rw [tTup_tuple, tCons_cons, tBool_bool, tCons_cons, tInt_int, tNil_nil]
    have hs := range_filter_succ (fun u => inS (val.getD u []) N[i]) w
    have hle := List.length_filter_le (fun u => inS (val.getD u []) N[i]) (List.range w)
    simp only [List.length_range] at hle
    have step : ∀ (on' : AVal) (h' : Heap), Own h0 [.slc 2 out (acc.map hyV), .slc 1 on' ((natI ((List.range (w + 1)).filter fun u => inS (val.getD u []) N[i])).map (.int .i64))] h' →
        s11c5 K (s11l3_G L3) (s11l4_G (s11l4 K (s11l3_G L3) (d + 1))) (.lptr [mU, mV]) sets nm out (i : Int) on' (w : Int) h' := fun on' h' O' => by
      unfold s11c5
      exact rg_of (by omega) (by omega) (s11l4_go (atomsD_l4 hN hi hNl hacc next d (w + 1) out on' h' (by omega) O'))
    cases e : inS (val.getD w []) N[i] with
    | true =>
      rw [e, if_pos rfl] at hs
      refine ifT_pos rfl (O.app (i := 1) rfl (by rw [List.length_map]; simp only [natI, List.length_map]; omega) (by rw [List.length_map]; simp only [natI, List.length_map]; omega) fun v2 h2 O2 => step v2 h2 ?_)
      rw [hs, show natI ((List.range w).filter (fun u => inS (val.getD u []) N[i]) ++ [w]) = natI ((List.range w).filter fun u => inS (val.getD u []) N[i]) ++ [(w : Int)] by simp [natI], List.map_append]
      exact O2
    | false =>
      rw [e, if_neg (by decide), List.append_nil] at hs
      refine ifT_neg rfl (step on h ?_)
      rw [hs]
      exact O
theorem atomsD_l3 {N : List ByteArray} {nm : AVal} (hN : Strs nm N) (hNl : N.length ≤ 549755813888) (yes : ∀ v, Hyps v (atomHs val up.length V N) → K (.tuple [v, .int .i64 0]) h0) :
    ∀ (d i : Nat) (out : AVal) (h : Heap), i + d = N.length → Own h0 [.slc 2 out ((atomHs val up.length V (N.take i)).map hyV)] h → s11l3 K (d + 1) (.lptr [mU, mV]) sets nm out (i : Int) h
  | 0, i, out, h, hd, O => by
    rw [List.take_of_length_le (by omega)] at O
    unfold s11l3
    rw [hN.len]
    refine ifT_neg (by simp; omega) ?_
    obtain ⟨v', lv, sv⟩ := O.lit (i := 0) rfl (S := nameOf out) (fun _ h => h) (Lits.refl _)
    exact ⟨nameOf out, .tuple [v', .int .i64 0], h0, .tuple (.cons lv (.cons (.refl _) .nil)), base_step O _ (fun q hq => O.new 0 _ q rfl hq), yes v' sv⟩
  | d + 1, i, out, h, hd, O => by
    have hi : i < N.length := by omega
    unfold s11l3
    rw [hN.len]
    refine ifT_pos (by simp; omega) ?_
    have hal : (atomHs val up.length V (N.take i)).length ≤ 549755813888 := by
      unfold atomHs
      rw [List.length_map, List.length_take]
      omega
    refine s11l4_in (up.length + 1) (atomsD_l4 S hU hV W hUp hl hsets hN hi hNl hal (fun out' h' O' => ?_) up.length 0 out .nilsl h (by omega) (O.newN 1))
    refine atomsD_l3 hN hNl yes d (i + 1) out' h' (by omega) ?_
    have : atomHs val up.length V (N.take (i + 1)) = atomHs val up.length V (N.take i) ++ [hyU val up.length V N[i]] := by
      unfold atomHs
      rw [List.take_succ_eq_append_getElem hi, List.map_append]
      rfl
    rw [this]
    exact O'
omit hU hUp hl hsets in
theorem atomsD_l2 {w : Nat} (hw : w < val.length) {L1 : s11l1_T} (next : ∀ nm N, Strs nm N → NmI val (w + 1) 0 N → L1 (.lptr [mU, mV]) sets nm ((w : Int) + 1) h0) :
    ∀ (d k : Nat) (nm : AVal) (N : List ByteArray), k + d = (val.getD w []).length → Strs nm N → NmI val w k N → s11l2 K (s11l1_G L1) (d + 1) (.lptr [mU, mV]) sets nm (w : Int) (k : Int) h0
  | 0, k, nm, N, hd, hN, I => by
    obtain ⟨e, he, hix⟩ := hV.ix hw
    have hgd := getD_val hw
    have hlen := (S.names _ (List.getElem_mem hw)).2
    unfold s11l2
    rw [addOff_lptr]
    show ld1 h0 (.lptr [mV]) _
    rw [ld1_lptr, hix, ld1_lptr, he.len]
    have hvl := S.vals
    refine ifT_neg (by rw [hgd] at hd; simp; omega) (rg_of (by omega) (by omega) (s11l1_go (next nm N hN ?_)))
    have hk : k = (val.getD w []).length := by omega
    subst hk
    exact I.row (by rw [hgd]; exact hlen)
  | d + 1, k, nm, N, hd, hN, I => by
    obtain ⟨e, he, hix⟩ := hV.ix hw
    have hgd := getD_val hw
    have hlen := (S.names _ (List.getElem_mem hw)).2
    have hk : k < (val.getD w []).length := by omega
    have hk2 : k < val[w].length := by rw [hgd] at hk; exact hk
    unfold s11l2
    rw [addOff_lptr]
    show ld1 h0 (.lptr [mV]) _
    rw [ld1_lptr, hix, ld1_lptr, he.len]
    have hvl := S.vals
    refine ifT_pos (by simp; omega) ?_
    rw [addOff_lptr]
    show ld1 h0 (.lptr [mV]) _
    rw [ld1_lptr, hix, ld1_lptr, he.ix hk2, ld1_lptr, tStr_str]
    have hc := I.cnt
    have hcb : cB w k ≤ 549755813888 := by
      unfold cB
      have h3 : w ≤ 511 := by have := W.max; have := W.len; omega
      have h4 := Nat.mul_le_mul_right 1048576 h3
      have h5 : k ≤ 1048576 := Nat.le_trans (Nat.le_of_lt hk2) hlen
      exact Nat.le_trans (Nat.add_le_add h4 h5) (by decide)
    refine callG_of (put_ok hN (by omega) fun nm' hN' => rg_of (by omega) (by omega) (s11l2_go (atomsD_l2 hw next d (k + 1) nm' _ (by omega) hN' ?_)))
    have := I.next hk
    have e1 : (val.getD w [])[k] = val[w][k] := by simp only [hgd]
    rwa [e1] at this
omit hU hUp hl hsets in
theorem atomsD_l1 (yes : ∀ nm N, Strs nm N → NmI val val.length 0 N → s11l3_E (s11l3 K) (.lptr [mU, mV]) sets nm .nilsl 0 h0) :
    ∀ (d w : Nat) (nm : AVal) (N : List ByteArray), w + d = val.length → Strs nm N → NmI val w 0 N → s11l1 K (d + 1) (.lptr [mU, mV]) sets nm (w : Int) h0
  | 0, w, nm, N, hd, hN, I => by
    obtain rfl : w = val.length := by omega
    unfold s11l1
    rw [addOff_lptr]
    show ld1 h0 (.lptr [mV]) _
    rw [ld1_lptr, hV.len]
    exact ifT_neg (by simp) (yes nm N hN I)
  | d + 1, w, nm, N, hd, hN, I => by
    have hw : w < val.length := by omega
    unfold s11l1
    rw [addOff_lptr]
    show ld1 h0 (.lptr [mV]) _
    rw [ld1_lptr, hV.len]
    refine ifT_pos (by simp; omega) ?_
    exact s11l2_in ((val.getD w []).length + 1) (atomsD_l2 S hV W hw (fun nm' N' hN' I' => atomsD_l1 yes d (w + 1) nm' N' (by omega) hN' I') (val.getD w []).length 0 nm N (by omega) hN I)
end
end Go.Proofs.YtljglglbfcgjpaaGreat

namespace Go.Proofs.YtljglglbfcgjpaaGreat
open Go Go.Sym Go.Proofs.Tryz
variable {K : AVal → Heap → Prop} {h h0 hb : Heap} {n : Nat} {r : Nat → Nat → Bool} {f : AVal}
theorem Own.settle2 {A : Ow} {e1 e2 s1 s2 : Nat} {v1 v2 w1 w2 : AVal} {l1 l2 L1 L2 : List AVal} (W : Own hb [A, .slc s1 w1 (L1 ++ [v1]), .slc s2 w2 (L2 ++ [v2]), .slc e1 v1 l1, .slc e2 v2 l2] h) :
    ∃ S h' v1' v2', SlOf e1 v1' l1 ∧ SlOf e2 v2' l2 ∧ Go.Sym.GStep h h' S ∧ Own hb [A, .slc s1 w1 (L1 ++ [v1']), .slc s2 w2 (L2 ++ [v2'])] h' := by
  let Sg : Nat → Prop := fun q => nameOf v1 q ∨ nameOf v2 q
  obtain ⟨v1', h1, x1⟩ := W.lit (i := 3) rfl (S := Sg) (fun _ h => .inl h) (Lits.refl l1)
  obtain ⟨v2', h2, x2⟩ := W.lit (i := 4) rfl (S := Sg) (fun _ h => .inr h) (Lits.refl l2)
  have no : ∀ (j : Nat) (y : Ow), j < 3 → [A, .slc s1 w1 (L1 ++ [v1]), .slc s2 w2 (L2 ++ [v2]), .slc e1 v1 l1, .slc e2 v2 l2][j]? = some y → ∀ q, y.nm q → ¬ Sg q := fun j y hj hy q hn hs => by
    rcases hs with hs | hs
    · have := W.one j 3 y _ q hy rfl hn hs; omega
    · have := W.one j 4 y _ q hy rfl hn hs; omega
  obtain ⟨h', g, W'⟩ := W.step Sg [A, .slc s1 w1 (L1 ++ [v1']), .slc s2 w2 (L2 ++ [v2'])] (fun q hq => by
    rcases hq with hq | hq
    · exact W.new 3 _ q rfl hq
    · exact W.new 4 _ q rfl hq) (fun j y' hj => by
    match j, hj with
    | 0, hj => cases hj; exact ⟨_, rfl, W.fit 0 _ rfl, fun q hq => ⟨hq, no 0 _ (by omega) rfl q hq⟩, .refl _⟩
    | 1, hj =>
      cases hj
      refine ⟨_, rfl, ?_, fun q hq => ⟨hq, no 1 _ (by omega) rfl q hq⟩, .row (Lits.snoc L1 h1)⟩
      have := W.fit 1 _ rfl
      simpa [Ow.fit] using this
    | 2, hj =>
      cases hj
      refine ⟨_, rfl, ?_, fun q hq => ⟨hq, no 2 _ (by omega) rfl q hq⟩, .row (Lits.snoc L2 h2)⟩
      have := W.fit 2 _ rfl
      simpa [Ow.fit] using this
    | j + 3, hj => simp at hj)
  exact ⟨Sg, h', v1', v2', x1, x2, g, W'⟩
/- ---------------- order ---------------- -/
def orderB (L : List (List Bool)) : Bool := decide (1 ≤ L.length) && decide (L.length ≤ 64) && L.all (fun row => row.length == L.length) && ordP L.length (at2 L)
def ordQ (n : Nat) (r : Nat → Nat → Bool) (x y : Nat) : Bool := (x != y || r x x) && ordY n r x y
theorem ordQ_no {x y : Nat} (hx : x < n) (hy : y < n) (h : ordQ n r x y = false) : ordP n r = false := by
  rw [ordP_eq]
  refine all_not hx ?_
  unfold ordX
  unfold ordQ at h
  cases e : ordY n r x y with
  | false => rw [all_not hy e, Bool.and_false]
  | true =>
    rw [e, Bool.and_true] at h
    simp at h
    rw [h.2, Bool.false_and]
theorem ordQ_yes (h : ∀ x y, x < n → y < n → ordQ n r x y = true) : ordP n r = true := by
  rw [ordP_eq]
  refine all_of fun x hx => ?_
  unfold ordX
  rw [Bool.and_eq_true]
  refine ⟨?_, all_of fun y hy => ?_⟩
  · have := h x x hx hx
    unfold ordQ at this
    rw [Bool.and_eq_true] at this
    simpa using this.1
  · have := h x y hx hy
    unfold ordQ at this
    rw [Bool.and_eq_true] at this
    exact this.2
section
variable {v : AVal} {L : List (List Bool)} (hv : Boolss v L) (hs : Sq L) (hn : L.length ≤ 64)
include hv hs hn
theorem orderD_l6 {x y : Nat} (hx : x < L.length) (hy : y < L.length) {L3 : s86l3_T} {L4 : s86l4_T} (no : ∀ z, z < L.length → ordZ (at2 L) x y z = false → K (.bool false) h)
    (yes : (∀ z, z < L.length → ordZ (at2 L) x y z = true) → L4 v L.length (x : Int) ((y : Int) + 1) h) : ∀ d z : Nat, z + d = L.length → (∀ z', z' < z → ordZ (at2 L) x y z' = true) →
    s86l6 K L3 L4 (d + 1) v L.length (x : Int) (y : Int) (z : Int) h
  | 0, z, hd, hb => by
    unfold s86l6
    exact ifT_neg (by simp; omega) (rg_of (by omega) (by omega) (yes fun z' hz' => hb z' (by omega)))
  | d + 1, z, hd, hb => by
    have next : ordZ (at2 L) x y z = true → s86c7 K L3 L4 (s86l6_G (s86l6 K L3 L4 (d + 1))) v L.length (x : Int) (y : Int) (z : Int) false h := fun e => by
      unfold s86c7
      refine ifT_neg rfl (rg_of (by omega) (by omega) (s86l6_go (orderD_l6 hx hy no yes d (z + 1) (by omega) fun z' hz' => ?_)))
      by_cases e2 : z' = z
      · rw [e2]; exact e
      · exact hb z' (by omega)
    obtain ⟨ex, a1, _, a2⟩ := hv.rd hs hx
    obtain ⟨ey, b1, _, b2⟩ := hv.rd hs hy
    unfold s86l6
    refine ifT_pos (by simp; omega) ?_
    rw [a1, a2 y hy, tBool_bool]
    cases e1 : at2 L x y with
    | false => exact ifT_neg rfl (next (by simp [ordZ, e1]))
    | true =>
      refine ifT_pos rfl ?_
      rw [b1, b2 z (by omega), tBool_bool]
      cases e2 : at2 L y z with
      | false => exact ifT_neg rfl (next (by simp [ordZ, e2]))
      | true =>
        refine ifT_pos rfl ?_
        rw [a1, a2 z (by omega), tBool_bool]
        cases e3 : at2 L x z with
        | true => exact next (by simp [ordZ, e3])
        | false =>
          unfold s86c7
          exact ifT_pos rfl (retG_of (no z (by omega) (by simp [ordZ, e1, e2, e3])))
theorem orderD_l4 {x : Nat} (hx : x < L.length) {L3 : s86l3_T} (no : ∀ y, y < L.length → ordQ L.length (at2 L) x y = false → K (.bool false) h)
    (yes : (∀ y, y < L.length → ordQ L.length (at2 L) x y = true) → L3 v L.length ((x : Int) + 1) h) : ∀ d y : Nat, y + d = L.length → (∀ y', y' < y → ordQ L.length (at2 L) x y' = true) →
    s86l4 K L3 (d + 1) v L.length (x : Int) (y : Int) h
  | 0, y, hd, hb => by
    unfold s86l4
    exact ifT_neg (by simp; omega) (rg_of (by omega) (by omega) (yes fun z' hz' => hb z' (by omega)))
  | d + 1, y, hd, hb => by
    have hy : y < L.length := by omega
    have bad : ordQ L.length (at2 L) x y = false → s86c5 K L3 (s86l4_G (s86l4 K L3 (d + 1))) v L.length (x : Int) (y : Int) true h := fun e => by
      unfold s86c5
      exact ifT_pos rfl (retG_of (no y hy e))
    have next : (x != y || at2 L x x) = true → ((x != y) && at2 L x y && at2 L y x) = false → s86c5 K L3 (s86l4_G (s86l4 K L3 (d + 1))) v L.length (x : Int) (y : Int) false h := fun e0 e => by
      unfold s86c5
      refine ifT_neg rfl (s86l6_in (L.length + 1) (orderD_l6 hv hs hn hx hy (fun z hz ez => no y hy ?_) (fun hall => ?_) L.length 0 (by omega) (fun z' hz' => by omega)))
      · unfold ordQ ordY; rw [all_not hz ez, Bool.and_false, Bool.and_false]
      · refine s86l4_go (orderD_l4 hx no yes d (y + 1) (by omega) fun y' hy' => ?_)
        by_cases e2 : y' = y
        · subst e2
          unfold ordQ ordY
          rw [e, e0, all_of hall]; rfl
        · exact hb y' (by omega)
    obtain ⟨ex, a1, _, a2⟩ := hv.rd hs hx
    obtain ⟨ey, b1, _, b2⟩ := hv.rd hs hy
    unfold s86l4
    refine ifT_pos (by simp; omega) ?_
    by_cases exy : x = y
    · subst exy
      refine ifT_pos (by simp) ?_
      rw [a1, a2 x hx, tBool_bool]
      cases e1 : at2 L x x with
      | false => exact ifT_pos rfl (bad (by unfold ordQ; simp [e1]))
      | true =>
        refine ifT_neg rfl (ifT_neg (by simp) (next (by simp [e1]) (by simp)))
    · refine ifT_neg (by simp; omega) (ifT_pos (by simp; omega) ?_)
      rw [a1, a2 y hy, tBool_bool]
      have e0 : (x != y || at2 L x x) = true := by simp [exy]
      cases e1 : at2 L x y with
      | false => exact ifT_neg rfl (next e0 (by simp [e1]))
      | true =>
        refine ifT_pos rfl ?_
        rw [b1, b2 x hx, tBool_bool]
        cases e2 : at2 L y x with
        | false => exact next e0 (by simp [e2])
        | true => exact bad (by unfold ordQ ordY; simp [exy, e1, e2])
theorem orderD_l3 (no : ordP L.length (at2 L) = false → K (.bool false) h) (yes : ordP L.length (at2 L) = true → K (.bool true) h) : ∀ d x : Nat, x + d = L.length → (∀ x' y, x' < x → y < L.length → ordQ L.length (at2 L) x' y = true) →
    s86l3 K (d + 1) v L.length (x : Int) h
  | 0, x, hd, hb => by
    unfold s86l3
    exact ifT_neg (by simp; omega) (retG_of (yes (ordQ_yes fun x' y hx' hy => hb x' y (by omega) hy)))
  | d + 1, x, hd, hb => by
    unfold s86l3
    refine ifT_pos (by simp; omega) (s86l4_in (L.length + 1) (orderD_l4 hv hs hn (by omega) (fun y hy e => no (ordQ_no (by omega) hy e)) (fun hall => ?_) L.length 0 (by omega) (fun y' hy' => by omega)))
    refine s86l3_go (orderD_l3 no yes d (x + 1) (by omega) fun x' y hx' hy => ?_)
    by_cases e2 : x' = x
    · rw [e2]; exact hall y hy
    · exact hb x' y (by omega) hy
end
theorem orderD_l2 {v : AVal} {L : List (List Bool)} (hv : Boolss v L) (hn : L.length ≤ 64) (no : (L.all fun row => row.length == L.length) = false → K (.bool false) h) (yes : Sq L → s86l3_E (s86l3 K) v L.length 0 h) :
    ∀ d x : Nat, x + d = L.length → (∀ row ∈ L.take x, row.length = L.length) → s86l2 K (d + 1) v L.length (x : Int) h
  | 0, x, hd, hb => by
    unfold s86l2
    rw [List.take_of_length_le (by omega)] at hb
    exact ifT_neg (by simp; omega) (yes hb)
  | d + 1, x, hd, hb => by
    have hx : x < L.length := by omega
    unfold s86l2
    refine ifT_pos (by simp; omega) ?_
    obtain ⟨e, he, hix⟩ := hv.ix hx
    rw [hix, ld1_lptr, he.len]
    by_cases el : L[x].length = L.length
    · refine ifT_neg (by simp [el]) (rg_of (by omega) (by omega) (s86l2_go (orderD_l2 hv hn no yes d (x + 1) (by omega) ?_)))
      rw [List.take_succ_eq_append_getElem hx]
      intro s hs
      rcases List.mem_append.1 hs with hs | hs
      · exact hb s hs
      · simp at hs; rw [hs, el]
    · refine ifT_pos (by simp; omega) (retG_of (no ?_))
      rw [List.all_eq_false]
      exact ⟨_, List.getElem_mem hx, by simpa using el⟩
theorem orderD_ok {v : AVal} {L : List (List Bool)} (hv : Boolss v L) (hk : K (.bool (orderB L)) h) : ACalls prog 86 [v] h K := by
  refine s86_ok ?_
  unfold s86
  rw [hv.len]
  unfold orderB at hk
  have bad : orderB L = false → s86c1 K v L.length true h := fun e => by
    unfold orderB at e
    rw [e] at hk
    unfold s86c1
    exact ifT_pos rfl (retG_of hk)
  by_cases c1 : (L.length : Int) < 1
  · exact ifT_pos (by simpa using c1) (bad (by unfold orderB; rw [decide_eq_false (show ¬ 1 ≤ L.length by omega)]; rfl))
  refine ifT_neg (by simpa using c1) ?_
  by_cases c2 : (64 : Int) < L.length
  · rw [decide_eq_true c2]
    exact bad (by unfold orderB; rw [decide_eq_false (show ¬ L.length ≤ 64 by omega)]; simp)
  rw [decide_eq_false c2]
  rw [decide_eq_true (show 1 ≤ L.length by omega), decide_eq_true (show L.length ≤ 64 by omega)] at hk
  simp only [Bool.true_and] at hk
  unfold s86c1
  refine ifT_neg rfl (s86l2_in (L.length + 1) (orderD_l2 hv (by omega) (fun e => ?_) (fun hs => s86l3_in (L.length + 1) (orderD_l3 hv hs (by omega) (fun e => ?_) (fun e => ?_) L.length 0 (by omega) fun x' y hx' => by omega)) L.length 0 (by omega) (by simp)))
  · rwa [e, Bool.false_and] at hk
  · rwa [e, Bool.and_false] at hk
  · rwa [e, sq_all.2 hs] at hk
/- ---------------- best ---------------- -/
def pD (r : Nat → Nat → Bool) (down : Bool) (x y z : Nat) : Bool := if down then r z x && r z y else r x z && r y z
def ovD (r : Nat → Nat → Bool) (down : Bool) (z w : Nat) : Bool := if down then r w z else r z w
def bestO (n : Nat) (r : Nat → Nat → Bool) (down : Bool) (x y : Nat) : Option Nat := if down then meetO n r x y else joinO n r x y
theorem bestO_eq (down : Bool) (x y : Nat) : bestO n r down x y = bestP n (pD r down x y) (ovD r down) := by
  unfold bestO meetO joinO pD ovD
  cases down <;> rfl
def optI (o : Option Nat) : Int := match o with
  | some z => (z : Int)
  | none => -1
section
variable {v : AVal} {L : List (List Bool)} (hv : Boolss v L) (hs : Sq L) (hn : L.length ≤ 64) {x y : Nat} (hx : x < L.length) (hy : y < L.length) {down : Bool}
include hv hs hx hy
theorem withinD_ok {z : Nat} (hz : z < L.length) (hk : K (.bool (pD (at2 L) down x y z)) h) : ACalls prog 118 [v, .int .i64 (z : Int), .int .i64 (x : Int), .int .i64 (y : Int), .bool down] h K := by
  refine s118_ok ?_
  unfold s118
  obtain ⟨ez, a1, _, a2⟩ := hv.rd hs hz
  obtain ⟨ex, b1, _, b2⟩ := hv.rd hs hx
  obtain ⟨ey, c1, _, c2⟩ := hv.rd hs hy
  unfold pD at hk
  cases down with
  | true =>
    rw [if_pos rfl] at hk
    refine ifT_pos rfl ?_
    rw [a1, a2 x hx, tBool_bool]
    cases e : at2 L z x with
    | false => exact ifT_neg rfl (retG_of (by rwa [e, Bool.false_and] at hk))
    | true =>
      refine ifT_pos rfl ?_
      rw [a1, a2 y hy, tBool_bool]
      exact retG_of (by rwa [e, Bool.true_and] at hk)
  | false =>
    rw [if_neg (by decide)] at hk
    refine ifT_neg rfl ?_
    rw [b1, b2 z hz, tBool_bool]
    cases e : at2 L x z with
    | false => exact ifT_neg rfl (retG_of (by rwa [e, Bool.false_and] at hk))
    | true =>
      refine ifT_pos rfl ?_
      rw [c1, c2 z hz, tBool_bool]
      exact retG_of (by rwa [e, Bool.true_and] at hk)
omit hv hs hx hy in
theorem topW_mono {p : Nat → Bool} {ov : Nat → Nat → Bool} {z w n : Nat} (hw : w ≤ n) (h : topW p ov z w = false) : topW p ov z n = false := by
  unfold topW at h ⊢
  rw [List.all_eq_false] at h ⊢
  obtain ⟨u, hu, h⟩ := h
  exact ⟨u, List.mem_range.2 (Nat.lt_of_lt_of_le (List.mem_range.1 hu) hw), h⟩
include hn
theorem bestD_l2 {z : Nat} (hz : z < L.length) {L1 : s87l1_T} (yes : topB L.length (pD (at2 L) down x y) (ovD (at2 L) down) z = true → K (.int .i64 (z : Int)) h) (no : topB L.length (pD (at2 L) down x y) (ovD (at2 L) down) z = false → L1 v (x : Int) (y : Int) down ((z : Int) + 1) h) :
    ∀ d w : Nat, w + d = L.length → s87l2 K L1 (d + 1) v (x : Int) (y : Int) down (z : Int) (pD (at2 L) down x y z && topW (pD (at2 L) down x y) (ovD (at2 L) down) z w) (w : Int) h
  | 0, w, hd => by
    obtain rfl : w = L.length := by omega
    unfold s87l2
    rw [hv.len]
    refine ifT_neg (by simp) ?_
    unfold s87c3
    refine ifT_neg rfl ?_
    cases e : (pD (at2 L) down x y z && topW (pD (at2 L) down x y) (ovD (at2 L) down) z L.length) with
    | true => exact ifT_pos rfl (retG_of (yes e))
    | false => exact ifT_neg rfl (rg_of (by omega) (by omega) (no e))
  | d + 1, w, hd => by
    unfold s87l2
    rw [hv.len]
    refine ifT_pos (by simp; omega) ?_
    unfold s87c3
    cases e : (pD (at2 L) down x y z && topW (pD (at2 L) down x y) (ovD (at2 L) down) z w) with
    | false =>
      refine ifT_neg rfl (ifT_neg rfl (rg_of (by omega) (by omega) (no ?_)))
      unfold topB
      rw [Bool.and_eq_false_iff] at e ⊢
      rcases e with e | e
      · exact .inl e
      · exact .inr (topW_mono (by omega) e)
    | true =>
      have next : s87c4 K L1 (s87l2_G (s87l2 K L1 (d + 1))) v (x : Int) (y : Int) down (z : Int) (pD (at2 L) down x y z && topW (pD (at2 L) down x y) (ovD (at2 L) down) z (w + 1)) (w : Int) h := by
        unfold s87c4
        exact rg_of (by omega) (by omega) (s87l2_go (bestD_l2 hz yes no d (w + 1) (by omega)))
      rw [topW_succ, ← Bool.and_assoc, e, Bool.true_and] at next
      refine ifT_pos rfl (callG_of (withinD_ok hv hs hx hy (z := w) (by omega) ?_))
      rw [tBool_bool]
      cases e1 : pD (at2 L) down x y w with
      | false =>
        rw [e1] at next
        exact ifT_neg rfl next
      | true =>
        rw [e1] at next
        refine ifT_pos rfl ?_
        obtain ⟨ez, a1, _, a2⟩ := hv.rd hs hz
        obtain ⟨ew, b1, _, b2⟩ := hv.rd hs (x := w) (by omega)
        unfold ovD at next
        cases down with
        | true =>
          refine ifT_pos rfl ?_
          rw [b1, b2 z hz, tBool_bool]
          simpa using next
        | false =>
          refine ifT_neg rfl ?_
          rw [a1, a2 w (by omega), tBool_bool]
          simpa using next
theorem bestD_l1 : ∀ d z : Nat, z + d = L.length → K (.int .i64 (optI (bestFrom (pD (at2 L) down x y) (ovD (at2 L) down) L.length z d))) h → s87l1 K (d + 1) v (x : Int) (y : Int) down (z : Int) h
  | 0, z, hd, hk => by
    unfold s87l1
    rw [hv.len]
    exact ifT_neg (by simp; omega) (retG_of hk)
  | d + 1, z, hd, hk => by
    unfold bestFrom at hk
    rw [List.range'_succ, List.find?_cons] at hk
    unfold s87l1
    rw [hv.len]
    refine ifT_pos (by simp; omega) (callG_of (withinD_ok hv hs hx hy (z := z) (by omega) ?_))
    rw [tBool_bool]
    have e0 : pD (at2 L) down x y z = (pD (at2 L) down x y z && topW (pD (at2 L) down x y) (ovD (at2 L) down) z 0) := by
      show _ = (_ && true)
      rw [Bool.and_true]
    refine s87l2_in (L.length + 1) ?_
    rw [e0]
    refine bestD_l2 hv hs hn hx hy (by omega) (fun e => ?_) (fun e => ?_) L.length 0 (by omega)
    · rw [e] at hk; exact hk
    · rw [e] at hk
      exact s87l1_go (bestD_l1 d (z + 1) (by omega) hk)
theorem bestD_ok (hk : K (.int .i64 (optI (bestO L.length (at2 L) down x y))) h) : ACalls prog 87 [v, .int .i64 (x : Int), .int .i64 (y : Int), .bool down] h K := by
  rw [bestO_eq, best_from] at hk
  refine s87_ok ?_
  unfold s87
  exact s87l1_in (L.length + 1) (bestD_l1 hv hs hn hx hy L.length 0 (by omega) hk)
end
/- ---------------- Of ---------------- -/
abbrev HM (hb : Heap) (q : Nat) (a vM vJ : AVal) (LM LJ : List AVal) (os : List Ow) (h : Heap) : Prop := Own hb ([.cell q (.row 3 [.agg [a, vM, vJ]]), .slc 1 vM LM, .slc 1 vJ LJ] ++ os) h
section
variable {a : AVal} {L : List (List Bool)} (hv : Boolss a L) (hs : Sq L) (hn : L.length ≤ 64) (h1 : 1 ≤ L.length) (hsa : sc a = true) {q : Nat}
include hv hs hn h1
theorem of_l2 {x : Nat} (hx : x < L.length) {L1 : s39l1_T} {LM LJ : List AVal} (hLM : LM.length ≤ 64) (hLJ : LJ.length ≤ 64) {vM vJ : AVal} (no : ∀ y, y < L.length → tabB L.length (at2 L) x y = false → K (.tuple [.nilptr, .bool false]) hb)
    (yes : (∀ y, y < L.length → tabB L.length (at2 L) x y = true) → ∀ vM' vJ' em ej h', Ints em (natI (mRow L.length (at2 L) x)) → Ints ej (natI (jRow L.length (at2 L) x)) → HM hb q a vM' vJ' (LM ++ [em]) (LJ ++ [ej]) [] h' → L1 a L.length (.ptr q 0 0) ((x : Int) + 1) h') :
    ∀ d y : Nat, y + d = L.length → (∀ y', y' < y → tabB L.length (at2 L) x y' = true) → ∀ met join h, HM hb q a vM vJ LM LJ [.slc 1 met ((natI ((mRow L.length (at2 L) x).take y)).map (.int .i64)), .slc 1 join ((natI ((jRow L.length (at2 L) x).take y)).map (.int .i64))] h →
      s39l2 K (s39l1_G L1) (d + 1) a L.length (.ptr q 0 0) (x : Int) met join (y : Int) h
  | 0, y, hd, hb', met, join, h, W => by
    obtain rfl : y = L.length := by omega
    have lm : (mRow L.length (at2 L) x).length = L.length := by simp [mRow]
    have lj : (jRow L.length (at2 L) x).length = L.length := by simp [jRow]
    rw [List.take_of_length_le (by omega), List.take_of_length_le (by omega)] at W
    unfold s39l2
    refine ifT_neg (by simp) ?_
    rw [nilCheckA_ptr, addOff_ptr, ld1_fld (W.get 0 _ q rfl rfl) rfl]
    refine chk_iff.2 ⟨(W.sc (i := 3) rfl).1, W.app (i := 1) rfl (by omega) (by omega) fun v2 h2 W2 => ?_⟩
    rw [nilCheckA_ptr, addOff_ptr]
    refine chk_iff.2 ⟨(W2.sc (i := 1) rfl).1, st_fld (W2.get 0 _ q rfl rfl) (by simp) ?_⟩
    have W3 : HM hb q a v2 vJ (LM ++ [met]) LJ _ _ := W2.put (i := 0) rfl (.row 3 [.agg [a, v2, vJ]])
    show nilCheckA (.ptr q 0 0) fun p4 => addOff p4 2 fun p5 => ld1 (h2.set q (.row 3 [.agg [a, v2, vJ]])) p5 _
    rw [nilCheckA_ptr, addOff_ptr, ld1_fld (W3.get 0 _ q rfl rfl) rfl]
    refine chk_iff.2 ⟨(W3.sc (i := 4) rfl).1, W3.app (i := 2) rfl (by omega) (by omega) fun v3 h3 W4 => ?_⟩
    rw [nilCheckA_ptr, addOff_ptr]
    refine chk_iff.2 ⟨(W4.sc (i := 2) rfl).1, st_fld (W4.get 0 _ q rfl rfl) (by simp) (rg_of (by omega) (by omega) ?_)⟩
    have W5 : HM hb q a v2 v3 (LM ++ [met]) (LJ ++ [join]) _ _ := W4.put (i := 0) rfl (.row 3 [.agg [a, v2, v3]])
    obtain ⟨S, h', em, ej, x1, x2, g, W6⟩ := Own.settle2 W5
    exact ⟨S, _, h', Lits.refl _, g, rfl, yes (fun y' hy' => hb' y' hy') v2 v3 em ej h' x1 x2 W6⟩
  | d + 1, y, hd, hb', met, join, h, W => by
    have hy : y < L.length := by omega
    have lm : (mRow L.length (at2 L) x).length = L.length := by simp [mRow]
    have lj : (jRow L.length (at2 L) x).length = L.length := by simp [jRow]
    unfold s39l2
    refine ifT_pos (by simp; omega) (callG_of (bestD_ok hv hs hn hx hy (down := true) ?_))
    rw [tInt_int]
    refine callG_of (bestD_ok hv hs hn hx hy (down := false) ?_)
    rw [tInt_int]
    have bad : ∀ m j : Int, tabB L.length (at2 L) x y = false → s39c3 K (s39l1_G L1) (s39l2_G (s39l2 K (s39l1_G L1) (d + 1))) a L.length (.ptr q 0 0) (x : Int) met join (y : Int) m j true h := fun m j e => by
      unfold s39c3
      exact ifT_pos rfl (retG_drop W.old (no y hy e))
    show ifT (decide (optI (meetO L.length (at2 L) x y) < 0)) _ (s39c3 K _ _ a L.length (.ptr q 0 0) (x : Int) met join (y : Int) (optI (meetO L.length (at2 L) x y)) (optI (joinO L.length (at2 L) x y)) (decide (optI (joinO L.length (at2 L) x y) < 0)) h)
    cases e1 : meetO L.length (at2 L) x y with
    | none => exact ifT_pos rfl (bad _ _ (by unfold tabB; rw [e1]; rfl))
    | some m =>
      refine ifT_neg (decide_eq_false (show ¬ ((m : Int) < 0) by omega)) ?_
      cases e2 : joinO L.length (at2 L) x y with
      | none => exact bad _ _ (by unfold tabB; rw [e2]; simp)
      | some j =>
        have et : tabB L.length (at2 L) x y = true := by unfold tabB; rw [e1, e2]; rfl
        have em : (mRow L.length (at2 L) x)[y]? = some m := by unfold mRow; rw [range_get _ hy]; unfold mt; rw [e1]; rfl
        have ej : (jRow L.length (at2 L) x)[y]? = some j := by unfold jRow; rw [range_get _ hy]; unfold jn; rw [e2]; rfl
        rw [show decide (optI (some j) < 0) = false from decide_eq_false (show ¬ ((j : Int) < 0) by omega)]
        unfold s39c3
        refine ifT_neg rfl (W.app (i := 3) rfl (by simp [natI]; omega) (by simp [natI]; omega) fun v2 h2 W2 => W2.app (i := 4) rfl (by simp [natI]; omega) (by simp [natI]; omega) fun v3 h3 W3 => rg_of (by omega) (by omega) (s39l2_go ?_))
        refine of_l2 (vM := vM) (vJ := vJ) hx hLM hLJ no yes d (y + 1) (by omega) (fun y' hy' => ?_) v2 v3 h3 ?_
        · by_cases e3 : y' = y
          · rw [e3]; exact et
          · exact hb' y' (by omega)
        · rw [List.take_add_one, List.take_add_one, em, ej]
          have e4 : ∀ (l : List Nat) (m : Nat), (natI (l ++ (some m).toList)).map (AVal.int .i64) = (natI l).map (AVal.int .i64) ++ [AVal.int .i64 (m : Int)] := fun l m => by simp [natI]
          rw [e4, e4]
          exact W3
end
end Go.Proofs.YtljglglbfcgjpaaGreat

namespace Go.Proofs.YtljglglbfcgjpaaGreat
open Go Go.Sym Go.Proofs.Tryz
variable {K : AVal → Heap → Prop} {h h0 hb : Heap} {n : Nat} {r : Nat → Nat → Bool} {f : AVal}
structure HP (v : AVal) (L : List (List Bool)) (a vM vJ : AVal) : Prop where
  e : v = .lptr [a, vM, vJ]
  a : Boolss a L
  m : Intss vM (mTab L.length (at2 L))
  j : Intss vJ (jTab L.length (at2 L))
section
variable {v a vM vJ : AVal} {L : List (List Bool)} (H : HP v L a vM vJ) (hs : Sq L) (hn : L.length ≤ 64) (h1 : 1 ≤ L.length)
include H hs hn h1
theorem of_l6 {x y : Nat} (hx : x < L.length) (hy : y < L.length) {L4 : s39l4_T} {L5 : s39l5_T} (no : ∀ z, z < L.length → distB L.length (at2 L) x y z = false → K (.tuple [.nilptr, .bool false]) h)
    (yes : (∀ z, z < L.length → distB L.length (at2 L) x y z = true) → L5 L.length v (x : Int) ((y : Int) + 1) h) : ∀ d z : Nat, z + d = L.length → (∀ z', z' < z → distB L.length (at2 L) x y z' = true) →
    s39l6 K L4 L5 (d + 1) L.length v (x : Int) (y : Int) (z : Int) h
  | 0, z, hd, hb => by
    unfold s39l6
    exact ifT_neg (by simp; omega) (rg_of (by omega) (by omega) (yes fun z' hz' => hb z' (by omega)))
  | d + 1, z, hd, hb => by
    have _ := hs
    have hz : z < L.length := by omega
    obtain ⟨em, m1, m2⟩ := tab_rd (c := mt L.length (at2 L)) H.m hx
    obtain ⟨ej, j1, j2⟩ := tab_rd (c := jn L.length (at2 L)) H.j hy
    obtain ⟨ek, k1, k2⟩ := tab_rd (c := jn L.length (at2 L)) H.j (mt_lt (r := at2 L) h1 x y)
    have next := fun e : distB L.length (at2 L) x y z = true => of_l6 hx hy (L4 := L4) no yes d (z + 1) (by omega) fun z' hz' => by
      by_cases e2 : z' = z
      · rw [e2]; exact e
      · exact hb z' (by omega)
    have hno := no z hz
    obtain ⟨rfl, _, _, _⟩ := H
    unfold s39l6
    refine ifT_pos (by simp; omega) ?_
    simp only [nilCk_lptr, addOff_lptr, List.drop_succ_cons, List.drop_zero, ld1_lptr]
    rw [m1, j1, j2 z hz, tInt_int, m2 _ (jn_lt h1 _ _), tInt_int, m1, m2 y hy, tInt_int, k1, m1, m2 z hz, tInt_int, k2 _ (mt_lt h1 _ _), tInt_int]
    cases e : distB L.length (at2 L) x y z with
    | false =>
      refine ifT_pos ?_ (retG_of (hno e))
      unfold distB at e
      simp at e ⊢
      omega
    | true =>
      refine ifT_neg ?_ (rg_of (by omega) (by omega) (s39l6_go (next e)))
      unfold distB at e
      simp at e ⊢
      omega
theorem of_l5 {x : Nat} (hx : x < L.length) {L4 : s39l4_T} (no : ∀ y z, y < L.length → z < L.length → distB L.length (at2 L) x y z = false → K (.tuple [.nilptr, .bool false]) h)
    (yes : (∀ y z, y < L.length → z < L.length → distB L.length (at2 L) x y z = true) → L4 L.length v ((x : Int) + 1) h) : ∀ d y : Nat, y + d = L.length → (∀ y' z, y' < y → z < L.length → distB L.length (at2 L) x y' z = true) →
    s39l5 K L4 (d + 1) L.length v (x : Int) (y : Int) h
  | 0, y, hd, hb => by
    unfold s39l5
    exact ifT_neg (by simp; omega) (rg_of (by omega) (by omega) (yes fun y' z' hy' hz' => hb y' z' (by omega) hz'))
  | d + 1, y, hd, hb => by
    unfold s39l5
    refine ifT_pos (by simp; omega) (s39l6_in (L.length + 1) (of_l6 H hs hn h1 hx (by omega) (fun z hz e => no y z (by omega) hz e) (fun hall => ?_) L.length 0 (by omega) (fun z' hz' => by omega)))
    refine s39l5_go (of_l5 hx no yes d (y + 1) (by omega) fun y' z hy' hz => ?_)
    by_cases e2 : y' = y
    · rw [e2]; exact hall z hz
    · exact hb y' z (by omega) hz
theorem of_l4 (no : distP L.length (at2 L) = false → K (.tuple [.nilptr, .bool false]) h) (yes : distP L.length (at2 L) = true → K (.tuple [v, .bool true]) h) : ∀ d x : Nat, x + d = L.length → (∀ x' y z, x' < x → y < L.length → z < L.length → distB L.length (at2 L) x' y z = true) →
    s39l4 K (d + 1) L.length v (x : Int) h
  | 0, x, hd, hb => by
    unfold s39l4
    refine ifT_neg (by simp; omega) (retG_of (yes ?_))
    unfold distP
    exact all_of fun x' hx' => all_of fun y hy => all_of fun z hz => hb x' y z (by omega) hy hz
  | d + 1, x, hd, hb => by
    unfold s39l4
    refine ifT_pos (by simp; omega) (s39l5_in (L.length + 1) (of_l5 H hs hn h1 (by omega) (fun y z hy hz e => no ?_) (fun hall => ?_) L.length 0 (by omega) (fun y' z hy' => by omega)))
    · unfold distP
      exact all_not (x := x) (by omega) (all_not hy (all_not hz e))
    · refine s39l4_go (of_l4 no yes d (x + 1) (by omega) fun x' y z hx' hy hz => ?_)
      by_cases e2 : x' = x
      · rw [e2]; exact hall y z hy hz
      · exact hb x' y z (by omega) hy hz
end
section
variable {a : AVal} {L : List (List Bool)} (hv : Boolss a L) (hs : Sq L) (hn : L.length ≤ 64) (h1 : 1 ≤ L.length) {q : Nat}
include hv hs hn h1
theorem of_l1 (bad : tabsP L.length (at2 L) = false → K (.tuple [.nilptr, .bool false]) hb) (no : distP L.length (at2 L) = false → K (.tuple [.nilptr, .bool false]) hb)
    (yes : tabsP L.length (at2 L) = true → distP L.length (at2 L) = true → ∀ v vM vJ, HP v L a vM vJ → K (.tuple [v, .bool true]) hb) : ∀ d x : Nat, x + d = L.length → (∀ x', x' < x → ∀ y, y < L.length → tabB L.length (at2 L) x' y = true) →
    ∀ vM vJ LM LJ h, All2 Ints LM ((mTab L.length (at2 L)).take x) → All2 Ints LJ ((jTab L.length (at2 L)).take x) → HM hb q a vM vJ LM LJ [] h → s39l1 K (d + 1) a L.length (.ptr q 0 0) (x : Int) h
  | 0, x, hd, hb', vM, vJ, LM, LJ, h, aM, aJ, W => by
    obtain rfl : x = L.length := by omega
    have et : tabsP L.length (at2 L) = true := all_of fun x' hx' => all_of fun y hy => hb' x' hx' y hy
    have lm : (mTab L.length (at2 L)).length = L.length := by simp [mTab]
    have lj : (jTab L.length (at2 L)).length = L.length := by simp [jTab]
    rw [List.take_of_length_le (by omega)] at aM aJ
    unfold s39l1
    refine ifT_neg (by simp) ?_
    let Sg : Nat → Prop := fun k => k = q ∨ nameOf vM k ∨ nameOf vJ k
    obtain ⟨m', l1, s1⟩ := W.lit (i := 1) rfl (S := Sg) (fun k hk => .inr (.inl hk)) (Lits.refl LM)
    obtain ⟨j', l2, s2⟩ := W.lit (i := 2) rfl (S := Sg) (fun k hk => .inr (.inr hk)) (Lits.refl LJ)
    have H : HP (.lptr [a, m', j']) L a m' j' := ⟨rfl, hv, ⟨_, s1, aM⟩, ⟨_, s2, aJ⟩⟩
    refine ⟨Sg, _, hb, .cons (.refl _) (.cons (.ptr (.inl rfl) (W.get 0 _ q rfl rfl) rfl (.cons (.refl _) (.cons l1 (.cons l2 .nil)))) (.cons (.refl _) .nil)), base_step W Sg (fun k hk => ?_), rfl, L.length + 1, ?_⟩
    · rcases hk with hk | hk | hk
      · exact W.new 0 _ k rfl hk
      · exact W.new 1 _ k rfl hk
      · exact W.new 2 _ k rfl hk
    · exact of_l4 H hs hn h1 no (fun e => yes et e _ _ _ H) L.length 0 (by omega) fun x' y z hx' => by omega
  | d + 1, x, hd, hb', vM, vJ, LM, LJ, h, aM, aJ, W => by
    have hx : x < L.length := by omega
    have lm : LM.length ≤ 64 := by have := aM.length; rw [List.length_take] at this; omega
    have lj : LJ.length ≤ 64 := by have := aJ.length; rw [List.length_take] at this; omega
    have gm : (mTab L.length (at2 L))[x]? = some (natI (mRow L.length (at2 L) x)) := range_get _ hx
    have gj : (jTab L.length (at2 L))[x]? = some (natI (jRow L.length (at2 L) x)) := range_get _ hx
    unfold s39l1
    refine ifT_pos (by simp; omega) (s39l2_in (L.length + 1) (of_l2 (vM := vM) (vJ := vJ) hv hs hn h1 hx lm lj (fun y hy e => bad (all_not hx (all_not hy e))) (fun hall vM' vJ' em ej h' x1 x2 W' => ?_) L.length 0 (by omega) (fun y' hy' => by omega) .nilsl .nilsl h ?_))
    · refine of_l1 bad no yes d (x + 1) (by omega) (fun x' hx' y hy => ?_) vM' vJ' _ _ h' ?_ ?_ W'
      · by_cases e3 : x' = x
        · rw [e3]; exact hall y hy
        · exact hb' x' (by omega) y hy
      · rw [List.take_add_one, gm]
        exact aM.append (.cons x1 .nil)
      · rw [List.take_add_one, gj]
        exact aJ.append (.cons x2 .nil)
    · have := (W.newN 1).newN 1
      unfold HM
      simpa [natI] using this
end
theorem algP_eq (L : List (List Bool)) : algP L = (orderB L && tabsP L.length (at2 L) && distP L.length (at2 L)) := rfl
theorem orderB_sq {L : List (List Bool)} (h : orderB L = true) : Sq L ∧ 1 ≤ L.length ∧ L.length ≤ 64 := by
  unfold orderB at h
  simp only [Bool.and_eq_true, decide_eq_true_eq] at h
  exact ⟨sq_all.1 h.1.2, h.1.1.1, h.1.1.2⟩
section
variable {a : AVal} {L : List (List Bool)} (hv : Boolss a L)
include hv
theorem ofD_ok (no : algP L = false → K (.tuple [.nilptr, .bool false]) h) (yes : algP L = true → ∀ v vM vJ, HP v L a vM vJ → K (.tuple [v, .bool true]) h) : ACalls prog 39 [.agg [a]] h K := by
  refine s39_ok ?_
  unfold s39
  refine callG_of (orderD_ok hv ?_)
  rw [tBool_bool]
  cases e : orderB L with
  | false => exact ifT_pos rfl (retG_of (no (by rw [algP_eq, e]; rfl)))
  | true =>
    obtain ⟨hs, h1, hn⟩ := orderB_sq e
    refine ifT_neg rfl ?_
    rw [hv.len]
    have hsc : sc a = true := by
      obtain ⟨l, h1, _⟩ := hv
      rcases h1 with rfl | ⟨rfl, _⟩ <;> rfl
    refine chk_iff.2 ⟨hsc, newRow_in fun q hq => ?_⟩
    have W := (((Own.start h).newC hq (.row 3 [.agg [a, .nilsl, .nilsl]])).newN 1).newN 1
    refine s39l1_in (L.length + 1) (of_l1 hv hs hn h1 (fun e2 => no ?_) (fun e2 => no ?_) (fun e2 e3 v vM vJ H => yes ?_ v vM vJ H) L.length 0 (by omega) (fun x' hx' => by omega) .nilsl .nilsl [] [] _ .nil .nil W)
    · rw [algP_eq, e, e2]; rfl
    · rw [algP_eq, e, e2]; simp
    · rw [algP_eq, e, e2, e3]; rfl
end
section
variable {v a vM vJ : AVal} {L : List (List Bool)} (H : HP v L a vM vJ) (hs : Sq L) (hn : L.length ≤ 64) (h1 : 1 ≤ L.length)
include H hs hn h1
theorem boundsD_l1 : ∀ d x : Nat, x + d = L.length → ∀ low high : Nat, low < L.length → high < L.length → (∀ lo hi, (List.range' x d).foldl (runB (fun _ => true) fun x y => at2 L y x) (some low) = some lo → (List.range' x d).foldl (runB (fun _ => true) (at2 L)) (some high) = some hi → K (.tuple [.int .i64 (lo : Int), .int .i64 (hi : Int)]) h) →
    s40l1 K (d + 1) v (low : Int) (high : Int) (x : Int) h
  | 0, x, hd, low, high, hl, hh, hk => by
    obtain ⟨rfl, ha, _, _⟩ := H
    unfold s40l1
    simp only [nilCk_lptr, addOff_lptr, List.drop_zero, ld1_lptr]
    rw [ha.len]
    exact ifT_neg (by simp; omega) (retG_of (hk low high rfl rfl))
  | d + 1, x, hd, low, high, hl, hh, hk => by
    have hx : x < L.length := by omega
    simp only [List.range'_succ, List.foldl_cons] at hk
    have next := fun lo' hi' h1' h2' hk' => boundsD_l1 d (x + 1) (by omega) lo' hi' h1' h2' hk'
    have stp : ∀ (r : Nat → Nat → Bool) (o : Nat), runB (fun _ => true) r (some o) x = some (if r o x then x else o) := fun r o => by
      unfold runB
      simp only [Bool.true_and, ovr]
      split <;> rfl
    rw [stp, stp] at hk
    have c2 : ∀ lo' hi', (if at2 L x low then x else low) = lo' → (if at2 L high x then x else high) = hi' → s40c2 K (s40l1_G (s40l1 K (d + 1))) v (lo' : Int) (hi' : Int) (x : Int) h := fun lo' hi' e1 e2 => by
      rw [e1, e2] at hk
      unfold s40c2
      refine rg_of (by omega) (by omega) (s40l1_go (next lo' hi' ?_ ?_ hk))
      · rw [← e1]; split <;> omega
      · rw [← e2]; split <;> omega
    obtain ⟨rfl, ha, _, _⟩ := H
    obtain ⟨ex, a1, _, a2⟩ := ha.rd hs hx
    obtain ⟨eh, b1, _, b2⟩ := ha.rd hs hh
    have c3 : ∀ lo', (if at2 L x low then x else low) = lo' → s40c3 K (s40l1_G (s40l1 K (d + 1))) (.lptr [a, vM, vJ]) (lo' : Int) (high : Int) (x : Int) h := fun lo' e1 => by
      unfold s40c3
      simp only [nilCk_lptr, addOff_lptr, List.drop_succ_cons, List.drop_zero, ld1_lptr]
      rw [b1, b2 x hx, tBool_bool]
      cases e : at2 L high x with
      | true => exact ifT_pos rfl (c2 lo' x e1 (by rw [e]; rfl))
      | false => exact ifT_neg rfl (c2 lo' high e1 (by rw [e]; rfl))
    unfold s40l1
    simp only [nilCk_lptr, addOff_lptr, List.drop_succ_cons, List.drop_zero, ld1_lptr]
    rw [ha.len]
    refine ifT_pos (by simp; omega) ?_
    rw [a1, a2 low hl, tBool_bool]
    cases e : at2 L x low with
    | true => exact ifT_pos rfl (c3 x (by rw [e]; rfl))
    | false => exact ifT_neg rfl (c3 low (by rw [e]; rfl))
theorem boundsD_ok (A : Lat L.length (at2 L)) (hk : K (.tuple [.int .i64 ((lowP L.length (at2 L) : Nat) : Int), .int .i64 ((highP L.length (at2 L) : Nat) : Int)]) h) : ACalls prog 40 [v] h K := by
  refine s40_ok ?_
  unfold s40
  refine s40l1_in (L.length + 1) (boundsD_l1 H hs hn h1 L.length 0 (by omega) 0 0 (by omega) (by omega) fun lo hi e1 e2 => ?_)
  rw [← List.range_eq_range'] at e1 e2
  rw [A.low 0 (by omega)] at e1
  rw [A.high 0 (by omega)] at e2
  cases e1
  cases e2
  exact hk
end
end Go.Proofs.YtljglglbfcgjpaaGreat

namespace Go.Proofs.YtljglglbfcgjpaaGreat
open Go Go.Sym Go.Proofs.Tryz
variable {K : AVal → Heap → Prop} {h : Heap} {up : List (List Int)} {val : List (List ByteArray)} {mU mV : AVal}
theorem tidy17_l5 (hn : up.length ≤ 512) {o : AVal} (hO : OTab o up) {a b : Nat} (ha : a < up.length) (hb : b < up.length) {L1 : AVal → AVal → AVal → AVal → Int → Heap → Prop} {L2 : AVal → AVal → AVal → AVal → Int → AVal → Int → Heap → Prop}
    {m t2 out row : AVal} {h : Heap} (yes : coverB up a b = true → appC 1 8 h row (.lsl 1 [(.int .i64 (b : Int))]) fun v h' => s41c3 K L1 L2 m t2 o out a v b h')
    (no : coverB up a b = false → s41c3 K L1 L2 m t2 o out a row b h) : ∀ d c : Nat, c + d = up.length → ∀ next : Bool, (next = true → startB up a b = true ∧ (List.range c).all (okc up a b) = true) → (next = false → coverB up a b = false) →
      s41l5 K L1 L2 (d + 1) m t2 o out a row b next (c : Int) h
  | 0, c, hd, next, hy, hnn => by
    unfold s41l5
    rw [hO.len]
    refine ifT_neg (by simp; omega) (ifT_neg rfl ?_)
    obtain rfl : c = up.length := by omega
    cases next with
    | true => exact ifT_pos rfl (yes (by unfold coverB; rw [(hy rfl).1, (hy rfl).2]; rfl))
    | false => exact ifT_neg rfl (no (hnn rfl))
  | d + 1, c, hd, next, hy, hnn => by
    have hc : c < up.length := by omega
    unfold s41l5
    rw [hO.len]
    refine ifT_pos (by simp; omega) ?_
    cases next with
    | false => exact ifT_neg rfl (ifT_neg rfl (no (hnn rfl)))
    | true =>
      obtain ⟨h1, h2⟩ := hy rfl
      have go : ∀ n' : Bool, n' = okc up a b c → s41c7 K L1 L2 (s41l5_G (s41l5 K L1 L2 (d + 1))) m t2 o out a row b n' c h := by
        rintro n' rfl
        refine rg_of (by omega) (by omega) (s41l5_go (tidy17_l5 hn hO ha hb yes no d (c + 1) (by omega) _ (fun e => ⟨h1, ?_⟩) (fun e => ?_)))
        · rw [List.range_succ, List.all_append, h2, List.all_cons, e]; rfl
        · unfold coverB
          have : (List.range up.length).all (okc up a b) = false := List.all_eq_false.2 ⟨c, List.mem_range.2 hc, by rw [e]; simp⟩
          rw [this, Bool.and_false]
      refine ifT_pos rfl ?_
      unfold okc at go
      by_cases e1 : c = a
      · refine ifT_pos (by simp [e1]) (go true (by simp [e1]))
      · rw [show (c == a) = false by simpa using e1] at go
        refine ifT_neg (by simp; omega) ?_
        by_cases e2 : c = b
        · refine ifT_pos (by simp [e2]) (go true (by simp [e2]))
        · rw [show (c == b) = false by simpa using e2] at go
          simp only [Bool.false_or] at go
          refine ifT_neg (by simp; omega) ?_
          obtain ⟨ea, hra, _, hia⟩ := hO.row (h' := h) ha
          obtain ⟨ec, hrc, _, hic⟩ := hO.row (h' := h) hc
          rw [hra, hia c hc, tBool_bool]
          cases h3 : rb up a c with
          | false => rw [h3] at go; exact ifT_pos rfl (go true rfl)
          | true =>
            rw [h3] at go
            refine ifT_neg rfl ?_
            rw [hrc, hic b hb, tBool_bool]
            exact go _ rfl
theorem tidy17_l2 (hn : up.length ≤ 512) {o : AVal} (hO : OTab o up) {a : Nat} (ha : a < up.length) (hl : val.length = up.length) (S : Small up val) (hV : Strss mV val) {L1 : AVal → AVal → AVal → AVal → Int → Heap → Prop} {t2 : AVal} {hb : Heap} {ro : Nat} {vU vV : AVal} {LU LV : List AVal}
    (hLU : LU.length ≤ 512) (hLV : LV.length ≤ 512)
    (hL : ∀ vU' vV' row cp h' hb' hb'', Grow 1 hb row (natV (tidyRow up a)) hb' → Grow 1 hb' cp ((val[a]'(by omega)).map .str) hb'' → MB hb'' ro vU' vV' (LU ++ [row]) (LV ++ [cp]) h' → L1 (.lptr [mU, mV]) t2 o (.ptr ro 0 0) (a + 1) h') :
    ∀ d b : Nat, b + d = up.length → ∀ row h hM, MB hb ro vU vV LU LV hM → Grow 1 hM row (natV ((List.range b).filter (coverB up a))) h → s41l2 K L1 (d + 1) (.lptr [mU, mV]) t2 o (.ptr ro 0 0) a row (b : Int) h
  | 0, b, hd, row, h, hM, M, g => by
    obtain rfl : b = up.length := by omega
    have ha' : a < val.length := by omega
    obtain ⟨hb', g1, M1⟩ := M.swap g
    unfold s41l2
    rw [hO.len]
    refine ifT_neg (by simp) ?_
    rw [addOff_ptr, M1.ldU]
    refine chk_iff.2 ⟨g.sc.1, M1.appU (by omega) (by omega) fun v1 h1 M2 => ?_⟩
    rw [addOff_ptr]
    refine chk_iff.2 ⟨M2.sc.1.1, M2.stU fun h2 M3 => ?_⟩
    rw [addOff_ptr, M3.ldV, addOff_lptr]
    simp only [List.drop_succ_cons, List.drop_zero, ld1_lptr]
    obtain ⟨ev, hev, hix⟩ := hV.ix ha'
    rw [hix, ld1_lptr]
    have hSn := S.names _ (List.getElem_mem ha')
    refine newRow_in fun r2 hr2 => ?_
    have M3' : h2 ro = some (.row 2 [.agg [v1, vV]]) := M3.get
    have hget : (h2.set r2 (.row 1 [])) ro = some (.row 2 [.agg [v1, vV]]) := Heap.set_sub hr2 _ _ M3'
    refine ⟨rfl, ⟨?_, ⟨?_, ?_⟩⟩⟩
    · trivial
    · rw [ld1_fld hget rfl]
    refine appC_copy hr2 (elemsA_of hev) (by simp; omega) (by simp; omega) fun cp h3 g2 => ?_
    have hget3 : h3 ro = some (.row 2 [.agg [v1, vV]]) := g2.old M3'
    refine ⟨by rw [ld1_fld hget3 rfl], chk_iff.2 ⟨g2.sc.1, ⟨by rw [ld1_fld hget3 rfl], ?_⟩⟩⟩
    obtain ⟨hb'', g3, M4⟩ := M3.swap g2
    refine M4.appV (by omega) (by omega) fun v2 h4 M5 => ?_
    rw [addOff_ptr]
    refine chk_iff.2 ⟨M5.sc.2.1, M5.stV fun h5 M6 => rg_of (by omega) (by omega) ?_⟩
    exact hL v1 v2 row cp h5 hb' hb'' g1 g3 M6
  | d + 1, b, hd, row, h, hM, M, g => by
    have hbn : b < up.length := by omega
    unfold s41l2
    rw [hO.len]
    refine ifT_pos (by simp; omega) ?_
    have hs := range_filter_succ (coverB up a) b
    have hle : (natV ((List.range b).filter (coverB up a))).length ≤ b := by
      rw [natV_len]
      have := List.length_filter_le (coverB up a) (List.range b)
      simpa using this
    have yes : coverB up a b = true → appC 1 8 h row (.lsl 1 [(.int .i64 (b : Int))]) fun v h' => s41c3 K L1 (s41l2_G (s41l2 K L1 (d + 1))) (.lptr [mU, mV]) t2 o (.ptr ro 0 0) a v b h' := by
      intro hc
      rw [hc, if_pos rfl] at hs
      refine appC_one g (by omega) (by omega) fun v' h' g' => rg_of (by omega) (by omega) (s41l2_go (tidy17_l2 hn hO ha hl S hV hLU hLV hL d (b + 1) (by omega) v' h' hM M ?_))
      rw [hs, natV_app]
      exact g'
    have no : coverB up a b = false → s41c3 K L1 (s41l2_G (s41l2 K L1 (d + 1))) (.lptr [mU, mV]) t2 o (.ptr ro 0 0) a row b h := by
      intro hc
      rw [hc] at hs
      refine rg_of (by omega) (by omega) (s41l2_go (tidy17_l2 hn hO ha hl S hV hLU hLV hL d (b + 1) (by omega) row h hM M ?_))
      rw [hs]
      simpa using g
    have run : ∀ next : Bool, next = startB up a b → s41c4 K L1 (s41l2_G (s41l2 K L1 (d + 1))) (.lptr [mU, mV]) t2 o (.ptr ro 0 0) a row b next h := by
      rintro next rfl
      refine s41l5_in (up.length + 1) (tidy17_l5 hn hO ha hbn yes no up.length 0 (by omega) _ (fun e => ⟨e, rfl⟩) fun e => ?_)
      unfold coverB
      rw [e, Bool.false_and]
    unfold startB at run
    by_cases hab : a = b
    · refine ifT_neg (by simp [hab]) (run false (by simp [hab]))
    · refine ifT_pos (by simp; omega) ?_
      obtain ⟨ea, hra, _, hia⟩ := hO.row (h' := h) ha
      rw [hra, hia b hbn, tBool_bool]
      exact run _ (by rw [show (a != b) = true by simpa using hab, Bool.true_and])
theorem tidy17_l1 (hn : up.length ≤ 512) {o : AVal} (hO : OTab o up) (hl : val.length = up.length) (S : Small up val) (hV : Strss mV val) {hb : Heap} {ro rt : Nat} {X : AVal} (hrt : hb rt = some (.row 2 [.agg [.nilsl, X]])) {h0 : Heap} (hsub : ∀ q o, h0 q = some o → q ≠ rt ∧ hb q = some o)
    (good : ∀ vU vV, Intss vU (tidyUp up) → Strss vV val → K (.tuple [.agg [vU, vV], .int .i64 0]) h0) :
    ∀ d a : Nat, a + d = up.length → ∀ vU vV LU LV h, MB hb ro vU vV LU LV h → All2 Ints LU ((tidyUp up).take a) → All2 Strs LV (val.take a) → s41l1 K (d + 1) (.lptr [mU, mV]) (.ptr rt 0 0) o (.ptr ro 0 0) (a : Int) h
  | 0, a, hd, vU, vV, LU, LV, h, M, aU, aV => by
    obtain rfl : a = up.length := by omega
    unfold s41l1
    rw [hO.len]
    refine ifT_neg (by simp) ?_
    rw [M.ld, tCons_cons, tCons_cons, tNil_nil]
    have M1 := M.upd (x := .row 2 [.agg [vU, vV]]) hrt
    refine st_all (M.old hrt) rfl ?_
    rw [ldN2 (Heap.set_same _ _ _), tCons_cons, tCons_cons, tNil_nil]
    obtain ⟨Sn, vU', vV', l1, l2, s1, s2, hS, hold⟩ := M1.freeze
    have hlen : (tidyUp up).length = up.length := by simp [tidyUp]
    rw [List.take_of_length_le (by omega)] at aU
    rw [List.take_of_length_le (by omega)] at aV
    refine ⟨Sn, _, h0, .tuple (.cons (.agg (.cons l1 (.cons l2 .nil))) (.cons (.refl _) .nil)), ⟨fun _ _ => trivial, fun q o hq => ⟨o, ?_, ?_, .refl o⟩⟩, good vU' vV' ⟨LU, s1, aU⟩ ⟨LV, s2, aV⟩⟩
    · obtain ⟨h1, h2⟩ := hsub q o hq
      exact hold q o (by rw [Heap.set_ne _ _ h1]; exact h2)
    · intro hs
      have h3 := hS q hs
      obtain ⟨h1, h2⟩ := hsub q o hq
      rw [Heap.set_ne _ _ h1, h2] at h3
      cases h3
  | d + 1, a, hd, vU, vV, LU, LV, h, M, aU, aV => by
    have ha : a < up.length := by omega
    have hlen : (tidyUp up).length = up.length := by simp [tidyUp]
    have hLU : LU.length ≤ 512 := by have := aU.length; simp at this; omega
    have hLV : LV.length ≤ 512 := by have := aV.length; simp at this; omega
    unfold s41l1
    rw [hO.len]
    refine ifT_pos (by simp; omega) (s41l2_in (up.length + 1) ?_)
    refine tidy17_l2 hn hO ha hl S hV hLU hLV (fun vU' vV' row cp h' hb' hb'' g1 g2 M' => ?_) up.length 0 (by omega) .nilsl h h M .nil
    obtain ⟨Sg, h2, row', cp', s1, s2, M2, hg⟩ := M'.settle g1 g2
    refine ⟨Sg, _, h2, Lits.refl _, hg, rfl, ?_⟩
    have := tidy17_l1 hn hO hl S hV hrt hsub good d (a + 1) (by omega) vU' vV' _ _ h2 M2 ?_ ?_
    · exact this
    · rw [List.take_succ_eq_append_getElem (by omega)]
      refine aU.append (.cons ?_ .nil)
      have hga : (tidyUp up)[a]'(by omega) = natI (tidyRow up a) := by simp [tidyUp]
      rw [hga]
      unfold Ints
      rwa [← natV_eq]
    · rw [List.take_succ_eq_append_getElem (by omega)]
      exact aV.append (.cons s2 .nil)
theorem tidy17_ok (S : Small up val) (hU : Intss mU up) (hV : Strss mV val) (bad : ¬ WF up val → K (.tuple [.agg [.nilsl, .nilsl], .int .i64 170]) h) (good : WF up val → ∀ vU vV, Intss vU (tidyUp up) → Strss vV val → K (.tuple [.agg [vU, vV], .int .i64 0]) h) :
    ACalls prog 41 [.agg [mU, mV]] h K := by
  refine s41_ok ?_
  unfold s41
  refine newRow_in fun rt hrt => callG_of (right_ok S hU hV (fun hW => ?_) fun hW o hO => ?_)
  · simp only [tTup_tuple, tCons_cons, tBool_bool, tNil_nil]
    refine ifT_pos rfl (st_all (Heap.set_same _ _ _) rfl ?_)
    rw [Heap.set_set, ldN2 (Heap.set_same _ _ _), tCons_cons, tCons_cons, tNil_nil]
    exact retG_drop (Heap.set_sub hrt) (bad hW)
  · simp only [tTup_tuple, tCons_cons, tBool_bool, tNil_nil]
    refine ifT_neg rfl (newRow_in fun ro hro => st_all (Heap.set_same _ _ _) rfl ?_)
    rw [Heap.set_set]
    refine s41l1_in (up.length + 1) (tidy17_l1 hW.max hO hW.len S hV (Heap.set_same _ _ _) (fun q o hq => ⟨(fun e => by rw [e, hrt] at hq; cases hq), Heap.set_sub hrt q o hq⟩) (good hW) up.length 0 (by omega) .nilsl .nilsl [] [] _ (MBs.start hro) ?_ ?_)
    · exact .nil
    · exact .nil
theorem tidyUp_congr {up up' : List (List Int)} (hl : up.length = up'.length) (h : ∀ a b, a < up.length → b < up.length → rb up a b = rb up' a b) : tidyUp up = tidyUp up' := by
  unfold tidyUp
  rw [← hl]
  refine List.map_congr_left fun a ha => ?_
  have ha' : a < up.length := List.mem_range.1 ha
  unfold tidyRow
  rw [← hl]
  congr 1
  refine List.filter_congr fun b hb => ?_
  have hb' : b < up.length := List.mem_range.1 hb
  unfold coverB startB
  rw [h a b ha' hb', ← hl]
  congr 1
  rw [Bool.eq_iff_iff, List.all_eq_true, List.all_eq_true]
  refine forall_congr' fun c => forall_congr' fun hc => ?_
  have hc' : c < up.length := List.mem_range.1 hc
  unfold okc
  rw [h a c ha' hc', h c b hc' hb']
end Go.Proofs.YtljglglbfcgjpaaGreat

namespace Go.Proofs.YtljglglbfcgjpaaGreat
open Go Go.Sym Go.Proofs.Tryz
variable {K : AVal → Heap → Prop} {h h0 hb : Heap} {n : Nat} {r : Nat → Nat → Bool}
/- ---------------- plain: the rows with each world itself ---------------- -/
def pRowD (n : Nat) (r : Nat → Nat → Bool) (w : Nat) : List Nat := (List.range (primesL n r).length).filter fun v => r ((primesL n r).getD v 0) ((primesL n r).getD w 0)
def pUpD (n : Nat) (r : Nat → Nat → Bool) : List (List Int) := (List.range (primesL n r).length).map fun w => natI (pRowD n r w)
theorem pUpD_len : (pUpD n r).length = (primesL n r).length := by simp [pUpD]
theorem pStepD {a b : Nat} : Step (pUpD n r) a b ↔ a < (primesL n r).length ∧ b < (primesL n r).length ∧ r ((primesL n r).getD b 0) ((primesL n r).getD a 0) = true := by
  unfold Step
  constructor
  · rintro ⟨row, h1, h2⟩
    have ha : a < (primesL n r).length := by have := (List.getElem?_eq_some_iff.1 h1).1; rwa [pUpD_len] at this
    unfold pUpD at h1
    rw [range_get _ ha] at h1
    cases h1
    obtain ⟨c, hc, e⟩ := mem_natI.1 h2
    have : b = c := by omega
    subst this
    unfold pRowD at hc
    rw [List.mem_filter, List.mem_range] at hc
    exact ⟨ha, hc⟩
  · rintro ⟨ha, hb⟩
    refine ⟨natI (pRowD n r a), range_get _ ha, mem_natI.2 ⟨b, ?_, rfl⟩⟩
    unfold pRowD
    rw [List.mem_filter, List.mem_range]
    exact hb
section
variable (A : Lat n r)
include A
theorem pReachD {a b : Nat} (ha : a < (primesL n r).length) : Reach (pUpD n r) a b ↔ Reach (pUp n r) a b := by
  constructor
  · intro h
    induction h with
    | refl => exact .refl
    | tail _ hs ih =>
      obtain ⟨h1, h2, h4⟩ := pStepD.1 hs
      exact ih.trans ((pReach A h1).2 ⟨h2, h4⟩)
  · intro h
    induction h with
    | refl => exact .refl
    | tail _ hs ih =>
      obtain ⟨h1, h2, _, h4⟩ := pStep.1 hs
      exact .tail ih (pStepD.2 ⟨h1, h2, h4⟩)
theorem pTidyD : tidyUp (pUpD n r) = tidyUp (pUp n r) := by
  refine tidyUp_congr (by rw [pUpD_len, pUp_len]) fun a b ha hb => ?_
  rw [pUpD_len] at ha
  rw [Bool.eq_iff_iff, rb_iff, rb_iff]
  exact pReachD A ha
theorem pWFD (hn : n ≤ 64) (h1 : (primesL n r).length ≠ 0) : WF (pUpD n r) (pVal n r) := by
  have W := pWF A hn h1
  refine ⟨by rw [pUpD_len]; omega, by have := W.max; rw [pUp_len] at this; rw [pUpD_len]; exact this, by rw [pUpD_len]; simp [pVal], fun row hr b hb => ?_, W.fine, fun a b ha hb h hne => ?_⟩
  · obtain ⟨i, hi, rfl⟩ := List.mem_iff_getElem.1 hr
    have hi' : i < (primesL n r).length := by rwa [pUpD_len] at hi
    have e : (pUpD n r)[i] = natI (pRowD n r i) := by simp [pUpD]
    rw [e] at hb
    obtain ⟨c, hc, rfl⟩ := mem_natI.1 hb
    unfold pRowD at hc
    rw [List.mem_filter, List.mem_range] at hc
    rw [pUpD_len]
    omega
  · rw [pUpD_len] at ha hb
    obtain ⟨c1, c2⟩ := W.cond a b (by rw [pUp_len]; exact ha) (by rw [pUp_len]; exact hb) ((pReachD A ha).1 h) hne
    exact ⟨fun h' => c1 ((pReachD A hb).1 h'), c2⟩
end
theorem pSmallD (hn : n ≤ 64) : Small (pUpD n r) (pVal n r) := by
  have S := pSmall (r := r) hn
  refine ⟨by have := S.ups; rw [pUp_len] at this; rw [pUpD_len]; exact this, S.vals, fun row hr => ?_, S.names⟩
  obtain ⟨i, hi, rfl⟩ := List.mem_iff_getElem.1 hr
  have e : (pUpD n r)[i] = natI (pRowD n r i) := by simp [pUpD]
  rw [e]
  have := List.length_filter_le (fun v => r ((primesL n r).getD v 0) ((primesL n r).getD i 0)) (List.range (primesL n r).length)
  simp only [List.length_range] at this
  have hl := primes_le (n := n) (r := r)
  unfold natI pRowD
  rw [List.length_map]
  omega
/- ---------------- the search ---------------- -/
def noSplit (n : Nat) (r : Nat → Nat → Bool) (x y z : Nat) : Prop := ∀ a b, a < n → b < n → (a < y ∨ a = y ∧ b < z) → ¬ (jn n r a b = x ∧ a ≠ x ∧ b ≠ x)
theorem noSplit_all {x : Nat} (low : Bool) : (low = true ∧ noSplit n r x n 0) ↔ (low && !splitB n r x) = true := by
  rw [Bool.and_eq_true, Bool.not_eq_true']
  refine and_congr_right fun _ => ?_
  constructor
  · intro h
    cases e : splitB n r x with
    | false => rfl
    | true =>
      obtain ⟨y, z, hy, hz, e1, e2, e3⟩ := lat_split e
      exact absurd ⟨e1, e2, e3⟩ (h y z hy hz (.inl hy))
  · intro h a b ha hb _ hc
    rcases lat_nosplit h ha hb hc.1 with e | e
    · exact hc.2.1 e
    · exact hc.2.2 e
section
variable {v a vM vJ : AVal} {L : List (List Bool)} (H : HP v L a vM vJ) (hs : Sq L) (hn : L.length ≤ 64) (h1 : 1 ≤ L.length)
include H hs hn h1
omit hs in
theorem primesD_l4 {lo l : AVal} {low : Int} {x y : Nat} (hx : x < L.length) (hy : y < L.length) {c : Bool} {L1 : s14l1_T} {L3 : s14l3_T}
    (next : ∀ is : Bool, (is = true ↔ c = true ∧ noSplit L.length (at2 L) x (y + 1) 0) → L3 lo v low l (x : Int) is ((y : Int) + 1) h) :
    ∀ d z : Nat, z + d = L.length → ∀ is : Bool, (is = true ↔ c = true ∧ noSplit L.length (at2 L) x y z) → s14l4 K L1 L3 (d + 1) lo v low l (x : Int) is (y : Int) (z : Int) h
  | 0, z, hd, is, hi => by
    obtain rfl : z = L.length := by omega
    obtain ⟨rfl, ha, _, _⟩ := H
    unfold s14l4
    simp only [nilCk_lptr, addOff_lptr, List.drop_zero, ld1_lptr]
    rw [ha.len]
    refine ifT_neg (by simp) (rg_of (by omega) (by omega) (next is ?_))
    rw [hi]
    refine and_congr_right fun _ => ?_
    unfold noSplit
    constructor
    · intro g a b ha hb h
      exact g a b ha hb (by omega)
    · intro g a b ha hb h
      exact g a b ha hb (by omega)
  | d + 1, z, hd, is, hi => by
    have hz : z < L.length := by omega
    have step : ∀ b : Bool, (b = true ↔ c = true ∧ noSplit L.length (at2 L) x y (z + 1)) → s14c5 K L1 L3 (s14l4_G (s14l4 K L1 L3 (d + 1))) lo v low l (x : Int) b (y : Int) (z : Int) h := fun b hb => by
      unfold s14c5
      exact rg_of (by omega) (by omega) (s14l4_go (primesD_l4 hx hy next d (z + 1) (by omega) b hb))
    have c6 : ∀ t : Bool, (t = true ↔ jn L.length (at2 L) y z = x ∧ y ≠ x ∧ z ≠ x) → s14c6 K L1 L3 (s14l4_G (s14l4 K L1 L3 (d + 1))) lo v low l (x : Int) is (y : Int) (z : Int) t h := fun t ht => by
      unfold s14c6
      cases t with
      | true =>
        refine ifT_pos rfl (step false ?_)
        refine ⟨(fun e => by cases e), fun ⟨_, g⟩ => (g y z hy hz (.inr ⟨rfl, by omega⟩) (ht.1 rfl)).elim⟩
      | false =>
        refine ifT_neg rfl (step is ?_)
        rw [hi]
        refine and_congr_right fun _ => ?_
        constructor
        · intro g a b ha hb hc
          by_cases e : a = y ∧ b = z
          · obtain ⟨rfl, rfl⟩ := e
            intro hq
            have := ht.2 hq
            cases this
          · exact g a b ha hb (by omega)
        · intro g a b ha hb hc
          exact g a b ha hb (by omega)
    obtain ⟨em, m1, m2⟩ := tab_rd (c := jn L.length (at2 L)) H.j hy
    obtain ⟨rfl, ha, _, _⟩ := H
    unfold s14l4
    simp only [nilCk_lptr, addOff_lptr, List.drop_succ_cons, List.drop_zero, ld1_lptr]
    rw [ha.len]
    refine ifT_pos (by simp; omega) ?_
    by_cases e1 : y = x
    · exact ifT_neg (by simp [e1]) (c6 false ⟨(fun e => by cases e), fun e => absurd e1 e.2.1⟩)
    · refine ifT_pos (by simp; omega) ?_
      by_cases e2 : z = x
      · exact ifT_neg (by simp [e2]) (c6 false ⟨(fun e => by cases e), fun e => absurd e2 e.2.2⟩)
      · refine ifT_pos (by simp; omega) ?_
        rw [m1, m2 z hz, tInt_int]
        refine c6 _ ?_
        rw [beq_iff_eq]
        constructor
        · exact fun e => ⟨by omega, e1, e2⟩
        · exact fun e => by rw [e.1]
omit hs in
theorem primesD_l3 {lo l : AVal} {low : Int} {x : Nat} (hx : x < L.length) {c : Bool} {L1 : s14l1_T} {os : List Ow} (hO : Own h0 (os ++ [.slc 1 l ((natI ((List.range x).filter (primeB L.length (at2 L)))).map (.int .i64))]) h) (hc : primeB L.length (at2 L) x = (c && !splitB L.length (at2 L) x))
    (next : ∀ l' h', Own h0 (os ++ [.slc 1 l' ((natI ((List.range (x + 1)).filter (primeB L.length (at2 L)))).map (.int .i64))]) h' → L1 lo v low l' ((x : Int) + 1) h') :
    ∀ d y : Nat, y + d = L.length → ∀ is : Bool, (is = true ↔ c = true ∧ noSplit L.length (at2 L) x y 0) → s14l3 K L1 (d + 1) lo v low l (x : Int) is (y : Int) h
  | 0, y, hd, is, hi => by
    obtain rfl : y = L.length := by omega
    have hi2 : is = primeB L.length (at2 L) x := by
      rw [hc, Bool.eq_iff_iff, hi, noSplit_all]
    have hj : (os ++ [Ow.slc 1 l ((natI ((List.range x).filter (primeB L.length (at2 L)))).map (.int .i64))])[os.length]? = some (.slc 1 l ((natI ((List.range x).filter (primeB L.length (at2 L)))).map (.int .i64))) := by simp
    have hsr := range_filter_succ (primeB L.length (at2 L)) x
    have hlen : ((natI ((List.range x).filter (primeB L.length (at2 L)))).map (AVal.int .i64)).length ≤ x := by
      rw [List.length_map]
      unfold natI
      rw [List.length_map]
      have := List.length_filter_le (primeB L.length (at2 L)) (List.range x)
      simpa using this
    obtain ⟨rfl, ha, _, _⟩ := H
    unfold s14l3
    simp only [nilCk_lptr, addOff_lptr, List.drop_zero, ld1_lptr]
    rw [ha.len]
    refine ifT_neg (by simp) ?_
    rw [hi2]
    cases e : primeB L.length (at2 L) x with
    | true =>
      rw [e, if_pos rfl] at hsr
      refine ifT_pos rfl (hO.app hj (by omega) (by omega) fun v2 h2 O2 => ?_)
      unfold s14c2
      refine rg_of (by omega) (by omega) (next v2 h2 ?_)
      rw [List.set_append_right _ _ (Nat.le_refl _), Nat.sub_self] at O2
      rw [hsr, show natI ((List.range x).filter (primeB L.length (at2 L)) ++ [x]) = natI ((List.range x).filter (primeB L.length (at2 L))) ++ [(x : Int)] by simp [natI], List.map_append]
      exact O2
    | false =>
      rw [e, if_neg (by decide), List.append_nil] at hsr
      refine ifT_neg rfl ?_
      unfold s14c2
      refine rg_of (by omega) (by omega) (next l h ?_)
      rw [hsr]
      exact hO
  | d + 1, y, hd, is, hi => by
    have hy : y < L.length := by omega
    have key := fun nx => primesD_l4 (K := K) (h := h) H hn h1 (lo := lo) (l := l) (low := low) hx hy (c := c) (L1 := L1) (L3 := s14l3_G (s14l3 K L1 (d + 1))) nx L.length 0 (by omega) is hi
    have rec' : ∀ is : Bool, (is = true ↔ c = true ∧ noSplit L.length (at2 L) x (y + 1) 0) → s14l3_G (s14l3 K L1 (d + 1)) lo v low l (x : Int) is ((y : Int) + 1) h := fun is' hi' => s14l3_go (primesD_l3 hx hO hc next d (y + 1) (by omega) is' hi')
    have K2 := key rec'
    obtain ⟨rfl, ha, _, _⟩ := H
    unfold s14l3
    simp only [nilCk_lptr, addOff_lptr, List.drop_zero, ld1_lptr]
    rw [ha.len]
    exact ifT_pos (by simp; omega) (s14l4_in (L.length + 1) K2)
/- ---------------- the rows ---------------- -/
theorem primesD_l8 {rt r1 : Nat} {X Y ev : AVal} (he : Ints ev (natI (primesL L.length (at2 L)))) {w : Nat} (hw : w < (primesL L.length (at2 L)).length) {vU vV : AVal} {LU LV : List AVal} (hLU : LU.length ≤ 64) (hLV : LV.length ≤ 64) {L7 : s14l7_T}
    (next : ∀ vU' vV' row h', Ints row (natI (pRowD L.length (at2 L) w)) → Own h0 [.cell rt (.row 2 [.agg [X, Y]]), .cell r1 (.row 2 [.agg [vU', vV']]), .slc 1 vU' (LU ++ [row]), .slc 1 vV' (LV ++ [.nilsl])] h' → L7 (.ptr rt 0 0) v ev (.ptr r1 0 0) ((w : Int) + 1) h') :
    ∀ d u : Nat, u + d = (primesL L.length (at2 L)).length → ∀ row h, Own h0 [.cell rt (.row 2 [.agg [X, Y]]), .cell r1 (.row 2 [.agg [vU, vV]]), .slc 1 vU LU, .slc 1 vV LV, .slc 1 row ((natI ((List.range u).filter fun u => at2 L ((primesL L.length (at2 L)).getD u 0) ((primesL L.length (at2 L)).getD w 0))).map (.int .i64))] h →
      s14l8 K (s14l7_G L7) (d + 1) (.ptr rt 0 0) v ev (.ptr r1 0 0) (w : Int) row (u : Int) h
  | 0, u, hd, row, h, W => by
    obtain rfl : u = (primesL L.length (at2 L)).length := by omega
    have hle := primes_le (n := L.length) (r := at2 L)
    unfold s14l8
    rw [he.len]
    refine ifT_neg (by simp [natI]) ?_
    rw [addOff_ptr, ld1_fld (W.get 1 _ r1 rfl rfl) rfl]
    refine chk_iff.2 ⟨(W.sc (i := 4) rfl).1, W.app (i := 2) rfl (by omega) (by omega) fun v2 h2 W2 => ?_⟩
    rw [addOff_ptr]
    refine chk_iff.2 ⟨(W2.sc (i := 2) rfl).1, st_fst (W2.get 1 _ r1 rfl rfl) ?_⟩
    have W3 := W2.put (i := 1) rfl (.row 2 [.agg [v2, vV]])
    rw [addOff_ptr, ld1_fld (W3.get 1 _ r1 rfl rfl) rfl]
    refine W3.app (i := 3) rfl (by omega) (by omega) fun v3 h3 W4 => ?_
    rw [addOff_ptr]
    refine chk_iff.2 ⟨(W4.sc (i := 3) rfl).1, st_snd (W4.get 1 _ r1 rfl rfl) (rg_of (by omega) (by omega) ?_)⟩
    have W5 : Own h0 ([.cell rt (.row 2 [.agg [X, Y]]), .cell r1 (.row 2 [.agg [v2, v3]]), .slc 1 v2 (LU ++ [row]), .slc 1 v3 (LV ++ [.nilsl])] ++ [.slc 1 row ((natI (pRowD L.length (at2 L) w)).map (.int .i64))]) _ := W4.put (i := 1) rfl (.row 2 [.agg [v2, v3]])
    obtain ⟨S, h', row', s1, g, W6⟩ := W5.settleL (i := 2) rfl
    exact ⟨S, _, h', Lits.refl _, g, rfl, next v2 v3 row' h' s1 W6⟩
  | d + 1, u, hd, row, h, W => by
    have hu : u < (primesL L.length (at2 L)).length := by omega
    have hle := primes_le (n := L.length) (r := at2 L)
    have hsr := range_filter_succ (fun u => at2 L ((primesL L.length (at2 L)).getD u 0) ((primesL L.length (at2 L)).getD w 0)) u
    have hlen : ((natI ((List.range u).filter fun u => at2 L ((primesL L.length (at2 L)).getD u 0) ((primesL L.length (at2 L)).getD w 0))).map (AVal.int .i64)).length ≤ u := by
      rw [List.length_map]
      unfold natI
      rw [List.length_map]
      have := List.length_filter_le (fun u => at2 L ((primesL L.length (at2 L)).getD u 0) ((primesL L.length (at2 L)).getD w 0)) (List.range u)
      simpa using this
    have step : ∀ (row' : AVal) (h' : Heap), Own h0 [.cell rt (.row 2 [.agg [X, Y]]), .cell r1 (.row 2 [.agg [vU, vV]]), .slc 1 vU LU, .slc 1 vV LV, .slc 1 row' ((natI ((List.range (u + 1)).filter fun u => at2 L ((primesL L.length (at2 L)).getD u 0) ((primesL L.length (at2 L)).getD w 0))).map (.int .i64))] h' →
        s14c9 K (s14l7_G L7) (s14l8_G (s14l8 K (s14l7_G L7) (d + 1))) (.ptr rt 0 0) v ev (.ptr r1 0 0) (w : Int) row' (u : Int) h' := fun row' h' W' => by
      unfold s14c9
      exact rg_of (by omega) (by omega) (s14l8_go (primesD_l8 (vU := vU) (vV := vV) he hw hLU hLV next d (u + 1) (by omega) row' h' W'))
    have hpu := (prime_at hu).1
    have hpw := (prime_at hw).1
    obtain ⟨rfl, ha, _, _⟩ := H
    obtain ⟨ex, a1, _, a2⟩ := ha.rd hs hpu
    unfold s14l8
    rw [he.len]
    refine ifT_pos (by simp [natI]; omega) ?_
    simp only [nilCk_lptr, addOff_lptr, List.drop_zero, ld1_lptr]
    rw [he.ix (i := u) (by simpa [natI] using hu), ld1_lptr, show (natI (primesL L.length (at2 L)))[u]'(by simpa [natI] using hu) = (((primesL L.length (at2 L))[u] : Nat) : Int) by simp [natI], tInt_int, a1]
    rw [he.ix (i := w) (by simpa [natI] using hw), ld1_lptr, show (natI (primesL L.length (at2 L)))[w]'(by simpa [natI] using hw) = (((primesL L.length (at2 L))[w] : Nat) : Int) by simp [natI], tInt_int, a2 _ hpw, tBool_bool]
    have hpe : at2 L ((primesL L.length (at2 L)).getD u 0) ((primesL L.length (at2 L)).getD w 0) = at2 L (primesL L.length (at2 L))[u] (primesL L.length (at2 L))[w] := by rw [pL_get hu, pL_get hw]
    rw [hpe] at hsr
    cases e : at2 L (primesL L.length (at2 L))[u] (primesL L.length (at2 L))[w] with
    | true =>
      rw [e, if_pos rfl] at hsr
      refine ifT_pos rfl (W.app (i := 4) rfl (by omega) (by omega) fun v2 h2 W2 => step v2 h2 ?_)
      rw [hsr, show natI ((List.range u).filter (fun u => at2 L ((primesL L.length (at2 L)).getD u 0) ((primesL L.length (at2 L)).getD w 0)) ++ [u]) = natI ((List.range u).filter fun u => at2 L ((primesL L.length (at2 L)).getD u 0) ((primesL L.length (at2 L)).getD w 0)) ++ [(u : Int)] by simp [natI], List.map_append]
      exact W2
    | false =>
      rw [e, if_neg (by decide), List.append_nil] at hsr
      refine ifT_neg rfl (step row h ?_)
      rw [hsr]
      exact W
theorem primesD_l7 (A : Lat L.length (at2 L)) (hp : (primesL L.length (at2 L)).length ≠ 0) {rt r1 : Nat} {X Y ev : AVal} (he : Ints ev (natI (primesL L.length (at2 L)))) (good : ∀ vU vV, Intss vU (tidyUp (pUp L.length (at2 L))) → Strss vV (pVal L.length (at2 L)) → K (.tuple [.agg [vU, vV], ev, .int .i64 0]) h0) :
    ∀ d w : Nat, w + d = (primesL L.length (at2 L)).length → ∀ vU vV LU LV h, All2 Ints LU ((pUpD L.length (at2 L)).take w) → All2 Strs LV ((pVal L.length (at2 L)).take w) → Own h0 [.cell rt (.row 2 [.agg [X, Y]]), .cell r1 (.row 2 [.agg [vU, vV]]), .slc 1 vU LU, .slc 1 vV LV] h →
      s14l7 K (d + 1) (.ptr rt 0 0) v ev (.ptr r1 0 0) (w : Int) h
  | 0, w, hd, vU, vV, LU, LV, h, aU, aV, W => by
    obtain rfl : w = (primesL L.length (at2 L)).length := by omega
    rw [List.take_of_length_le (by rw [pUpD_len]; omega)] at aU
    rw [List.take_of_length_le (by simp [pVal])] at aV
    unfold s14l7
    rw [he.len]
    refine ifT_neg (by simp [natI]) ?_
    rw [ldN2 (W.get 1 _ r1 rfl rfl), tCons_cons, tCons_cons, tNil_nil]
    let Sg : Nat → Prop := fun q => nameOf vU q ∨ nameOf vV q
    obtain ⟨u', l1, s1⟩ := W.lit (i := 2) rfl (S := Sg) (fun q hq => .inl hq) (Lits.refl LU)
    obtain ⟨v', l2, s2⟩ := W.lit (i := 3) rfl (S := Sg) (fun q hq => .inr hq) (Lits.refl LV)
    have no : ∀ (j : Nat) (y : Ow), j < 2 → ([.cell rt (.row 2 [.agg [X, Y]]), .cell r1 (.row 2 [.agg [vU, vV]]), .slc 1 vU LU, .slc 1 vV LV] : List Ow)[j]? = some y → ∀ q, y.nm q → ¬ Sg q := fun j y hj hy q hq hs => by
      rcases hs with hs | hs
      · have := W.one j 2 y _ q hy rfl hq hs; omega
      · have := W.one j 3 y _ q hy rfl hq hs; omega
    obtain ⟨h', g, W2⟩ := W.step Sg [.cell rt (.row 2 [.agg [X, Y]])] (fun q hq => by
      rcases hq with hq | hq
      · exact W.new 2 _ q rfl hq
      · exact W.new 3 _ q rfl hq) (fun j y' hj => by
      match j, hj with
      | 0, hj => cases hj; exact ⟨_, rfl, trivial, fun q hq => ⟨hq, no 0 _ (by omega) rfl q hq⟩, .refl _⟩
      | j + 1, hj => simp at hj)
    refine ⟨Sg, [.agg [u', v']], h', .cons (.agg (.cons l1 (.cons l2 .nil))) .nil, g, ?_⟩
    refine tidy17_ok (pSmallD hn) ⟨LU, s1, aU⟩ ⟨LV, s2, aV⟩ (fun hb => absurd (pWFD A hn hp) hb) fun _ tU tV hU hV => ?_
    rw [pTidyD A] at hU
    rw [tTup_tuple, tCons_cons, tCons_cons, tInt_int, tNil_nil, tAgg_agg, tCons_cons, tCons_cons, tNil_nil]
    refine newRow_in fun r2 hr2 => ?_
    have W3 := W2.newC hr2 (.row 2 [.agg [.nilsl, .nilsl]])
    refine st_all (W3.get 1 _ r2 rfl rfl) rfl ?_
    have W4 := W3.put (i := 1) rfl (.row 2 [.agg [tU, tV]])
    rw [ldN2 (W4.get 1 _ r2 rfl rfl), tCons_cons, tCons_cons, tNil_nil]
    refine st_all (W4.get 0 _ rt rfl rfl) rfl ?_
    have W5 := W4.put (i := 0) rfl (.row 2 [.agg [tU, tV]])
    rw [ldN2 (W5.get 0 _ rt rfl rfl), tCons_cons, tCons_cons, tNil_nil]
    exact retG_drop W5.old (good tU tV hU hV)
  | d + 1, w, hd, vU, vV, LU, LV, h, aU, aV, W => by
    have hw : w < (primesL L.length (at2 L)).length := by omega
    have hle := primes_le (n := L.length) (r := at2 L)
    have lU : LU.length ≤ 64 := by have := aU.length; rw [List.length_take] at this; omega
    have lV : LV.length ≤ 64 := by have := aV.length; rw [List.length_take] at this; omega
    unfold s14l7
    rw [he.len]
    refine ifT_pos (by simp [natI]; omega) ?_
    refine s14l8_in ((primesL L.length (at2 L)).length + 1) (primesD_l8 (vU := vU) (vV := vV) H hs hn h1 he hw lU lV (fun vU' vV' row h' hr W' => ?_) (primesL L.length (at2 L)).length 0 (by omega) .nilsl h (W.newN 1))
    refine primesD_l7 A hp he good d (w + 1) (by omega) vU' vV' _ _ h' ?_ ?_ W'
    · rw [List.take_add_one, show (pUpD L.length (at2 L))[w]? = some (natI (pRowD L.length (at2 L) w)) from range_get _ hw]
      exact aU.append (.cons hr .nil)
    · rw [List.take_add_one, show (pVal L.length (at2 L))[w]? = some [] by simp [pVal, hw]]
      exact aV.append (.cons (.nil 1) .nil)
theorem primesD_l1 (A : Lat L.length (at2 L)) {rt : Nat} {X Y : AVal} (few : (primesL L.length (at2 L)).length = 0 → K (.tuple [.agg [.nilsl, .nilsl], .nilsl, .int .i64 231]) h0)
    (good : (primesL L.length (at2 L)).length ≠ 0 → ∀ vU vV ev, Intss vU (tidyUp (pUp L.length (at2 L))) → Strss vV (pVal L.length (at2 L)) → Ints ev (natI (primesL L.length (at2 L))) → K (.tuple [.agg [vU, vV], ev, .int .i64 0]) h0) :
    ∀ d x : Nat, x + d = L.length → ∀ l h, Own h0 ([.cell rt (.row 2 [.agg [X, Y]])] ++ [.slc 1 l ((natI ((List.range x).filter (primeB L.length (at2 L)))).map (.int .i64))]) h →
      s14l1 K (d + 1) (.ptr rt 0 0) v ((lowP L.length (at2 L) : Nat) : Int) l (x : Int) h
  | 0, x, hd, l, h, W => by
    obtain rfl : x = L.length := by omega
    have hle := primes_le (n := L.length) (r := at2 L)
    have hlen : ((natI ((List.range L.length).filter (primeB L.length (at2 L)))).map (AVal.int .i64)).length = (primesL L.length (at2 L)).length := by simp [natI, primesL]
    have H' := H
    obtain ⟨rfl, ha, _, _⟩ := H
    unfold s14l1
    simp only [nilCk_lptr, addOff_lptr, List.drop_zero, ld1_lptr]
    rw [ha.len]
    refine ifT_neg (by simp) ?_
    rw [W.len (i := 1) rfl, hlen]
    by_cases e : (primesL L.length (at2 L)).length = 0
    · refine ifT_pos (by simp [e]) (st_all (W.get 0 _ rt rfl rfl) rfl ?_)
      have W2 := W.put (i := 0) rfl (.row 2 [.agg [.nilsl, .nilsl]])
      rw [ldN2 (W2.get 0 _ rt rfl rfl), tCons_cons, tCons_cons, tNil_nil]
      exact retG_drop W2.old (few e)
    · refine ifT_neg (by rw [beq_eq_false_iff_ne]; omega) (newRow_in fun r1 hr1 => ?_)
      have W2 := W.newC hr1 (.row 2 [.agg [.nilsl, .nilsl]])
      refine st_all (W2.get 2 _ r1 rfl rfl) rfl ?_
      have W2b := W2.put (i := 2) rfl (.row 2 [.agg [.nilsl, .nilsl]])
      have W3 : Own h0 ([.cell rt (.row 2 [.agg [X, Y]]), .cell r1 (.row 2 [.agg [.nilsl, .nilsl]])] ++ [.slc 1 l ((natI (primesL L.length (at2 L))).map (.int .i64))]) _ := W2b.renum _ (fun j => if j = 1 then 2 else if j = 2 then 1 else j) (fun j y hj => by
        match j, hj with
        | 0, hj => exact hj
        | 1, hj => exact hj
        | 2, hj => exact hj
        | j + 3, hj => simp at hj) (show ∀ j, j < 3 → ∀ k, k < 3 → _ = _ → j = k by decide)
      obtain ⟨Sg, h', ev', l1, s1, g, W4⟩ := Own.frzL W3
      have W5 := (W4.newN 1).newN 1
      refine ⟨Sg, [.ptr rt 0 0, .lptr [a, vM, vJ], ev', .ptr r1 0 0, .int .i64 0], h', .cons (.refl _) (.cons (.refl _) (.cons l1 (Lits.refl _))), g, rfl, (primesL L.length (at2 L)).length + 1, ?_⟩
      exact primesD_l7 H' hs hn h1 A e s1 (fun vU vV hU hV => good e vU vV ev' hU hV s1) (primesL L.length (at2 L)).length 0 (by omega) .nilsl .nilsl [] [] h' .nil .nil W5
  | d + 1, x, hd, l, h, W => by
    have hx : x < L.length := by omega
    have hc : primeB L.length (at2 L) x = (((x : Int) != ((lowP L.length (at2 L) : Nat) : Int)) && !splitB L.length (at2 L) x) := by
      unfold primeB
      congr 1
      rw [Bool.eq_iff_iff, bne_iff_ne, bne_iff_ne]
      omega
    have key := primesD_l3 (K := K) H hn h1 (lo := .ptr rt 0 0) (low := ((lowP L.length (at2 L) : Nat) : Int)) hx (L1 := s14l1_G (s14l1 K (d + 1))) W hc (fun l' h' W' => s14l1_go (primesD_l1 A few good d (x + 1) (by omega) l' h' W')) L.length 0 (by omega) ((x : Int) != ((lowP L.length (at2 L) : Nat) : Int)) ⟨fun e => ⟨e, fun a b _ _ hab => by omega⟩, fun e => e.1⟩
    obtain ⟨rfl, ha, _, _⟩ := H
    unfold s14l1
    simp only [nilCk_lptr, addOff_lptr, List.drop_zero, ld1_lptr]
    rw [ha.len]
    exact ifT_pos (by simp; omega) (s14l3_in (L.length + 1) key)
end
theorem primesD_ok {a : AVal} {L : List (List Bool)} (A : AlgV a L) (no : algP L = false → K (.tuple [.agg [.nilsl, .nilsl], .nilsl, .int .i64 230]) h)
    (few : algP L = true → (primesL L.length (at2 L)).length = 0 → K (.tuple [.agg [.nilsl, .nilsl], .nilsl, .int .i64 231]) h)
    (good : algP L = true → (primesL L.length (at2 L)).length ≠ 0 → ∀ vU vV ev, Intss vU (tidyUp (pUp L.length (at2 L))) → Strss vV (pVal L.length (at2 L)) → Ints ev (natI (primesL L.length (at2 L))) → K (.tuple [.agg [vU, vV], ev, .int .i64 0]) h) :
    ACalls prog 14 [.agg [a]] h K := by
  refine s14_ok ?_
  unfold s14
  refine newRow_in fun rt hrt => ?_
  have W0 := (Own.start h).newC hrt (.row 2 [.agg [.nilsl, .nilsl]])
  refine callG_of (ofD_ok A.v (fun e => ?_) fun e v vM vJ H => ?_)
  · rw [tTup_tuple, tCons_cons, tCons_cons, tBool_bool, tNil_nil]
    refine ifT_pos rfl (st_all (W0.get 0 _ rt rfl rfl) rfl ?_)
    have W2 := W0.put (i := 0) rfl (.row 2 [.agg [.nilsl, .nilsl]])
    rw [ldN2 (W2.get 0 _ rt rfl rfl), tCons_cons, tCons_cons, tNil_nil]
    exact retG_drop W2.old (no e)
  · rw [tTup_tuple, tCons_cons, tCons_cons, tBool_bool, tNil_nil]
    obtain ⟨hs, h1, hn⟩ := algP_sq e
    have AL := lat_of e
    refine ifT_neg rfl (callG_of (boundsD_ok H hs hn h1 AL ?_))
    rw [tTup_tuple, tCons_cons, tInt_int, tCons_cons, tInt_int, tNil_nil]
    exact s14l1_in (L.length + 1) (primesD_l1 H hs hn h1 AL (few e) (good e) L.length 0 (by omega) .nilsl _ (W0.newN 1))
end Go.Proofs.YtljglglbfcgjpaaGreat

namespace Go.Proofs.YtljglglbfcgjpaaGreat
open Go Go.Sym Go.Proofs.Tryz
variable {K : AVal → Heap → Prop} {h : Heap} {up up' : List (List Int)} {val val' : List (List ByteArray)} {mU mV nU nV : AVal}
theorem same_l3 (S : Small up val) (hV : Strss mV val) (hV' : Strss nV val') (hl : val.length = val'.length) : ∀ d i : Nat, i + d = val.length → K (.bool (decide (val.drop i = val'.drop i))) h → s17l3 K (d + 1) (.lptr [mU, mV]) (.lptr [nU, nV]) (i : Int) h
  | 0, i, hd, hk => by
    unfold s17l3
    rw [addOff_lptr]
    simp only [List.drop_succ_cons, List.drop_zero, ld1_lptr]
    rw [hV.len]
    refine ifT_neg (by simp; omega) (retG_of ?_)
    rw [List.drop_eq_nil_of_le (by omega), List.drop_eq_nil_of_le (by omega)] at hk
    simpa using hk
  | d + 1, i, hd, hk => by
    have hi : i < val.length := by omega
    have hi' : i < val'.length := by omega
    have hSv := S.vals
    have hSn := (S.names _ (List.getElem_mem hi)).2
    obtain ⟨e1, h1, ix1⟩ := hV.ix hi
    obtain ⟨e2, h2, ix2⟩ := hV'.ix hi'
    unfold s17l3
    rw [addOff_lptr]
    simp only [List.drop_succ_cons, List.drop_zero, ld1_lptr]
    rw [hV.len]
    refine ifT_pos (by simp; omega) ?_
    simp only [addOff_lptr, List.drop_succ_cons, List.drop_zero, ld1_lptr, ix1, ix2]
    refine callG_of (names_ok h1 h2 (by omega) ?_)
    rw [tBool_bool]
    rw [drop_eq_step hi hi'] at hk
    by_cases he : val[i] = val'[i]
    · refine ifT_neg (by simp [he]) (rg_of (by omega) (by omega) (s17l3_go (same_l3 S hV hV' hl d (i + 1) (by omega) (by simpa [he] using hk))))
    · exact ifT_pos (by simp [he]) (retG_of (by simpa [he] using hk))
theorem same_l2 (S : Small up val) (hU : Intss mU up) (hV : Strss mV val) (hU' : Intss nU up') (hV' : Strss nV val') (hlu : up.length = up'.length) (hl : val.length = val'.length) :
    ∀ d i : Nat, i + d = up.length → K (.bool (decide (up.drop i = up'.drop i) && decide (val = val'))) h → s17l2 K (d + 1) (.lptr [mU, mV]) (.lptr [nU, nV]) (i : Int) h
  | 0, i, hd, hk => by
    unfold s17l2
    rw [addOff_lptr]
    simp only [List.drop_zero, ld1_lptr]
    rw [hU.len]
    rw [List.drop_eq_nil_of_le (by omega), List.drop_eq_nil_of_le (by omega)] at hk
    exact ifT_neg (by simp; omega) (s17l3_in (val.length + 1) (same_l3 S hV hV' hl val.length 0 (by omega) (by simpa using hk)))
  | d + 1, i, hd, hk => by
    have hi : i < up.length := by omega
    have hi' : i < up'.length := by omega
    have hSv := S.ups
    have hSn := S.row _ (List.getElem_mem hi)
    obtain ⟨e1, h1, ix1⟩ := hU.ix hi
    obtain ⟨e2, h2, ix2⟩ := hU'.ix hi'
    unfold s17l2
    rw [addOff_lptr]
    simp only [List.drop_zero, ld1_lptr]
    rw [hU.len]
    refine ifT_pos (by simp; omega) ?_
    simp only [addOff_lptr, List.drop_zero, ld1_lptr, ix1, ix2]
    refine callG_of (ints_ok h1 h2 (by omega) ?_)
    rw [tBool_bool]
    rw [drop_eq_step hi hi'] at hk
    by_cases he : up[i] = up'[i]
    · refine ifT_neg (by simp [he]) (rg_of (by omega) (by omega) (s17l2_go (same_l2 S hU hV hU' hV' hlu hl d (i + 1) (by omega) (by simpa [he] using hk))))
    · exact ifT_pos (by simp [he]) (retG_of (by simpa [he] using hk))
theorem same_ok (S : Small up val) (hU : Intss mU up) (hV : Strss mV val) (hU' : Intss nU up') (hV' : Strss nV val') (hk : K (.bool (decide (up = up') && decide (val = val'))) h) : ACalls prog 17 [.agg [mU, mV], .agg [nU, nV]] h K := by
  refine s17_ok ?_
  unfold s17
  rw [hU.len, hU'.len]
  by_cases h1 : up.length = up'.length
  · refine ifT_neg (by simp [h1]) ?_
    rw [hV.len, hV'.len]
    by_cases h2 : val.length = val'.length
    · refine ifT_neg (by simp [h2]) (s17l2_in (up.length + 1) (same_l2 S hU hV hU' hV' h1 h2 up.length 0 (by omega) (by simpa using hk)))
    · refine ifT_pos (by simp; omega) (retG_of ?_)
      rwa [show decide (val = val') = false by simp; intro e; exact h2 (by rw [e]), Bool.and_false] at hk
  · refine ifT_pos (by simp; omega) (ifT_pos rfl (retG_of ?_))
    rwa [show decide (up = up') = false by simp; intro e; exact h1 (by rw [e]), Bool.false_and] at hk
end Go.Proofs.YtljglglbfcgjpaaGreat

namespace Go.Proofs.YtljglglbfcgjpaaGreat
open Go Go.Sym Go.Proofs.Tryz
variable {K : AVal → Heap → Prop} {h h0 hb : Heap}
theorem ldN2U {h : Heap} {a b : AVal} {X : List AVal → Prop} : ldN 2 h (.lptr [a, b]) X = X [a, b] := rfl
theorem eqHy (x y : Hy) : eqT prog 8 73 (hyV x) (hyV y) = some (strEq x.s y.s && ((x.f == y.f) && true)) := by kernel_rfl
theorem eqHyG : prog.eqGuardType prog.depth 73 = false := by kernel_rfl
theorem eqHyX {x : Hy} {X : Bool → Prop} (hk : X true) : eqQ prog 73 (hyV x) (hyV x) X := by
  refine ⟨eqHyG, ?_⟩
  rw [eqHy, strEq_dec]
  simpa using hk
theorem hyps_l1 {a b : AVal} {hs : List Hy} (A : Hyps a hs) (B : Hyps b hs) (hl : hs.length ≤ 549755813888) (hk : K (.bool true) h) : ∀ d i : Nat, i + d = hs.length → s12l1 K (d + 1) a b (i : Int) h
  | 0, i, hd => by
    unfold s12l1
    rw [A.len]
    exact ifT_neg (by simp; omega) (retG_of hk)
  | d + 1, i, hd => by
    have hi : i < hs.length := by omega
    unfold s12l1
    rw [A.len]
    refine ifT_pos (by simp; omega) ?_
    rw [A.ix hi, hyC, ldN2U, tCons_cons, tStr_str, tCons_cons, tInt_int, tNil_nil, B.ix hi, hyC, ldN2U, tCons_cons, tStr_str, tCons_cons, tInt_int, tNil_nil]
    refine eqHyX (x := hs[i]) (ifT_neg rfl (rg_of (by omega) (by omega) (s12l1_go (hyps_l1 A B hl hk d (i + 1) (by omega)))))
theorem hyps_ok {a b : AVal} {hs : List Hy} (A : Hyps a hs) (B : Hyps b hs) (hl : hs.length ≤ 549755813888) (hk : K (.bool true) h) : ACalls prog 12 [a, b] h K := by
  refine s12_ok ?_
  unfold s12
  rw [A.len, B.len]
  exact ifT_neg (by simp) (s12l1_in (hs.length + 1) (hyps_l1 A B hl hk hs.length 0 (by omega)))
end Go.Proofs.YtljglglbfcgjpaaGreat

namespace Go.Proofs.YtljglglbfcgjpaaGreat
open Go Go.Sym Go.Proofs.Tryz
variable {K : AVal → Heap → Prop} {h h0 hb : Heap} {up : List (List Int)} {val : List (List ByteArray)} {mU mV : AVal}
theorem small_tidyU {up : List (List Int)} {val : List (List ByteArray)} (S : Small up val) : Small (tidyUp up) val where
  ups := by simp [tidyUp]; exact S.ups
  vals := S.vals
  row r hr := by
    simp only [tidyUp, List.mem_map] at hr
    obtain ⟨a, _, rfl⟩ := hr
    have h1 : (tidyRow up a).length ≤ (List.range up.length).length := List.length_filter_le _ _
    have := S.ups
    simp only [natI, List.length_map]
    simp only [List.length_range] at h1
    omega
  names := S.names
theorem few_ups {V : List (List Bool)} (hV : IsUps up V) (h : V.length ≤ 64) : ¬ Many up := fun ⟨W, h1, h2, h3⟩ => by
  have := List.Nodup.length_le_of_subset h1 (l₂ := V) fun s hs => (hV.mem s).2 (h3 s hs)
  omega
theorem atomsD_ok (S : Small up val) (hU : Intss mU up) (hV : Strss mV val) (bad : ¬ WF up val → K (.tuple [.nilsl, .int .i64 170]) h) (many : WF up val → Many up → K (.tuple [.nilsl, .int .i64 231]) h)
    (yes : WF up val → ∀ V, IsUps up V → V.length ≤ 64 → ∀ N : List ByteArray, N.Nodup → (N.Pairwise fun a b => strLt a b = true) → N.length ≤ 549755813888 → (∀ s, s ∈ N ↔ ∃ u, u < up.length ∧ s ∈ val.getD u []) → ∀ v, Hyps v (atomHs val up.length V N) → K (.tuple [v, .int .i64 0]) h) : ACalls prog 11 [.agg [mU, mV]] h K := by
  refine s11_ok ?_
  unfold s11
  refine callG_of (upsD_ok S hU hV (fun hW => ?_) (fun hW hm => ?_) fun hW V hUp hl a sets ha hsets => ?_)
  · rw [tTup_tuple, tCons_cons, tCons_cons, tCons_cons, tInt_int, tNil_nil, tAgg_agg, tCons_cons, tNil_nil]
    refine newRow_in fun r hr => st_all (Heap.set_same _ _ _) rfl ?_
    rw [Heap.set_set]
    exact ifT_pos rfl (retG_drop (Heap.set_sub hr) (bad hW))
  · rw [tTup_tuple, tCons_cons, tCons_cons, tCons_cons, tInt_int, tNil_nil, tAgg_agg, tCons_cons, tNil_nil]
    refine newRow_in fun r hr => st_all (Heap.set_same _ _ _) rfl ?_
    rw [Heap.set_set]
    exact ifT_pos rfl (retG_drop (Heap.set_sub hr) (many hW hm))
  · rw [tTup_tuple, tCons_cons, tCons_cons, tCons_cons, tInt_int, tNil_nil, tAgg_agg, tCons_cons, tNil_nil]
    refine newRow_in fun r hr => st_all (Heap.set_same _ _ _) rfl ?_
    rw [Heap.set_set]
    refine ifT_neg rfl ?_
    -- the names are gathered with the row forgotten
    have hlen := hW.len
    have key := atomsD_l1 (K := K) (h0 := h) (mU := mU) (sets := sets) S hV hW (fun nm N hN I => ?_) val.length 0 .nilsl [] (by omega) (.nil 1) .start
    · refine ⟨fun _ => False, [.lptr [mU, mV], sets, .nilsl, .int .i64 0], h, Lits.refl _, GStep.drop (Heap.set_sub hr), rfl, val.length + 1, key⟩
    · have hmax := hW.max
      have hNl : N.length ≤ 549755813888 := by
        have h1 := I.cnt
        unfold cB at h1
        have h4 := Nat.mul_le_mul_right 1048576 (show val.length ≤ 512 by omega)
        exact Nat.le_trans h1 (Nat.le_trans (Nat.add_le_add_right h4 0) (by decide))
      refine s11l3_in (N.length + 1) (atomsD_l3 S hU hV hW hUp hl hsets hN hNl (fun v hv => yes hW V hUp hl N ?_ I.rise hNl (fun s => ?_) v hv) N.length 0 .nilsl h (by omega) ((Own.start h).newN 2))
      · exact I.rise.imp fun {a b} e e2 => by subst e2; rw [strLt_irr] at e; cases e
      · rw [I.mem]
        unfold Occ
        constructor
        · rintro ⟨u, ⟨h1, h2⟩ | ⟨_, h2⟩⟩
          · exact ⟨u, by omega, h2⟩
          · simp at h2
        · rintro ⟨u, h1, h2⟩
          exact ⟨u, .inl ⟨by omega, h2⟩⟩
theorem listsL_ok {a b : AVal} {X : List (List Int)} (ha : Intss a X) (hb : Intss b X) (hX : X.length ≤ 1048576) (hr : ∀ r ∈ X, r.length ≤ 1048576) (hk : K (.bool true) h) : ACalls prog 9 [a, b] h K := by
  refine s9_ok ?_
  unfold s9
  rw [ha.len, hb.len]
  refine ifT_neg (by simp) ?_
  have main : ∀ d i : Nat, i + d = X.length → s9l1 K (d + 1) a b (i : Int) h := by
    intro d
    induction d with
    | zero =>
      intro i hd
      unfold s9l1
      rw [ha.len]
      exact ifT_neg (by simp; omega) (retG_of hk)
    | succ d ih =>
      intro i hd
      have hi : i < X.length := by omega
      obtain ⟨e, he, hix⟩ := ha.ix hi
      obtain ⟨e', he', hix'⟩ := hb.ix hi
      unfold s9l1
      rw [ha.len]
      refine ifT_pos (by simp; omega) ?_
      rw [hix, ld1_lptr, hix', ld1_lptr]
      refine callG_of (ints_ok he he' (by have := hr _ (List.getElem_mem hi); omega) ?_)
      rw [tBool_bool, decide_eq_true rfl]
      exact ifT_neg rfl (rg_of (by omega) (by omega) (s9l1_go (ih (i + 1) (by omega))))
  exact s9l1_in (X.length + 1) (main X.length 0 (by omega))
theorem algV_nil : AlgV .nilsl [] := ⟨⟨[], .nil 1, .nil⟩, by simp, by simp⟩
theorem algV_leq {a : AVal} {V : List (List Bool)} (h : Boolss a (leqT V)) (hl : V.length ≤ 64) : AlgV a (leqT V) :=
  ⟨h, by simp [leqT]; omega, fun row hr => by
    unfold leqT at hr
    obtain ⟨x, _, rfl⟩ := List.mem_map.1 hr
    simp
    omega⟩
theorem algV_chain {a : AVal} {n : Nat} (h : Boolss a (chainL n)) (hl : n ≤ 64) : AlgV a (chainL n) :=
  ⟨h, by simp [chainL]; omega, fun row hr => by
    unfold chainL at hr
    obtain ⟨x, _, rfl⟩ := List.mem_map.1 hr
    simp
    omega⟩
section
variable (HH : Heads23) (hk : ∀ h', K (.bool true) h')
include HH hk
theorem upsL_c2 {a : AVal} {L : List (List Bool)} (A : AlgV a L) (n : Int) : s3c2 K n (.lptr [a]) false h := by
  unfold s3c2
  refine ifT_neg rfl ?_
  rw [ldN1_lptr, tCons_cons, tNil_nil]
  have tail : ∀ (pU pV qU qV o r : AVal) (U : List (List Int)) (Vl : List (List ByteArray)) (E : List Int) (i : Int), Small U Vl → Intss pU U → Strss pV Vl → Intss qU U → Strss qV Vl → Ints o E → Ints r E → E.length ≤ 1048576 → ∀ (r2 r3 : Nat) (hh : Heap), hh r2 = some (.row 2 [.agg [pU, pV]]) → hh r3 = some (.row 2 [.agg [qU, qV]]) →
      (callG prog 15 [(.int .i64 n)] hh fun v40 h_14 => tTup v40 fun l_42 => tCons l_42 fun v41 l_43 => tCons l_43 fun v42 l_44 => tInt .i64 v42 fun v43 => tNil l_44 (
        tAgg v41 fun l_45 => tCons l_45 fun v44 l_46 => tNil l_46 (
        Go.Sym.newRow 1 [(.agg [.nilsl])] h_14 fun r4 h_15 => st false h_15 (.ptr r4 0 0) [v44] fun h_16 =>
        callG prog 16 [(.int .i64 n)] h_16 fun v45 h_17 => tTup v45 fun l_47 => tCons l_47 fun v46 l_48 => tCons l_48 fun v47 l_49 => tInt .i64 v47 fun v48 => tNil l_49 (
        tAgg v46 fun l_50 => tCons l_50 fun v49 l_51 => tNil l_51 (
        Go.Sym.newRow 1 [(.agg [.nilsl])] h_17 fun r5 h_18 => st false h_18 (.ptr r5 0 0) [v49] fun h_19 =>
        ldN 2 h_19 (.ptr r2 0 0) fun l_52 => tCons l_52 fun v50 l_53 => tCons l_53 fun v51 l_54 => tNil l_54 (
        ldN 2 h_19 (.ptr r3 0 0) fun l_55 => tCons l_55 fun v52 l_56 => tCons l_56 fun v53 l_57 => tNil l_57 (
        callG prog 17 [(.agg [v50, v51]), (.agg [v52, v53])] h_19 fun v54 h_20 => tBool v54 fun v55 =>
        ifT v55 (
        callG prog 18 [o, r] h_20 fun v56 h_21 => tBool v56 fun v57 =>
        ifT v57 (
        ifT (i == i) (
        ldN 1 h_21 (.ptr r4 0 0) fun l_58 => tCons l_58 fun v58 l_59 => tNil l_59 (
        ldN 1 h_21 (.ptr r5 0 0) fun l_60 => tCons l_60 fun v59 l_61 => tNil l_61 (
        callG prog 8 [(.agg [v58]), (.agg [v59])] h_21 fun v60 h_22 => tBool v60 fun v61 =>
        ifT v61 (
        ifT (v43 == v48) (
        callG prog 19 [] h_22 fun v62 h_23 => tBool v62 fun v63 => retG (.bool v63) h_23 K) (
        retG (.bool false) h_22 K)) (
        retG (.bool false) h_22 K)))) (
        retG (.bool false) h_21 K)) (
        retG (.bool false) h_21 K)) (
        retG (.bool false) h_20 K)))))))) := by
    intro pU pV qU qV o r U Vl E i SS hpU hpV hqU hqV ho hr hE r2 r3 hh h2 h3
    -- what both chains come to
    have ch : ∃ (T : List (List Bool)) (e : Int), (∀ (K' : AVal → Heap → Prop) (h' : Heap), (∀ x, AlgV x T → K' (.tuple [.agg [x], .int .i64 e]) h') → ACalls prog 15 [.int .i64 n] h' K') ∧
        (∀ (K' : AVal → Heap → Prop) (h' : Heap), (∀ x, AlgV x T → K' (.tuple [.agg [x], .int .i64 e]) h') → ACalls prog 16 [.int .i64 n] h' K') := by
      by_cases hn : 1 ≤ n ∧ n ≤ 64
      · obtain ⟨m, rfl⟩ : ∃ m : Nat, n = (m : Int) := ⟨n.toNat, by omega⟩
        exact ⟨chainL m, 0, fun K' h' g => chainP_ok (by omega) (by omega) fun a ha => g a (algV_chain ha (by omega)), fun K' h' g => chainD_ok (by omega) (by omega) fun a ha => g a (algV_chain ha (by omega))⟩
      · exact ⟨[], 2, fun K' h' g => chainP_bad hn (g _ algV_nil), fun K' h' g => chainD_bad hn (g _ algV_nil)⟩
    obtain ⟨T, e, c1, c2⟩ := ch
    refine callG_of (c1 _ _ fun x X => ?_)
    rw [tTup_tuple, tCons_cons, tCons_cons, tInt_int, tNil_nil, tAgg_agg, tCons_cons, tNil_nil]
    refine newRow_in fun r4 hr4 => st_all (Heap.set_same _ _ _) rfl ?_
    rw [Heap.set_set]
    refine callG_of (c2 _ _ fun y Y => ?_)
    rw [tTup_tuple, tCons_cons, tCons_cons, tInt_int, tNil_nil, tAgg_agg, tCons_cons, tNil_nil]
    refine newRow_in fun r5 hr5 => st_all (Heap.set_same _ _ _) rfl ?_
    rw [Heap.set_set]
    have n42 : r2 ≠ r4 := fun e => by rw [e, hr4] at h2; cases h2
    have n43 : r3 ≠ r4 := fun e => by rw [e, hr4] at h3; cases h3
    have hr5' := hr5
    have n54 : r4 ≠ r5 := fun e => by rw [← e, Heap.set_same] at hr5; cases hr5
    have n52 : r2 ≠ r5 := fun e => by rw [← e, Heap.set_ne _ _ n42, h2] at hr5; cases hr5
    have n53 : r3 ≠ r5 := fun e => by rw [← e, Heap.set_ne _ _ n43, h3] at hr5; cases hr5
    rw [ldN2 (by rw [Heap.set_ne _ _ n52, Heap.set_ne _ _ n42]; exact h2), tCons_cons, tCons_cons, tNil_nil]
    rw [ldN2 (by rw [Heap.set_ne _ _ n53, Heap.set_ne _ _ n43]; exact h3), tCons_cons, tCons_cons, tNil_nil]
    refine callG_of (same_ok SS hpU hpV hqU hqV ?_)
    rw [tBool_bool, decide_eq_true rfl, decide_eq_true rfl]
    refine ifT_pos rfl (callG_of (ints_ok ho hr (by omega) ?_))
    rw [tBool_bool, decide_eq_true rfl]
    refine ifT_pos rfl (ifT_pos (by simp) ?_)
    rw [ldN1 (by rw [Heap.set_ne _ _ n54, Heap.set_same]), tCons_cons, tNil_nil, ldN1 (Heap.set_same _ _ _), tCons_cons, tNil_nil]
    refine callG_of (sameA_ok X Y ?_)
    rw [tBool_bool]
    refine ifT_pos rfl (ifT_pos (by simp) (headsRet HH hk))
  -- the primes
  have prim : ∃ (U : List (List Int)) (Vl : List (List ByteArray)) (E : List Int) (i : Int), Small U Vl ∧ E.length ≤ 1048576 ∧
      (∀ (K' : AVal → Heap → Prop) (h' : Heap), (∀ pU pV o, Intss pU U → Strss pV Vl → Ints o E → K' (.tuple [.agg [pU, pV], o, .int .i64 i]) h') → ACalls prog 13 [.agg [a]] h' K') ∧
      (∀ (K' : AVal → Heap → Prop) (h' : Heap), (∀ pU pV o, Intss pU U → Strss pV Vl → Ints o E → K' (.tuple [.agg [pU, pV], o, .int .i64 i]) h') → ACalls prog 14 [.agg [a]] h' K') := by
    have nilS0 : Small [] [] := ⟨by simp, by simp, by simp, by simp⟩
    have nU : Intss .nilsl [] := ⟨[], .nil 1, .nil⟩
    have nV : Strss .nilsl [] := ⟨[], .nil 1, .nil⟩
    cases e : algP L with
    | false => exact ⟨[], [], [], 230, nilS0, by simp, fun K' h' g => primesP_ok A (fun _ => g _ _ _ nU nV (.nil 1)) (fun e2 => by rw [e] at e2; cases e2) (fun e2 => by rw [e] at e2; cases e2),
        fun K' h' g => primesD_ok A (fun _ => g _ _ _ nU nV (.nil 1)) (fun e2 => by rw [e] at e2; cases e2) (fun e2 => by rw [e] at e2; cases e2)⟩
    | true =>
      by_cases hz : (primesL L.length (at2 L)).length = 0
      · exact ⟨[], [], [], 231, nilS0, by simp, fun K' h' g => primesP_ok A (fun e2 => by rw [e] at e2; cases e2) (fun _ _ => g _ _ _ nU nV (.nil 1)) (fun _ h1 => absurd hz h1),
          fun K' h' g => primesD_ok A (fun e2 => by rw [e] at e2; cases e2) (fun _ _ => g _ _ _ nU nV (.nil 1)) (fun _ h1 => absurd hz h1)⟩
      · obtain ⟨_, _, hn64⟩ := algP_sq e
        have hle := primes_le (n := L.length) (r := at2 L)
        have hS := pSmall (n := L.length) (r := at2 L) hn64
        refine ⟨tidyUp (pUp L.length (at2 L)), pVal L.length (at2 L), natI (primesL L.length (at2 L)), 0, ?_, by simp [natI]; omega, fun K' h' g => primesP_ok A (fun e2 => by rw [e] at e2; cases e2) (fun _ h1 => absurd h1 hz) (fun _ _ vU vV ev h1 h2 h3 => g vU vV ev h1 h2 h3),
          fun K' h' g => primesD_ok A (fun e2 => by rw [e] at e2; cases e2) (fun _ h1 => absurd h1 hz) (fun _ _ vU vV ev h1 h2 h3 => g vU vV ev h1 h2 h3)⟩
        exact small_tidyU hS
  obtain ⟨U, Vl, E, i, SS, hE, p1, p2⟩ := prim
  refine callG_of (p1 _ _ fun pU pV o hpU hpV ho => ?_)
  rw [tTup_tuple, tCons_cons, tCons_cons, tCons_cons, tInt_int, tNil_nil, tAgg_agg, tCons_cons, tCons_cons, tNil_nil]
  refine newRow_in fun r2 hr2 => st_all (Heap.set_same _ _ _) rfl ?_
  rw [Heap.set_set, ldN1_lptr, tCons_cons, tNil_nil]
  refine callG_of (p2 _ _ fun qU qV r hqU hqV hr => ?_)
  rw [tTup_tuple, tCons_cons, tCons_cons, tCons_cons, tInt_int, tNil_nil, tAgg_agg, tCons_cons, tCons_cons, tNil_nil]
  refine newRow_in fun r3 hr3 => st_all (Heap.set_same _ _ _) rfl ?_
  rw [Heap.set_set]
  have n23 : r2 ≠ r3 := fun e => by rw [← e, Heap.set_same] at hr3; cases hr3
  exact tail pU pV qU qV o r U Vl E i SS hpU hpV hqU hqV ho hr hE r2 r3 _ (by rw [Heap.set_ne _ _ n23, Heap.set_same]) (Heap.set_same _ _ _)
theorem upsL_c1 (S : Small up val) (hU : Intss mU up) (hV : Strss mV val) {a : AVal} {L : List (List Bool)} (A : AlgV a L) (n : Int) : s3c1 K n (.lptr [mU, mV]) (.lptr [a]) false h := by
  unfold s3c1
  refine ifT_neg rfl ?_
  rw [ldN2U, tCons_cons, tCons_cons, tNil_nil]
  have err : ∀ (e : Int) (h' : Heap), (∀ (K' : AVal → Heap → Prop) (h' : Heap), K' (.tuple [.nilsl, .int .i64 e]) h' → ACalls prog 11 [.agg [mU, mV]] h' K') →
      ldN 2 h' (.lptr [mU, mV]) fun l_18 => tCons l_18 fun v18 l_19 => tCons l_19 fun v19 l_20 => tNil l_20 (callG prog 11 [(.agg [v18, v19])] h' fun v20 h_7 => tTup v20 fun l_21 => tCons l_21 fun v21 l_22 => tCons l_22 fun v22 l_23 => tInt .i64 v22 fun v23 => tNil l_23 (
        callG prog 12 [.nilsl, v21] h_7 fun v64 h_24 => tBool v64 fun v65 => ifT (!v65) (s3c2 K n (.lptr [a]) true h_24) (s3c2 K n (.lptr [a]) (e != v23) h_24))) := by
    intro e h' hD
    rw [ldN2U, tCons_cons, tCons_cons, tNil_nil]
    refine callG_of (hD _ _ ?_)
    rw [tTup_tuple, tCons_cons, tCons_cons, tInt_int, tNil_nil]
    refine callG_of (hyps_ok (hs := []) (.nil 2) (.nil 2) (by simp) ?_)
    rw [tBool_bool]
    refine ifT_neg rfl ?_
    rw [show (e != e) = false by simp]
    exact upsL_c2 HH hk A n
  refine callG_of (atomsH_ok S hU hV (fun hW => ?_) (fun hW hm => ?_) fun hW V hUp hl N hnd hNl hN v h' O => ?_)
  · rw [tTup_tuple, tCons_cons, tCons_cons, tInt_int, tNil_nil]
    exact err 170 _ fun K' h' g => atomsD_ok S hU hV (fun _ => g) (fun h1 => absurd h1 hW) (fun h1 => absurd h1 hW)
  · rw [tTup_tuple, tCons_cons, tCons_cons, tInt_int, tNil_nil]
    exact err 231 _ fun K' h' g => atomsD_ok S hU hV (fun h1 => absurd hW h1) (fun _ _ => g) (fun _ V hV' hl' => absurd hm (few_ups hV' hl'))
  · rw [tTup_tuple, tCons_cons, tCons_cons, tInt_int, tNil_nil, ldN2U, tCons_cons, tCons_cons, tNil_nil]
    refine callG_of (atomsD_ok S hU hV (fun h1 => absurd hW h1) (fun _ hm => absurd hm (few_ups hUp hl)) fun _ V2 hUp2 hl2 N2 hnd2 hrise hNl2 hN2 w hw => ?_)
    rw [tTup_tuple, tCons_cons, tCons_cons, tInt_int, tNil_nil]
    obtain rfl : V2 = V := isUps_unique hUp2 hUp
    obtain rfl : N2 = sortS N := rise_unique hrise (sortS_rise hnd) fun s => by rw [hN2, (sortS_perm N).mem_iff, hN]
    obtain ⟨v', lv, sv⟩ := O.lit (i := 0) rfl (S := nameOf v) (fun _ h => h) (Lits.refl _)
    refine ⟨nameOf v, [v', w], h, .cons lv (.cons (.refl _) .nil), base_step O _ (fun q hq => O.new 0 _ q rfl hq), ?_⟩
    refine hyps_ok sv hw (by unfold atomHs; rw [List.length_map]; exact hNl2) ?_
    rw [tBool_bool]
    exact ifT_neg rfl (upsL_c2 HH hk A n)
theorem upsL_ok (S : Small up val) (hU : Intss mU up) (hV : Strss mV val) {a : AVal} {L : List (List Bool)} (A : AlgV a L) (n : Int) : ACalls prog 3 [.agg [mU, mV], .agg [a], .int .i64 n] h K := by
  refine s3_ok ?_
  unfold s3
  have ups : ∃ (T : List (List Bool)) (X : List (List Int)) (e : Int), X.length ≤ 1048576 ∧ (∀ r ∈ X, r.length ≤ 1048576) ∧
      (∀ (K' : AVal → Heap → Prop) (h' : Heap), (∀ x s, AlgV x T → Intss s X → K' (.tuple [.agg [x], s, .int .i64 e]) h') → ACalls prog 6 [.agg [mU, mV]] h' K') ∧
      (∀ (K' : AVal → Heap → Prop) (h' : Heap), (∀ x s, AlgV x T → Intss s X → K' (.tuple [.agg [x], s, .int .i64 e]) h') → ACalls prog 7 [.agg [mU, mV]] h' K') := by
    have nU : Intss .nilsl [] := ⟨[], .nil 1, .nil⟩
    by_cases hW : WF up val
    · by_cases hm : Many up
      · exact ⟨[], [], 231, by simp, by simp, fun K' h' g => upsP_ok S hU hV (fun h1 => absurd hW h1) (fun _ _ => g _ _ algV_nil nU) (fun _ V h1 h2 => absurd hm (few_ups h1 h2)),
          fun K' h' g => upsD_ok S hU hV (fun h1 => absurd hW h1) (fun _ _ => g _ _ algV_nil nU) (fun _ V h1 h2 => absurd hm (few_ups h1 h2))⟩
      · by_cases hV' : ∃ V, IsUps up V ∧ V.length ≤ 64
        · obtain ⟨V, hUp, hl⟩ := hV'
          have hmax := hW.max
          refine ⟨leqT V, V.map fun l => natI (idxL l), 0, by simp; omega, fun r hr => ?_, fun K' h' g => upsP_ok S hU hV (fun h1 => absurd hW h1) (fun _ h1 => absurd h1 hm) (fun _ V2 h1 h2 x s hx hs => ?_), fun K' h' g => upsD_ok S hU hV (fun h1 => absurd hW h1) (fun _ h1 => absurd h1 hm) (fun _ V2 h1 h2 x s hx hs => ?_)⟩
          · obtain ⟨l, hl2, rfl⟩ := List.mem_map.1 hr
            have h1 := ((hUp.mem l).1 hl2).len
            have h2 := List.length_filter_le (fun w => l.getD w false) (List.range l.length)
            simp only [List.length_range] at h2
            unfold natI idxL
            rw [List.length_map]
            omega
          · obtain rfl : V2 = V := isUps_unique h1 hUp
            exact g x s (algV_leq hx h2) hs
          · obtain rfl : V2 = V := isUps_unique h1 hUp
            exact g x s (algV_leq hx h2) hs
        · exact ⟨[], [], 0, by simp, by simp, fun K' h' g => upsP_ok S hU hV (fun h1 => absurd hW h1) (fun _ h1 => absurd h1 hm) (fun _ V h1 h2 => absurd ⟨V, h1, h2⟩ hV'),
            fun K' h' g => upsD_ok S hU hV (fun h1 => absurd hW h1) (fun _ h1 => absurd h1 hm) (fun _ V h1 h2 => absurd ⟨V, h1, h2⟩ hV')⟩
    · exact ⟨[], [], 170, by simp, by simp, fun K' h' g => upsP_ok S hU hV (fun _ => g _ _ algV_nil nU) (fun h1 => absurd h1 hW) (fun h1 => absurd h1 hW),
        fun K' h' g => upsD_ok S hU hV (fun _ => g _ _ algV_nil nU) (fun h1 => absurd h1 hW) (fun h1 => absurd h1 hW)⟩
  obtain ⟨T, X, e, hX, hXr, u1, u2⟩ := ups
  refine callG_of (u1 _ _ fun x s hx hs => ?_)
  rw [tTup_tuple, tCons_cons, tCons_cons, tCons_cons, tInt_int, tNil_nil, tAgg_agg, tCons_cons, tNil_nil]
  refine newRow_in fun r hr => st_all (Heap.set_same _ _ _) rfl ?_
  rw [Heap.set_set]
  refine callG_of (u2 _ _ fun y s' hy hs' => ?_)
  rw [tTup_tuple, tCons_cons, tCons_cons, tCons_cons, tInt_int, tNil_nil, tAgg_agg, tCons_cons, tNil_nil]
  refine newRow_in fun r1 hr1 => st_all (Heap.set_same _ _ _) rfl ?_
  rw [Heap.set_set]
  have n1 : r ≠ r1 := fun e => by rw [← e, Heap.set_same] at hr1; cases hr1
  rw [ldN1 (by rw [Heap.set_ne _ _ n1, Heap.set_same]), tCons_cons, tNil_nil, ldN1 (Heap.set_same _ _ _), tCons_cons, tNil_nil]
  refine callG_of (sameA_ok hx hy ?_)
  rw [tBool_bool]
  refine ifT_neg rfl (callG_of (listsL_ok hs hs' hX hXr ?_))
  rw [tBool_bool, show (e != e) = false by simp]
  exact ifT_neg rfl (upsL_c1 HH hk S hU hV A n)
end
end Go.Proofs.YtljglglbfcgjpaaGreat

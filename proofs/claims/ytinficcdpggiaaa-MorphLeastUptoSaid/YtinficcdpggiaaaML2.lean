/- Contracts: the program's test for a bounded morphism, whole. No condition. Contracts: where formulas are forced. No condition. Contracts: where formulas are forced, whole; what a bounded morphism keeps. No condition. Plain law: tidying keeps the order; the parts of a glued model. No condition; no program. Plain law: classes of bisimilar worlds, numbered in the order in which they come. No condition; no program. Contracts: the program's classes. No condition. Contracts: a search by halves in numbers that rise. No condition. Contracts: the model of some worlds alone (program). No condition. Contracts: the program's part and Above. No condition. Contracts: the program's classes, whole; Classes. No condition. Plain law: the worlds above one, mapped into their model, are a bounded morphism. No condition; no program. Plain law: the model of the classes; worlds to classes is a bounded morphism. No condition; no program. Contracts: the program's Quotient. No condition. Contracts: the program's Unravel. No condition. Contracts: the program's Unravel, whole. No condition. Plain law: the tree of the ways up; its ends are a bounded morphism. No condition; no program. Plain law: the tree of the ways up is a model; its ends are a bounded morphism. No condition; no program. The law MorphKeeps over its inputs. No condition. The law MorphLeast over its inputs. No condition. -/
import Derived.Test.YtinficcdpggiaaaML1
import Derived.Test.YtinficcdpggiaaaM4

set_option linter.unusedVariables false
set_option linter.unusedSimpArgs false

namespace Go.Proofs.Ytinficcdpggiaaa
open Go Go.Sym Go.Proofs.Try

variable {K : AVal → Heap → Prop} {h h0 : Heap} {up up' : List (List Int)} {val val' : List (List ByteArray)} {mU mV nU nV : AVal}

theorem bounded_l2 (S : Small up val) (hV : Strss mV val) (hV' : Strss nV val') (W' : WF up' val') (Wm : WF up val) {f : List Int} (F : FitF up up' f) {vf o p : AVal} (hf : Ints vf f) (hO : Intss o (ordUp up)) (hP : Intss p (ordUp up'))
    (bad : ¬ IsB up val up' val' f → K (.tuple [.bool false, .int .i64 0]) h0) (good : IsB up val up' val' f → K (.tuple [.bool true, .int .i64 0]) h0) :
    ∀ d a : Nat, a + d = up.length → (∀ a', a' < a → val.getD a' [] = val'.getD (gOf f a') [] ∧ (∀ b, Reach up a' b → Reach up' (gOf f a') (gOf f b)) ∧ ∀ c, Reach up' (gOf f a') c → ∃ b, Reach up a' b ∧ gOf f b = c) →
      s25l2 K (d + 1) vf (.lptr [mU, mV]) (.lptr [nU, nV]) o (.lptr [p]) (up.length : Int) (a : Int) h0
  | 0, a, hd, hk => by
    obtain rfl : a = up.length := by omega
    unfold s25l2
    exact ifT_neg (by simp) (retG_of (good hk))
  | d + 1, a, hd, hk => by
    have ha : a < up.length := by omega
    have hmax := Wm.max
    have haf : a < f.length := by rw [F.len]; exact ha
    obtain ⟨hfa, hga⟩ := F.get haf
    have hav : a < val.length := by rw [Wm.len]; exact ha
    have hgv : gOf f a < val'.length := by rw [W'.len]; exact hga
    obtain ⟨e1, he1, hi1⟩ := hV.ix hav
    obtain ⟨e2, he2, hi2⟩ := hV'.ix hgv
    obtain ⟨e3, he3, hi3⟩ := hO.ix (i := a) (by rw [ordUp_len]; exact ha)
    rw [ordUp_get ha] at he3
    unfold s25l2
    refine ifT_pos (by simp; omega) ?_
    rw [addOff_lptr]
    simp only [List.drop_succ_cons, List.drop_zero, ld1_lptr]
    rw [hi1, ld1_lptr, addOff_lptr]
    simp only [List.drop_succ_cons, List.drop_zero, ld1_lptr]
    rw [hf.ix haf, ld1_lptr, tInt_int, hfa, hi2, ld1_lptr]
    refine callG_of (equal_ok he1 he2 (S.names _ (List.getElem_mem hav)).1.1 ?_)
    rw [tBool_bool]
    by_cases hv : val[a] = val'[gOf f a]
    · refine ifT_neg (by simpa using hv) (fun rm hrm _ => newRow_in fun r2 hr2 => ?_)
      have W1 := ((Own.start h0).newC hrm (.map [])).newC hr2 (.row 1 [.nilmap])
      refine st_one (e := .nilmap) (W1.get 1 _ r2 rfl rfl) rfl ?_
      have W2 := W1.put (i := 1) rfl (.row 1 [.mapr rm])
      rw [hi3, ld1_lptr, he3.len, show (natI (aboveL up a)).length = (aboveL up a).length by simp [natI]]
      refine s25l3_in ((aboveL up a).length + 1) ?_
      refine bounded_l3 W' Wm F hf hP ha he3 (fun hh => bad fun hB => hh (hB a ha).2) (fun hh => s25l2 K (d + 1) vf (.lptr [mU, mV]) (.lptr [nU, nV]) o (.lptr [p]) (up.length : Int) ((a + 1 : Nat) : Int) h0 |> fun _ => ?_) _ 0 (by omega) [] _ ⟨fun c => ?_, fun e he => by simp at he⟩ (fun i b hi => absurd hi (by omega)) W2
      · refine bounded_l2 S hV hV' W' Wm F hf hO hP bad good d (a + 1) (by omega) (fun a' ha' => ?_)
        by_cases e : a' = a
        · subst e
          exact ⟨by rw [getD_val hav, getD_val hgv]; exact hv, hh⟩
        · exact hk a' (by omega)
      · constructor
        · rintro ⟨e, he, _⟩; simp at he
        · rintro ⟨i, b, hi, _⟩; omega
    · refine ifT_pos (by simpa using hv) (retG_of (bad fun hB => hv ?_))
      have := (hB a ha).1
      rwa [getD_val hav, getD_val hgv] at this

theorem out_call {r : Nat} {p : AVal} (hP : Intss p (ordUp up')) {h : Heap} (hr : h r = some (.row 1 [p])) (c : Int) (K : AVal → Heap → Prop) (hk : K (.bool (decide (c < 0) || decide ((up'.length : Int) ≤ c))) h) :
    callV prog (.func (.func 52) [] [.ptr r 0 0]) [.int .i64 c] h K := by
  show callG prog 52 ([] ++ [.int .i64 c] ++ [.ptr r 0 0]) h K
  refine callG_of (s52_ok ?_)
  unfold s52
  by_cases h0 : c < 0
  · exact ifT_pos (decide_eq_true h0) (retG_of (by simpa [h0] using hk))
  · refine ifT_neg (decide_eq_false h0) ?_
    have hp : p.isAgg = false := by
      obtain ⟨l, h1, _⟩ := hP
      rcases h1 with rfl | ⟨rfl, _⟩ <;> rfl
    rw [ld1_one hr hp, hP.len, ordUp_len]
    exact retG_of (by simpa [h0] using hk)

theorem intss_sc {v : AVal} {l : List (List Int)} (h : Intss v l) : Go.Sym.sc v = true ∧ v.isAgg = false := by
  obtain ⟨L, h1, _⟩ := h
  rcases h1 with rfl | ⟨rfl, _⟩ <;> exact ⟨rfl, rfl⟩

open Classical in
theorem bounded_ok (S : Small up val) (hU : Intss mU up) (hV : Strss mV val) (S' : Small up' val') (hU' : Intss nU up') (hV' : Strss nV val') {vf : AVal} {f : List Int} (hf : Ints vf f) (hfl : f.length ≤ 1048576)
    (badM : ¬ WF up val → K (.tuple [.bool false, .int .i64 170]) h0) (badN : WF up val → ¬ WF up' val' → K (.tuple [.bool false, .int .i64 170]) h0) (badF : WF up val → WF up' val' → ¬ FitF up up' f → K (.tuple [.bool false, .int .i64 190]) h0)
    (good : WF up val → WF up' val' → FitF up up' f → K (.tuple [.bool (decide (IsB up val up' val' f)), .int .i64 0]) h0) : ACalls prog 25 [.agg [mU, mV], .agg [nU, nV], vf] h0 K := by
  refine s25_ok ?_
  unfold s25
  refine callG_of (reckonM_ok S hU hV (fun hW => ?_) (fun Wm o hO => ?_))
  · simp only [tTup_tuple, tCons_cons, tInt_int, tNil_nil]
    exact ifT_pos rfl (retG_of (badM hW))
  · simp only [tTup_tuple, tCons_cons, tInt_int, tNil_nil]
    refine ifT_neg rfl (callG_of (reckonM_ok S' hU' hV' (fun hW => ?_) (fun W' p hP => ?_)))
    · simp only [tTup_tuple, tCons_cons, tInt_int, tNil_nil]
      refine newRow_in fun r hr => chk_iff.2 ⟨rfl, st_one (e := .nilsl) (Heap.set_same _ _ _) rfl (ifT_pos rfl ?_)⟩
      rw [Heap.set_set]
      exact retG_drop (Heap.set_sub hr) (badN Wm hW)
    · simp only [tTup_tuple, tCons_cons, tInt_int, tNil_nil]
      refine newRow_in fun r hr => chk_iff.2 ⟨(intss_sc hP).1, st_one (e := .nilsl) (Heap.set_same _ _ _) rfl (ifT_neg rfl ?_)⟩
      rw [Heap.set_set, hf.len, hO.len, ordUp_len]
      by_cases hl : f.length = up.length
      · refine ifT_neg (by simp [hl]) ?_
        refine callG_of (containsFI_ok hf (by omega) (p := fun c => decide (c < 0) || decide ((up'.length : Int) ≤ c)) (fun c _ K' hk' => out_call hP (Heap.set_same _ _ _) c K' hk') ?_)
        rw [tBool_bool]
        cases hany : f.any fun c => decide (c < 0) || decide ((up'.length : Int) ≤ c) with
        | true =>
          refine ifT_pos rfl (retG_drop (Heap.set_sub hr) (badF Wm W' fun F => ?_))
          obtain ⟨c, hc, hc2⟩ := List.any_eq_true.1 hany
          have := F.rng c hc
          simp only [Bool.or_eq_true, decide_eq_true_eq] at hc2
          omega
        | false =>
          have F : FitF up up' f := ⟨hl, fun w hw => by
            have := List.any_eq_false.1 hany w hw
            simp only [Bool.or_eq_true, decide_eq_true_eq] at this
            omega⟩
          refine ifT_neg rfl ?_
          rw [hO.len, ordUp_len]
          refine ⟨fun q => q = r, [vf, .lptr [mU, mV], .lptr [nU, nV], o, .lptr [p], .int .i64 (up.length : Int), .int .i64 0], h0, .cons (.refl _) (.cons (.refl _) (.cons (.refl _) (.cons (.refl _) (.cons (.ptr rfl (Heap.set_same _ _ _) rfl ?_) (Lits.refl _))))), ⟨fun _ _ => trivial, fun q o hq => ⟨o, Heap.set_sub hr q o hq, (fun e => by rw [e, hr] at hq; cases hq), .refl o⟩⟩, rfl, up.length + 1, ?_⟩
          · rw [cells_of_notAgg (intss_sc hP).2]
            exact Lits.refl _
          · refine bounded_l2 S hV hV' W' Wm F hf hO hP (fun hB => ?_) (fun hB => ?_) up.length 0 (by omega) (by intro a' ha'; omega)
            · have := good Wm W' F
              rwa [decide_eq_false hB] at this
            · have := good Wm W' F
              rwa [decide_eq_true hB] at this
      · exact ifT_pos (by simp; omega) (ifT_pos rfl (retG_drop (Heap.set_sub hr) (badF Wm W' fun F => hl F.len)))
end Go.Proofs.Ytinficcdpggiaaa

namespace Go.Proofs.Ytinficcdpggiaaa
open Go Go.Sym Go.Proofs.Try

variable {K : AVal → Heap → Prop} {h h0 : Heap} {up up' : List (List Int)} {val val' : List (List ByteArray)} {mU mV nU nV : AVal}

/-- where a node is forced, if its parts are forced as T says -/
noncomputable def fRow (up : List (List Int)) (val : List (List ByteArray)) (T : Nat → Nat → Bool) (x : Nd) (a : Nat) : Bool :=
  if x.k = 1 then inS (val.getD a []) x.s
  else if x.k = 3 then T x.l.toNat a && T x.r.toNat a
  else if x.k = 4 then T x.l.toNat a || T x.r.toNat a
  else if x.k = 5 then (List.range up.length).all fun b => !(rb up a b && (T x.l.toNat b && !T x.r.toNat b))
  else false
noncomputable def fT (up : List (List Int)) (val : List (List ByteArray)) (xs : List Nd) : Nat → Nat → Nat → Bool
  | 0 => fun _ _ => false
  | i + 1 => fun j a => if j = i then (match xs[i]? with | some x => fRow up val (fT up val xs i) x a | none => false) else fT up val xs i j a
/-- a table of truth values -/
def BTab (v : AVal) (T : Nat → Nat → Bool) (m n : Nat) : Prop := ∃ rows, SlOf 1 v rows ∧ rows.length = m ∧ ∀ i, i < m → ∃ e, rows[i]? = some e ∧ e.isAgg = false ∧ SlOf 1 e ((List.range n).map fun a => .bool (T i a))
theorem bool_row {e : AVal} {n : Nat} {g : Nat → Bool} (he : SlOf 1 e ((List.range n).map fun a => .bool (g a))) {a : Nat} (ha : a < n) (K : AVal → Prop) {h : Heap} : (ixS 1 e (a : Int) fun p => ld1 h p K) = K (.bool (g a)) := by
  rw [ixS_nat he (i := a) (e := .bool (g a)) (by simp [ha])]
  rfl
theorem BTab.row {v : AVal} {T : Nat → Nat → Bool} {m n : Nat} (B : BTab v T m n) {i : Nat} (hi : i < m) {h : Heap} : ∃ e, (∀ K : AVal → Prop, (ixS 1 v (i : Int) fun p => ld1 h p K) = K e) ∧ SlOf 1 e ((List.range n).map fun a => .bool (T i a)) := by
  obtain ⟨rows, h1, h2, h3⟩ := B
  obtain ⟨e, he, ha, hs⟩ := h3 i hi
  refine ⟨e, fun K => ?_, hs⟩
  rw [ixS_nat h1 he, cells_of_notAgg ha]
  rfl

structure MK (n : Nat) (g : Nat → Bool) (a : Nat) (marks : List Bool) : Prop where
  len : marks.length = n
  done : ∀ a', a' < a → marks[a']? = some (g a')
  rest : ∀ a', a ≤ a' → a' < n → marks[a']? = some false
theorem MK.next {n : Nat} {g : Nat → Bool} {a : Nat} {marks : List Bool} (M : MK n g a marks) (ha : a < n) : MK n g (a + 1) (marks.set a (g a)) where
  len := by rw [List.length_set]; exact M.len
  done a' h := by
    by_cases e : a' = a
    · subst e; exact List.getElem?_set_self (by rw [M.len]; exact ha)
    · rw [List.getElem?_set_ne (Ne.symm e)]; exact M.done a' (by omega)
  rest a' h1 h2 := by rw [List.getElem?_set_ne (by omega)]; exact M.rest a' (by omega) h2
theorem MK.all {n : Nat} {g : Nat → Bool} {marks : List Bool} (M : MK n g n marks) : marks.map AVal.bool = (List.range n).map fun a => .bool (g a) := by
  apply List.ext_getElem?
  intro i
  by_cases hi : i < n
  · simp [M.done i hi, hi]
  · rw [List.getElem?_eq_none (by rw [List.length_map, M.len]; omega), List.getElem?_eq_none (by simp; omega)]

/-- the table's memory -/
abbrev FS (h0 : Heap) (ro : Nat) (R : List AVal) (ra : Nat) (marks : List Bool) (h : Heap) : Prop := Own h0 [.cell ro (.row 1 R), .cell ra (.row 1 (marks.map .bool))] h
section
variable {ro ra N n i a : Nat} {R : List AVal} {marks : List Bool}
theorem FS.rdO (W : FS h0 ro R ra marks h) (hN : R.length = N) {j : Nat} {e : AVal} (hj : R[j]? = some e) (ha : e.isAgg = false) {K : AVal → Prop} (hk : K e) : ixS 1 (.sl ro 1 0 N) (j : Int) fun p => ld1 h p K := by
  refine ixS_sl0 (by rw [← hN]; exact (List.getElem?_eq_some_iff.1 hj).1) ?_
  rw [ld1_ptr (W.get 0 _ ro rfl rfl) hj ha]
  exact hk
theorem FS.rdI (W : FS h0 ro R ra marks h) (hN : R.length = N) {k : Int} {e : AVal} (h1 : 0 ≤ k) (hj : R[k.toNat]? = some e) (ha : e.isAgg = false) {K : AVal → Prop} (hk : K e) : ixS 1 (.sl ro 1 0 N) k fun p => ld1 h p K := by
  have := FS.rdO W hN hj ha hk
  rwa [Int.toNat_of_nonneg h1] at this
theorem FS.rdA (W : FS h0 ro R ra marks h) (hn : marks.length = n) {b : Bool} (hm : marks[a]? = some b) {K : AVal → Prop} (hk : K (.bool b)) : ixS 1 (.sl ra 1 0 n) (a : Int) fun p => ld1 h p K := by
  refine ixS_sl0 (by rw [← hn]; exact (List.getElem?_eq_some_iff.1 hm).1) ?_
  rw [ld1_ptr (W.get 1 _ ra rfl rfl) (e := .bool b) (by simp [hm]) rfl]
  exact hk
theorem FS.wrA (W : FS h0 ro R ra marks h) (hn : marks.length = n) (ha : a < n) (b : Bool) {K : Heap → Prop} (hk : ∀ h', FS h0 ro R ra (marks.set a b) h' → K h') : ixS 1 (.sl ra 1 0 n) (a : Int) fun p => st true h p [.bool b] K := by
  refine ixS_sl0 ha ?_
  have hlt : a < marks.length := by rw [hn]; exact ha
  refine st_elem (e := .bool marks[a]) (W.get 1 _ ra rfl rfl) (by simp [hlt]) rfl ?_
  have W2 := W.put (i := 1) rfl (.row 1 ((marks.map .bool).set a (.bool b)))
  rw [← List.map_set] at W2 ⊢
  exact hk _ W2
end

/-- what is fixed while one node is looked at -/
structure FX (up : List (List Int)) (val : List (List ByteArray)) (T : Nat → Nat → Bool) (i : Nat) (ra N : Nat) (R : List AVal) : Prop where
  lenR : R.length = N
  at_ : R[i]? = some (.sl ra 1 0 up.length)
  done : ∀ j, j < i → ∃ e, R[j]? = some e ∧ e.isAgg = false ∧ SlOf 1 e ((List.range up.length).map fun a => .bool (T j a))

variable {ro ra N i : Nat} {R : List AVal} {T : Nat → Nat → Bool} {x : Nd} {o rows : AVal}

theorem forced_l4 (X : FX up val T i ra N R) (S : Small up val) (hV : Strss mV val) (Wm : WF up val) {a : Nat} (ha : a < up.length) {m0 : List Bool} (hl : m0.length = up.length) {L1 : AVal → AVal → AVal → AVal → Int → Heap → Prop} {F : AVal → AVal → AVal → AVal → Int → AVal → Int → Heap → Prop}
    (hgo : ∀ h, FS h0 ro R ra (m0.set a (inS (val.getD a []) x.s)) h → F o rows (.lptr [mU, mV]) (.sl ro 1 0 N) (i : Int) (.lptr (nodeC x)) ((a : Int) + 1) h) :
    ∀ d k : Nat, k + d = (val.getD a []).length → ∀ h, FS h0 ro R ra (m0.set a (inS ((val.getD a []).take k) x.s)) h → s56l4 K L1 (s56l2_G F) (d + 1) o rows (.lptr [mU, mV]) (.sl ro 1 0 N) (i : Int) (.lptr (nodeC x)) (a : Int) (k : Int) h
  | 0, k, hd, h, W => by
    have hmax := Wm.max
    have hav : a < val.length := by rw [Wm.len]; exact ha
    obtain ⟨e, he, hie⟩ := hV.ix hav
    unfold s56l4
    rw [addOff_lptr]
    simp only [List.drop_succ_cons, List.drop_zero, ld1_lptr]
    rw [getD_val hav] at hd W
    rw [hie, ld1_lptr, he.len]
    rw [List.take_of_length_le (by omega)] at W
    refine ifT_neg (by simp; omega) (rg_of (by omega) (by omega) (s56l2_go (hgo h ?_)))
    rw [getD_val hav]
    exact W
  | d + 1, k, hd, h, W => by
    have hmax := Wm.max
    have hav : a < val.length := by rw [Wm.len]; exact ha
    have hk : k < val[a].length := by rw [getD_val hav] at hd; omega
    have hsl := (S.names _ (List.getElem_mem hav)).2
    obtain ⟨e, he, hie⟩ := hV.ix hav
    have hl2 : ∀ b, (m0.set a b).length = up.length := fun b => by rw [List.length_set]; exact hl
    unfold s56l4
    rw [addOff_lptr]
    simp only [List.drop_succ_cons, List.drop_zero, ld1_lptr]
    rw [hie, ld1_lptr, he.len]
    refine ifT_pos (by simp; omega) (FS.rdO W X.lenR X.at_ rfl (FS.rdO W X.lenR X.at_ rfl (FS.rdA W (hl2 _) (List.getElem?_set_self (by rw [hl]; exact ha)) ?_)))
    rw [tBool_bool]
    have hsucc : inS ((val.getD a []).take (k + 1)) x.s = (inS ((val.getD a []).take k) x.s || strEq val[a][k] x.s) := by
      rw [getD_val hav, List.take_succ_eq_append_getElem hk]
      unfold inS
      rw [List.any_append, strEq_dec]
      simp
    cases hin : inS ((val.getD a []).take k) x.s with
    | true =>
      refine ifT_pos rfl (FS.wrA W (hl2 _) ha true fun h' W' => rg_of (by omega) (by omega) (s56l4_go ?_))
      refine forced_l4 X S hV Wm ha hl hgo d (k + 1) (by omega) h' ?_
      rw [List.set_set] at W'
      rw [hsucc, hin, Bool.true_or]
      exact W'
    | false =>
      refine ifT_neg rfl ?_
      rw [addOff_lptr]
      simp only [List.drop_succ_cons, List.drop_zero, ld1_lptr]
      rw [hie, ld1_lptr, he.ix hk, ld1_lptr, tStr_str]
      simp only [nodeC, addOff_lptr, List.drop_succ_cons, List.drop_zero, ld1_lptr, tStr_str]
      refine FS.wrA W (hl2 _) ha _ fun h' W' => rg_of (by omega) (by omega) (s56l4_go ?_)
      refine forced_l4 X S hV Wm ha hl hgo d (k + 1) (by omega) h' ?_
      rw [List.set_set] at W'
      rw [hsucc, hin, Bool.false_or]
      exact W'

theorem nat_of {k : Int} {i : Nat} (h : 0 ≤ k ∧ k < i) : k = ((k.toNat : Nat) : Int) ∧ k.toNat < i := by omega

theorem forced_l6 (X : FX up val T i ra N R) (hO : OTab o up) (Wm : WF up val) {a : Nat} (ha : a < up.length) {m0 : List Bool} (hl : m0.length = up.length) (hx : (0 ≤ x.l ∧ x.l < i) ∧ 0 ≤ x.r ∧ x.r < i) {L1 : AVal → AVal → AVal → AVal → Int → Heap → Prop} {F : AVal → AVal → AVal → AVal → Int → AVal → Int → Heap → Prop} {mm : AVal}
    (hgo : ∀ h, FS h0 ro R ra (m0.set a ((List.range up.length).all fun b => !(rb up a b && (T x.l.toNat b && !T x.r.toNat b)))) h → F o rows mm (.sl ro 1 0 N) (i : Int) (.lptr (nodeC x)) ((a : Int) + 1) h) :
    ∀ d b : Nat, b + d = up.length → ∀ h, FS h0 ro R ra (m0.set a ((List.range b).all fun b => !(rb up a b && (T x.l.toNat b && !T x.r.toNat b)))) h → s56l6 K L1 (s56l2_G F) (d + 1) o rows mm (.sl ro 1 0 N) (i : Int) (.lptr (nodeC x)) (a : Int) (b : Int) h
  | 0, b, hd, h, W => by
    have hmax := Wm.max
    obtain rfl : b = up.length := by omega
    unfold s56l6
    rw [hO.len]
    exact ifT_neg (by simp) (rg_of (by omega) (by omega) (s56l2_go (hgo h W)))
  | d + 1, b, hd, h, W => by
    have hmax := Wm.max
    have hb : b < up.length := by omega
    obtain ⟨hl1, hl2⟩ := nat_of hx.1
    obtain ⟨hr1, hr2⟩ := nat_of hx.2
    obtain ⟨eo, hre, _, hro⟩ := hO.row (h' := h) ha
    obtain ⟨el, hel, hal, hsl⟩ := X.done _ hl2
    obtain ⟨er, her, har, hsr⟩ := X.done _ hr2
    have hsucc : ((List.range (b + 1)).all fun b => !(rb up a b && (T x.l.toNat b && !T x.r.toNat b))) = (((List.range b).all fun b => !(rb up a b && (T x.l.toNat b && !T x.r.toNat b))) && !(rb up a b && (T x.l.toNat b && !T x.r.toNat b))) := by
      rw [List.range_succ, List.all_append]; simp
    have ih : ∀ h', FS h0 ro R ra (m0.set a ((List.range (b + 1)).all fun b => !(rb up a b && (T x.l.toNat b && !T x.r.toNat b)))) h' → s56l6_G (s56l6 K L1 (s56l2_G F) (d + 1)) o rows mm (.sl ro 1 0 N) (i : Int) (.lptr (nodeC x)) (a : Int) ((b : Int) + 1) h' :=
      fun h' W' => s56l6_go (forced_l6 X hO Wm ha hl hx hgo d (b + 1) (by omega) h' W')
    rw [hsucc] at ih
    have no : (rb up a b && (T x.l.toNat b && !T x.r.toNat b)) = false → s56c8 K L1 (s56l2_G F) (s56l6_G (s56l6 K L1 (s56l2_G F) (d + 1))) o rows mm (.sl ro 1 0 N) (i : Int) (.lptr (nodeC x)) (a : Int) (b : Int) false h := by
      intro e
      rw [e, Bool.not_false, Bool.and_true] at ih
      exact ifT_neg rfl (rg_of (by omega) (by omega) (ih h W))
    unfold s56l6
    rw [hO.len]
    refine ifT_pos (by simp; omega) ?_
    rw [hre, hro b hb, tBool_bool]
    cases h1 : rb up a b with
    | false => exact ifT_neg rfl (no (by rw [h1]; rfl))
    | true =>
      refine ifT_pos rfl ?_
      simp only [nodeC, addOff_lptr, List.drop_succ_cons, List.drop_zero, ld1_lptr, tInt_int]
      refine FS.rdI W X.lenR hx.1.1 hel hal ?_
      rw [bool_row hsl hb, tBool_bool]
      cases h2 : T x.l.toNat b with
      | false => exact ifT_neg rfl (no (by rw [h2]; simp))
      | true =>
        refine ifT_pos rfl ?_
        refine FS.rdI W X.lenR hx.2.1 her har ?_
        rw [bool_row hsr hb, tBool_bool]
        cases h3 : T x.r.toNat b with
        | true => exact no (by rw [h3]; simp)
        | false =>
          rw [h1, h2, h3, Bool.not_false, Bool.and_self, Bool.and_self, Bool.not_true, Bool.and_false] at ih
          refine ifT_pos rfl (FS.rdO W X.lenR X.at_ rfl (FS.wrA W (by rw [List.length_set]; exact hl) ha false fun h' W' => rg_of (by omega) (by omega) (ih h' ?_)))
          rw [List.set_set] at W'
          exact W'

theorem forced_l2 (X : FX up val T i ra N R) (S : Small up val) (hV : Strss mV val) (hO : OTab o up) (Wm : WF up val) (hx : NdOK i x) {L1 : AVal → AVal → AVal → AVal → Int → Heap → Prop} (hi : i ≤ 1024)
    (next : ∀ marks h, MK up.length (fRow up val T x) up.length marks → FS h0 ro R ra marks h → L1 o rows (.lptr [mU, mV]) (.sl ro 1 0 N) ((i : Int) + 1) h) :
    ∀ d a : Nat, a + d = up.length → ∀ marks h, MK up.length (fRow up val T x) a marks → FS h0 ro R ra marks h → s56l2 K L1 (d + 1) o rows (.lptr [mU, mV]) (.sl ro 1 0 N) (i : Int) (.lptr (nodeC x)) (a : Int) h
  | 0, a, hd, marks, h, M, W => by
    have hmax := Wm.max
    obtain rfl : a = up.length := by omega
    unfold s56l2
    rw [hO.len]
    exact ifT_neg (by simp) (rg_of (by omega) (by omega) (next marks h M W))
  | d + 1, a, hd, marks, h, M, W => by
    have hmax := Wm.max
    have ha : a < up.length := by omega
    have step : ∀ b h', b = fRow up val T x a → FS h0 ro R ra (marks.set a b) h' → s56l2 K L1 (d + 1) o rows (.lptr [mU, mV]) (.sl ro 1 0 N) (i : Int) (.lptr (nodeC x)) ((a : Int) + 1) h' := by
      intro b h' e W'
      subst e
      exact forced_l2 X S hV hO Wm hx hi next d (a + 1) (by omega) _ h' (M.next ha) W'
    have set0 : marks.set a false = marks := by
      apply List.ext_getElem?
      intro j
      by_cases e : a = j
      · subst e; rw [List.getElem?_set_self (by rw [M.len]; exact ha), M.rest a (Nat.le_refl _) ha]
      · rw [List.getElem?_set_ne e]
    unfold s56l2
    rw [hO.len]
    refine ifT_pos (by simp; omega) ?_
    have two : (0 ≤ x.l ∧ x.l < i) ∧ 0 ≤ x.r ∧ x.r < i → ∃ el er, (R[x.l.toNat]? = some el ∧ el.isAgg = false ∧ SlOf 1 el ((List.range up.length).map fun a => .bool (T x.l.toNat a))) ∧ R[x.r.toNat]? = some er ∧ er.isAgg = false ∧ SlOf 1 er ((List.range up.length).map fun a => .bool (T x.r.toNat a)) := fun hh => by
      obtain ⟨el, h1⟩ := X.done _ (nat_of hh.1).2
      obtain ⟨er, h2⟩ := X.done _ (nat_of hh.2).2
      exact ⟨el, er, h1, h2⟩
    simp only [nodeC, addOff_lptr, List.drop_succ_cons, List.drop_zero, ld1_lptr, tInt_int]
    by_cases k1 : x.k = 1
    · refine ifT_pos (by simpa using k1) (s56l4_in ((val.getD a []).length + 1) ?_)
      refine forced_l4 X S hV Wm ha M.len (fun h' W' => step _ h' (by unfold fRow; rw [if_pos k1]) W') _ 0 (by omega) h ?_
      rw [List.take_zero]
      show FS h0 ro R ra (marks.set a false) h
      rw [set0]
      exact W
    · refine ifT_neg (by simpa using k1) ?_
      by_cases k3 : x.k = 3
      · refine ifT_pos (by simpa using k3) ?_
        have hh : (0 ≤ x.l ∧ x.l < i) ∧ 0 ≤ x.r ∧ x.r < i := by
          rcases hx with h | h | h
          · exact absurd h k1
          · omega
          · exact h.2
        obtain ⟨el, er, ⟨h1, h2, h3⟩, h4, h5, h6⟩ := two hh
        have hf : fRow up val T x a = (T x.l.toNat a && T x.r.toNat a) := by unfold fRow; rw [if_neg k1, if_pos k3]
        refine FS.rdO W X.lenR X.at_ rfl (FS.rdI W X.lenR hh.1.1 h1 h2 ?_)
        rw [bool_row h3 ha, tBool_bool]
        cases e : T x.l.toNat a with
        | true =>
          refine ifT_pos rfl (FS.rdI W X.lenR hh.2.1 h4 h5 ?_)
          rw [bool_row h6 ha, tBool_bool]
          exact FS.wrA W M.len ha _ fun h' W' => rg_of (by omega) (by omega) (s56l2_go (step _ h' (by rw [hf, e, Bool.true_and]) W'))
        | false =>
          exact ifT_neg rfl (FS.wrA W M.len ha _ fun h' W' => rg_of (by omega) (by omega) (s56l2_go (step _ h' (by rw [hf, e, Bool.false_and]) W')))
      · refine ifT_neg (by simpa using k3) ?_
        by_cases k4 : x.k = 4
        · refine ifT_pos (by simpa using k4) ?_
          have hh : (0 ≤ x.l ∧ x.l < i) ∧ 0 ≤ x.r ∧ x.r < i := by
            rcases hx with h | h | h
            · exact absurd h k1
            · omega
            · exact h.2
          obtain ⟨el, er, ⟨h1, h2, h3⟩, h4, h5, h6⟩ := two hh
          have hf : fRow up val T x a = (T x.l.toNat a || T x.r.toNat a) := by unfold fRow; rw [if_neg k1, if_neg k3, if_pos k4]
          refine FS.rdO W X.lenR X.at_ rfl (FS.rdI W X.lenR hh.1.1 h1 h2 ?_)
          rw [bool_row h3 ha, tBool_bool]
          cases e : T x.l.toNat a with
          | false =>
            refine ifT_neg rfl (FS.rdI W X.lenR hh.2.1 h4 h5 ?_)
            rw [bool_row h6 ha, tBool_bool]
            exact FS.wrA W M.len ha _ fun h' W' => rg_of (by omega) (by omega) (s56l2_go (step _ h' (by rw [hf, e, Bool.false_or]) W'))
          | true =>
            exact ifT_pos rfl (FS.wrA W M.len ha _ fun h' W' => rg_of (by omega) (by omega) (s56l2_go (step _ h' (by rw [hf, e, Bool.true_or]) W')))
        · refine ifT_neg (by simpa using k4) ?_
          by_cases k5 : x.k = 5
          · refine ifT_pos (by simpa using k5) ?_
            have hh : (0 ≤ x.l ∧ x.l < i) ∧ 0 ≤ x.r ∧ x.r < i := by
              rcases hx with h | h | h
              · exact absurd h k1
              · omega
              · exact h.2
            have hf : fRow up val T x a = (List.range up.length).all fun b => !(rb up a b && (T x.l.toNat b && !T x.r.toNat b)) := by unfold fRow; rw [if_neg k1, if_neg k3, if_neg k4, if_pos k5]
            refine FS.rdO W X.lenR X.at_ rfl (FS.wrA W M.len ha true fun h' W' => s56l6_in (up.length + 1) ?_)
            exact forced_l6 X hO Wm ha M.len hh (fun h2 W2 => step _ h2 hf.symm W2) up.length 0 (by omega) h' W'
          · refine ifT_neg (by simpa using k5) (rg_of (by omega) (by omega) (s56l2_go (step false h ?_ (by rw [set0]; exact W))))
            unfold fRow
            rw [if_neg k1, if_neg k3, if_neg k4, if_neg k5]
end Go.Proofs.Ytinficcdpggiaaa

namespace Go.Proofs.Ytinficcdpggiaaa
open Go Go.Sym Go.Proofs.Try

variable {K : AVal → Heap → Prop} {h h0 : Heap} {up up' : List (List Int)} {val val' : List (List ByteArray)} {mU mV nU nV : AVal} {xs : List Nd} {o rows : AVal}

theorem renum3 {hb h : Heap} {a b c : Ow} (W : Own hb [a, b, c] h) : Own hb [a, c, b] h :=
  W.renum _ (fun j => if j = 1 then 2 else if j = 2 then 1 else j) (fun j y hj => by
    match j, hj with
    | 0, hj => exact hj
    | 1, hj => exact hj
    | 2, hj => exact hj
    | j + 3, hj => simp at hj) (show ∀ j, j < 3 → ∀ k, k < 3 → _ = _ → j = k by decide)

theorem fT_new {i : Nat} (hi : i < xs.length) (a : Nat) : fT up val xs (i + 1) i a = fRow up val (fT up val xs i) xs[i] a := by
  show (if i = i then _ else _) = _
  rw [if_pos rfl, List.getElem?_eq_getElem hi]
theorem fT_old {i j : Nat} (hj : j < i) (a : Nat) : fT up val xs (i + 1) j a = fT up val xs i j a := by
  show (if j = i then _ else _) = _
  rw [if_neg (by omega)]

theorem forced_l1 (S : Small up val) (hV : Strss mV val) (hO : OTab o up) (Wm : WF up val) (hx : Nodes rows xs) (T : TabOK xs) {ro : Nat} (good : ∀ v, BTab v (fT up val xs xs.length) xs.length up.length → K v h0) :
    ∀ d i : Nat, i + d = xs.length → ∀ R h, R.length = xs.length → (∀ j, j < i → ∃ e, R[j]? = some e ∧ e.isAgg = false ∧ SlOf 1 e ((List.range up.length).map fun a => .bool (fT up val xs i j a))) → (∀ j, i ≤ j → j < xs.length → R[j]? = some .nilsl) →
      Own h0 [.cell ro (.row 1 R)] h → s56l1 K (d + 1) o rows (.lptr [mU, mV]) (.sl ro 1 0 xs.length) (i : Int) h
  | 0, i, hd, R, h, hl, hdone, hrest, W => by
    obtain rfl : i = xs.length := by omega
    unfold s56l1
    rw [hx.len]
    refine ifT_neg (by simp) ?_
    exact ⟨fun q => q = ro, .lsl 1 R, h0, .whole rfl (W.get 0 _ ro rfl rfl) hl.symm, ⟨fun _ _ => trivial, fun q o hq => ⟨o, W.old q o hq, (fun e => by
      have := W.new 0 _ q rfl e
      rw [this] at hq; cases hq), .refl o⟩⟩, good _ ⟨R, .lsl 1 R, hl, hdone⟩⟩
  | d + 1, i, hd, R, h, hl, hdone, hrest, W => by
    have hi : i < xs.length := by omega
    have hxl := T.len
    have hmax := Wm.max
    have hok := T.ok i _ (List.getElem?_eq_getElem hi)
    unfold s56l1
    rw [hx.len]
    refine ifT_pos (by simp; omega) ?_
    rw [hx.ix hi, ldN_node]
    simp only [nodeC, tCons_cons, tInt_int, tStr_str, tNil_nil]
    refine newRow_in fun r hr => st_all (Heap.set_same _ _ _) rfl ?_
    have W1 := (W.newC hr (.row 4 [.agg [.int .i64 0, .str (ByteArray.mk #[]), .int .i64 0, .int .i64 0]])).put (i := 1) rfl (.row 4 [.agg (nodeC xs[i])])
    rw [hO.len]
    refine mkS_own (by omega) (by omega) fun ra hra => ?_
    have W2 := W1.newC hra (.row 1 (List.replicate up.length (.bool false)))
    refine ixS_sl0 hi (chk_iff.2 ⟨rfl, st_elem (W2.get 0 _ ro rfl rfl) (hrest i (Nat.le_refl _) hi) rfl ?_⟩)
    have W3 := renum3 (W2.put (i := 0) rfl (.row 1 (R.set i (.sl ra 1 0 up.length))))
    obtain ⟨h3, g3, W4, lit⟩ := freezeC (os := [.cell ro (.row 1 (R.set i (.sl ra 1 0 up.length))), .cell ra (.row 1 (List.replicate up.length (.bool false)))]) (cs := nodeC xs[i]) W3
    refine ⟨_, [o, rows, .lptr [mU, mV], .sl ro 1 0 xs.length, .int .i64 (i : Int), .lptr (nodeC xs[i]), .int .i64 0], h3, .cons (.refl _) (.cons (.refl _) (.cons (.refl _) (.cons (.refl _) (.cons (.refl _) (.cons lit (Lits.refl _)))))), g3, rfl, up.length + 1, ?_⟩
    have hset : (R.set i (.sl ra 1 0 up.length))[i]? = some (.sl ra 1 0 up.length) := List.getElem?_set_self (by rw [hl]; exact hi)
    have X : FX up val (fT up val xs i) i ra xs.length (R.set i (.sl ra 1 0 up.length)) := ⟨by simp [hl], hset, fun j hj => by
      rw [List.getElem?_set_ne (by omega)]
      exact hdone j hj⟩
    have W5 : FS h0 ro (R.set i (.sl ra 1 0 up.length)) ra (List.replicate up.length false) h3 := by
      unfold FS
      rw [List.map_replicate]
      exact W4
    refine forced_l2 X S hV hO Wm hok (by omega) (fun marks h' M W' => ?_) up.length 0 (by omega) _ h3 ⟨by simp, fun a' h' => by omega, fun a' _ h' => by simp [h']⟩ W5
    obtain ⟨h6, g6, W6⟩ := W'.step (fun n => n = ra) [.cell ro (.row 1 ((R.set i (.sl ra 1 0 up.length)).set i (.lsl 1 (marks.map .bool))))] (fun n hn => W'.new 1 _ n rfl hn) (fun j y' hj => by
      match j, hj with
      | 0, hj =>
        cases hj
        exact ⟨_, rfl, trivial, fun n hn => ⟨hn, fun hm => absurd (W'.one 0 1 _ _ n rfl rfl hn hm) (by decide)⟩, .row (Lits.set hset (.whole rfl (W'.get 1 _ ra rfl rfl) (by rw [List.length_map, M.len])))⟩
      | j + 1, hj => simp at hj)
    refine ⟨_, _, h6, Lits.refl _, g6, rfl, ?_⟩
    rw [List.set_set] at W6
    refine forced_l1 S hV hO Wm hx T good d (i + 1) (by omega) _ h6 (by simp [hl]) (fun j hj => ?_) (fun j h1 h2 => ?_) W6
    · by_cases e : j = i
      · subst e
        refine ⟨_, List.getElem?_set_self (by rw [hl]; exact hi), rfl, ?_⟩
        rw [M.all]
        have : (fun a => AVal.bool (fT up val xs (j + 1) j a)) = fun a => AVal.bool (fRow up val (fT up val xs j) xs[j] a) := by
          funext a; rw [fT_new hi]
        rw [this]
        exact .lsl 1 _
      · rw [List.getElem?_set_ne (Ne.symm e)]
        obtain ⟨e1, h1, h2, h3⟩ := hdone j (by omega)
        refine ⟨e1, h1, h2, ?_⟩
        have : (fun a => AVal.bool (fT up val xs (i + 1) j a)) = fun a => AVal.bool (fT up val xs i j a) := by
          funext a; rw [fT_old (by omega)]
        rw [this]
        exact h3
    · rw [List.getElem?_set_ne (by omega)]
      exact hrest j (by omega) h2
theorem forced_ok (S : Small up val) (hV : Strss mV val) (hO : OTab o up) (Wm : WF up val) (hx : Nodes rows xs) (T : TabOK xs) (good : ∀ v, BTab v (fT up val xs xs.length) xs.length up.length → K v h0) : ACalls prog 56 [.agg [mU, mV], o, rows] h0 K := by
  have hxl := T.len
  refine s56_ok ?_
  unfold s56
  rw [hx.len]
  refine mkS_own (by omega) (by omega) fun ro hro => s56l1_in (xs.length + 1) ?_
  exact forced_l1 S hV hO Wm hx T good xs.length 0 (by omega) _ _ (by simp) (fun j hj => by omega) (fun j _ hj => by simp [hj]) ((Own.start h0).newC hro (.row 1 (List.replicate xs.length .nilsl)))

/-- A BOUNDED MORPHISM KEEPS WHAT IS FORCED -/
theorem fT_keep (Wm : WF up val) (W' : WF up' val') {f : List Int} (F : FitF up up' f) (B : IsB up val up' val' f) (T : TabOK xs) : ∀ i, i ≤ xs.length → ∀ j, j < i → ∀ a, a < up.length → fT up val xs i j a = fT up' val' xs i j (gOf f a)
  | 0, _, j, hj, _, _ => by omega
  | i + 1, hi, j, hj, a, ha => by
    have ih := fT_keep Wm W' F B T i (by omega)
    by_cases e : j = i
    · subst e
      have hil : j < xs.length := by omega
      have hok := T.ok j _ (List.getElem?_eq_getElem hil)
      rw [fT_new hil, fT_new hil]
      have hB := B a ha
      unfold fRow
      by_cases k1 : xs[j].k = 1
      · rw [if_pos k1, if_pos k1, hB.1]
      · rw [if_neg k1, if_neg k1]
        by_cases k3 : xs[j].k = 3
        · rw [if_pos k3, if_pos k3]
          rcases hok with h | h | h
          · exact absurd h k1
          · omega
          · rw [ih _ (nat_of h.2.1).2 a ha, ih _ (nat_of h.2.2).2 a ha]
        · rw [if_neg k3, if_neg k3]
          by_cases k4 : xs[j].k = 4
          · rw [if_pos k4, if_pos k4]
            rcases hok with h | h | h
            · exact absurd h k1
            · omega
            · rw [ih _ (nat_of h.2.1).2 a ha, ih _ (nat_of h.2.2).2 a ha]
          · rw [if_neg k4, if_neg k4]
            by_cases k5 : xs[j].k = 5
            · rw [if_pos k5, if_pos k5]
              rcases hok with h | h | h
              · exact absurd h k1
              · omega
              · rw [Bool.eq_iff_iff, List.all_eq_true, List.all_eq_true]
                constructor
                · intro hall c hc
                  cases hr : rb up' (gOf f a) c with
                  | false => rfl
                  | true =>
                    obtain ⟨b, hb, rfl⟩ := hB.2.2 c (rb_iff.1 hr)
                    have hbl := hb.lt Wm.inR ha
                    have := hall b (List.mem_range.2 hbl)
                    rw [rb_iff.2 hb, ih _ (nat_of h.2.1).2 b hbl, ih _ (nat_of h.2.2).2 b hbl] at this
                    exact this
                · intro hall b hb
                  cases hr : rb up a b with
                  | false => rfl
                  | true =>
                    have hb' := hB.2.1 b (rb_iff.1 hr)
                    have hbl := List.mem_range.1 hb
                    have haf : a < f.length := by rw [F.len]; exact ha
                    have := hall (gOf f b) (List.mem_range.2 (hb'.lt W'.inR (F.get haf).2))
                    rw [rb_iff.2 hb', ← ih _ (nat_of h.2.1).2 b hbl, ← ih _ (nat_of h.2.2).2 b hbl] at this
                    exact this
            · rw [if_neg k5, if_neg k5]
    · rw [fT_old (by omega), fT_old (by omega)]
      exact ih j (by omega) a ha

theorem eqBoolQ (a b : Bool) {K : Bool → Prop} (hk : K (a == b)) : eqQ prog 4 (.bool a) (.bool b) K := by
  refine ⟨trivial, ?_⟩
  have : eqT prog 8 4 (.bool a) (.bool b) = some (a == b) := by kernel_rfl
  rw [this]
  exact hk

theorem keeps_l3 (Wm : WF up val) (W' : WF up' val') {f : List Int} (F : FitF up up' f) {vf p a b : AVal} (hf : Ints vf f) (hO : OTab o up) (hP : OTab p up') {T T' : Nat → Nat → Bool} (hA : BTab a T xs.length up.length) (hB : BTab b T' xs.length up'.length) (hx : xs.length ≤ 1024) {i : Nat} (hi : i < xs.length)
    (same : ∀ w, w < up.length → T i w = T' i (gOf f w)) {L2 : AVal → AVal → AVal → AVal → AVal → AVal → Int → Heap → Prop} (next : L2 vf rows o p a b ((i : Int) + 1) h0) :
    ∀ d w : Nat, w + d = up.length → s26l3 K L2 (d + 1) vf rows o p a b (i : Int) (w : Int) h0
  | 0, w, hd => by
    unfold s26l3
    rw [hO.len]
    exact ifT_neg (by simp; omega) (rg_of (by omega) (by omega) next)
  | d + 1, w, hd => by
    have hw : w < up.length := by omega
    have hmax := Wm.max
    have hwf : w < f.length := by rw [F.len]; exact hw
    obtain ⟨hfw, hgw⟩ := F.get hwf
    obtain ⟨ea, hra, hsa⟩ := hA.row (h := h0) hi
    obtain ⟨eb, hrb, hsb⟩ := hB.row (h := h0) hi
    unfold s26l3
    rw [hO.len]
    refine ifT_pos (by simp; omega) ?_
    rw [hf.ix hwf, ld1_lptr, tInt_int, hfw]
    refine ifT_neg (decide_eq_false (by omega)) ?_
    rw [hf.ix hwf, ld1_lptr, tInt_int, hfw, hP.len]
    refine ifT_neg (decide_eq_false (by omega)) ?_
    rw [hra, bool_row hsa hw, tBool_bool, hrb, hf.ix hwf, ld1_lptr, tInt_int, hfw, bool_row hsb hgw, tBool_bool]
    refine eqBoolQ _ _ (ifT_neg (by rw [same w hw]; simp) (rg_of (by omega) (by omega) (s26l3_go (keeps_l3 Wm W' F hf hO hP hA hB hx hi same next d (w + 1) (by omega)))))
theorem keeps_ok (S : Small up val) (hU : Intss mU up) (hV : Strss mV val) (S' : Small up' val') (hU' : Intss nU up') (hV' : Strss nV val') (Wm : WF up val) (W' : WF up' val') {f : List Int} {vf : AVal} (hf : Ints vf f) (F : FitF up up' f) (B : IsB up val up' val' f) (hx : Nodes rows xs) (T : TabOK xs) (hk : K (.bool true) h0) :
    ACalls prog 26 [.agg [mU, mV], .agg [nU, nV], vf, rows] h0 K := by
  have hxl := T.len
  refine s26_ok ?_
  unfold s26
  refine callG_of (right_ok S hU hV (fun hW => absurd Wm hW) fun _ o hO => ?_)
  simp only [tTup_tuple, tCons_cons, tBool_bool, tNil_nil]
  refine callG_of (right_ok S' hU' hV' (fun hW => absurd W' hW) fun _ p hP => ?_)
  simp only [tTup_tuple, tCons_cons, tBool_bool, tNil_nil]
  refine ifT_neg rfl (ifT_neg rfl ?_)
  rw [hf.len, hO.len]
  refine ifT_neg (by simp [F.len]) ?_
  rw [ldN_agg2]
  simp only [tCons_cons, tNil_nil]
  refine callG_of (forced_ok S hV hO Wm hx T fun a hA => ?_)
  rw [ldN_agg2]
  simp only [tCons_cons, tNil_nil]
  refine callG_of (forced_ok S' hV' hP W' hx T fun b hB => s26l2_in (xs.length + 1) ?_)
  have loop : ∀ d i : Nat, i + d = xs.length → s26l2 K (d + 1) vf rows o p a b (i : Int) h0 := by
    intro d
    induction d with
    | zero =>
      intro i hd
      unfold s26l2
      rw [hx.len]
      exact ifT_neg (by simp; omega) (retG_of hk)
    | succ d ih =>
      intro i hd
      have hi : i < xs.length := by omega
      unfold s26l2
      rw [hx.len]
      refine ifT_pos (by simp; omega) (s26l3_in (up.length + 1) ?_)
      exact keeps_l3 Wm W' F hf hO hP hA hB hxl hi (fun w hw => fT_keep Wm W' F B T _ (Nat.le_refl _) i hi w hw) (s26l2_go (ih (i + 1) (by omega))) up.length 0 (by omega)
  exact loop xs.length 0 (by omega)
end Go.Proofs.Ytinficcdpggiaaa

namespace Go.Proofs.Ytinficcdpggiaaa
open Go Go.Sym Go.Proofs.Try

variable {up : List (List Int)} {val : List (List ByteArray)}

theorem tidyUp_len : (tidyUp up).length = up.length := by simp [tidyUp]
theorem tidy_step (hi : InR up) {a b : Nat} : Step (tidyUp up) a b ↔ a < up.length ∧ b < up.length ∧ coverB up a b = true := by
  unfold Step
  constructor
  · rintro ⟨r, hr, hb⟩
    have ha : a < up.length := by
      have := (List.getElem?_eq_some_iff.1 hr).1
      rwa [tidyUp_len] at this
    rw [tidyUp_get ha] at hr
    cases hr
    obtain ⟨c, hc, e⟩ := mem_natI.1 hb
    obtain rfl : b = c := by omega
    unfold tidyRow at hc
    rw [List.mem_filter, List.mem_range] at hc
    exact ⟨ha, hc.1, hc.2⟩
  · rintro ⟨ha, hb, hc⟩
    refine ⟨_, tidyUp_get ha, mem_natI.2 ⟨b, ?_, rfl⟩⟩
    unfold tidyRow
    rw [List.mem_filter, List.mem_range]
    exact ⟨hb, hc⟩
/-- how many worlds stand between -/
noncomputable def ivl (up : List (List Int)) (a b : Nat) : Nat := ((List.range up.length).filter fun x => rb up a x && rb up x b).length
theorem reach_tidy (W : WF up val) {a b : Nat} (ha : a < up.length) : Reach (tidyUp up) a b ↔ Reach up a b := by
  have iT : InR (tidyUp up) := fun r hr b hb => by
    obtain ⟨i, hi, e⟩ := List.mem_iff_getElem.1 hr
    rw [tidyUp_len] at hi
    have h1 := tidyUp_get hi
    rw [List.getElem?_eq_getElem (by rw [tidyUp_len]; exact hi), e] at h1
    cases h1
    obtain ⟨c, hc, rfl⟩ := mem_natI.1 hb
    unfold tidyRow at hc
    rw [List.mem_filter, List.mem_range] at hc
    rw [tidyUp_len]
    omega
  constructor
  · intro h
    induction h with
    | refl => exact .refl
    | tail _ hs ih =>
      obtain ⟨_, _, hc⟩ := (tidy_step W.inR).1 hs
      unfold coverB startB at hc
      simp only [Bool.and_eq_true] at hc
      exact ih.trans (rb_iff.1 hc.1.2)
  · have main : ∀ n a b, a < up.length → ivl up a b ≤ n → Reach up a b → Reach (tidyUp up) a b := by
      intro n
      induction n with
      | zero =>
        intro a b ha hn h
        have hb := h.lt W.inR ha
        have : (List.range up.length).filter (fun x => rb up a x && rb up x b) = [] := List.eq_nil_of_length_eq_zero (by unfold ivl at hn; omega)
        have hm : a ∈ (List.range up.length).filter (fun x => rb up a x && rb up x b) := by
          rw [List.mem_filter, List.mem_range]
          exact ⟨ha, by rw [rb_iff.2 .refl, rb_iff.2 h]; rfl⟩
        rw [this] at hm
        simp at hm
      | succ n ih =>
        intro a b ha hn h
        have hb := h.lt W.inR ha
        by_cases e : a = b
        · subst e; exact .refl
        · by_cases hc : coverB up a b = true
          · exact Reach.tail .refl ((tidy_step W.inR).2 ⟨ha, hb, hc⟩)
          · have hst : startB up a b = true := by unfold startB; rw [rb_iff.2 h]; simpa using e
            unfold coverB at hc
            rw [hst, Bool.true_and] at hc
            have hc2 : ((List.range up.length).all (okc up a b)) = false := by simpa using hc
            obtain ⟨c, hcm, hco⟩ := List.all_eq_false.1 hc2
            have hcl := List.mem_range.1 hcm
            have hco : okc up a b c = false := by simpa using hco
            unfold okc at hco
            simp only [Bool.or_eq_false_iff, Bool.not_eq_false'] at hco
            obtain ⟨h1, h2, h3, h4⟩ := hco
            have hca : c ≠ a := by simpa using h1
            have hcb : c ≠ b := by simpa using h2
            have r1 := rb_iff.1 h3
            have r2 := rb_iff.1 h4
            have l1 : ivl up a c < ivl up a b := filter_lt (x := b) _ (fun x hx => by
              simp only [Bool.and_eq_true] at hx ⊢
              exact ⟨hx.1, rb_iff.2 ((rb_iff.1 hx.2).trans r2)⟩) (List.mem_range.2 hb) (by rw [rb_iff.2 h, rb_iff.2 .refl]; rfl) (by
              have : rb up b c = false := by
                cases hh : rb up b c with
                | false => rfl
                | true => exact absurd (rb_iff.1 hh) (W.cond c b hcl hb r2 hcb).1
              rw [this, Bool.and_false])
            have l2 : ivl up c b < ivl up a b := filter_lt (x := a) _ (fun x hx => by
              simp only [Bool.and_eq_true] at hx ⊢
              exact ⟨rb_iff.2 (r1.trans (rb_iff.1 hx.1)), hx.2⟩) (List.mem_range.2 ha) (by rw [rb_iff.2 h, rb_iff.2 .refl]; rfl) (by
              have : rb up c a = false := by
                cases hh : rb up c a with
                | false => rfl
                | true => exact absurd (rb_iff.1 hh) (W.cond a c ha hcl r1 (Ne.symm hca)).1
              rw [this, Bool.false_and])
            exact (ih a c ha (by omega) r1).trans (ih c b hcl (by omega) r2)
    exact main _ a b ha (Nat.le_refl _)
theorem wf_tidy (W : WF up val) : WF (tidyUp up) val where
  pos := by rw [tidyUp_len]; exact W.pos
  max := by rw [tidyUp_len]; exact W.max
  len := by rw [tidyUp_len]; exact W.len
  inR := fun r hr b hb => by
    obtain ⟨i, hi, e⟩ := List.mem_iff_getElem.1 hr
    rw [tidyUp_len] at hi
    have h1 := tidyUp_get hi
    rw [List.getElem?_eq_getElem (by rw [tidyUp_len]; exact hi), e] at h1
    cases h1
    obtain ⟨c, hc, rfl⟩ := mem_natI.1 hb
    unfold tidyRow at hc
    rw [List.mem_filter, List.mem_range] at hc
    rw [tidyUp_len]
    omega
  fine := W.fine
  cond a b ha hb := by
    rw [tidyUp_len] at ha hb
    intro h hne
    have := W.cond a b ha hb ((reach_tidy W ha).1 h) hne
    exact ⟨fun h' => this.1 ((reach_tidy W hb).1 h'), this.2⟩
end Go.Proofs.Ytinficcdpggiaaa

namespace Go.Proofs.Ytinficcdpggiaaa
open Go Go.Sym Go.Proofs.Try

variable {up : List (List Int)} {val : List (List ByteArray)}

/-- the next number to come before place i -/
def nxt (c : Nat → Nat) : Nat → Nat
  | 0 => 0
  | i + 1 => max (nxt c i) (c i + 1)
/-- numbers in the order in which they come -/
def RG (c : Nat → Nat) (n : Nat) : Prop := ∀ i, i < n → c i ≤ nxt c i
theorem RG.hit {c : Nat → Nat} {n : Nat} (h : RG c n) : ∀ i, i ≤ n → ∀ k, k < nxt c i → ∃ j, j < i ∧ c j = k
  | 0, _, k, hk => absurd hk (by simp [nxt])
  | i + 1, hi, k, hk => by
    have := h i (by omega)
    simp only [nxt] at hk
    by_cases e : k = c i
    · exact ⟨i, by omega, e.symm⟩
    · obtain ⟨j, hj, e2⟩ := RG.hit h i (by omega) k (by omega)
      exact ⟨j, by omega, e2⟩
theorem nxt_lt {c : Nat → Nat} : ∀ i j, j < i → c j < nxt c i
  | 0, j, h => by omega
  | i + 1, j, h => by
    simp only [nxt]
    by_cases e : j = i
    · subst e; omega
    · have := nxt_lt (c := c) i j (by omega)
      omega
theorem nxt_congr {c d : Nat → Nat} : ∀ i, (∀ j, j < i → c j = d j) → nxt c i = nxt d i
  | 0, _ => rfl
  | i + 1, h => by
    simp only [nxt]
    rw [nxt_congr i (fun j hj => h j (by omega)), h i (by omega)]
theorem RG.uniq {c d : Nat → Nat} {n : Nat} (hc : RG c n) (hd : RG d n) (h : ∀ i j, i < n → j < n → (c i = c j ↔ d i = d j)) : ∀ i, i ≤ n → ∀ j, j < i → c j = d j
  | 0, _, j, hj => by omega
  | i + 1, hi, j, hj => by
    have ih := RG.uniq hc hd h i (by omega)
    by_cases e : j = i
    · subst e
      have hn := nxt_congr j ih
      have h1 := hc j (by omega)
      have h2 := hd j (by omega)
      by_cases e1 : c j < nxt c j
      · obtain ⟨k, hk, e2⟩ := hc.hit j (by omega) _ e1
        have := (h k j (by omega) (by omega)).1 e2
        rw [← e2, ih k hk, this]
      · by_cases e3 : d j < nxt d j
        · obtain ⟨k, hk, e2⟩ := hd.hit j (by omega) _ e3
          have := (h k j (by omega) (by omega)).2 e2
          rw [← e2, ← ih k hk, this]
        · omega
    · exact ih j (by omega)
theorem nodup_len : ∀ {l m : List Nat}, l.Nodup → (∀ x ∈ l, x ∈ m) → l.length ≤ m.length
  | [], m, _, _ => by simp
  | x :: l, m, hn, hs => by
    have hx : x ∈ m := hs x List.mem_cons_self
    have h1 := List.nodup_cons.1 hn
    have := nodup_len (l := l) (m := m.erase x) h1.2 (fun y hy => by
      have hne : y ≠ x := fun e => h1.1 (e ▸ hy)
      exact (List.mem_erase_of_ne hne).2 (hs y (List.mem_cons_of_mem _ hy)))
    rw [List.length_erase_of_mem hx] at this
    have : 0 < m.length := List.length_pos_of_mem hx
    simp only [List.length_cons]; omega
/-- of each class one -/
noncomputable def rep (c : Nat → Nat) (n k : Nat) : Nat := if h : ∃ j, j < n ∧ c j = k then Classical.choose h else 0
theorem rep_spec {c : Nat → Nat} {n : Nat} (h : RG c n) {k : Nat} (hk : k < nxt c n) : rep c n k < n ∧ c (rep c n k) = k := by
  have hx := h.hit n (Nat.le_refl _) k hk
  unfold rep
  rw [dif_pos hx]
  exact Classical.choose_spec hx
theorem refine_nodup {c d : Nat → Nat} {n : Nat} (hc : RG c n) (hr : ∀ i j, i < n → j < n → d i = d j → c i = c j) : ((List.range (nxt c n)).map fun k => d (rep c n k)).Nodup := by
  rw [List.Nodup, List.pairwise_map]
  refine List.Pairwise.imp_of_mem ?_ (List.nodup_range (n := nxt c n))
  intro a b ha hb hne e
  have h1 := rep_spec hc (List.mem_range.1 ha)
  have h2 := rep_spec hc (List.mem_range.1 hb)
  have := hr _ _ h1.1 h2.1 e
  rw [h1.2, h2.2] at this
  exact hne this
theorem refine_le {c d : Nat → Nat} {n : Nat} (hc : RG c n) (hr : ∀ i j, i < n → j < n → d i = d j → c i = c j) : nxt c n ≤ nxt d n := by
  have := nodup_len (m := List.range (nxt d n)) (refine_nodup hc hr) (fun x hx => by
    obtain ⟨k, hk, rfl⟩ := List.mem_map.1 hx
    exact List.mem_range.2 (nxt_lt n _ (rep_spec hc (List.mem_range.1 hk)).1))
  simpa using this
theorem refine_eq {c d : Nat → Nat} {n : Nat} (hc : RG c n) (hr : ∀ i j, i < n → j < n → d i = d j → c i = c j) (he : nxt d n = nxt c n) {i j : Nat} (hi : i < n) (hj : j < n) (h : c i = c j) : d i = d j := by
  have hn := refine_nodup hc hr
  have key : ∀ x, x < n → d x = d (rep c n (c x)) := fun x hx => by
    have hin : d x ∈ (List.range (nxt c n)).map fun k => d (rep c n k) := by
      apply Classical.byContradiction
      intro hno
      have := nodup_len (m := List.range (nxt d n)) (List.nodup_cons.2 ⟨hno, hn⟩) (fun y hy => by
        rcases List.mem_cons.1 hy with rfl | hy
        · exact List.mem_range.2 (nxt_lt n _ hx)
        · obtain ⟨k, hk, rfl⟩ := List.mem_map.1 hy
          exact List.mem_range.2 (nxt_lt n _ (rep_spec hc (List.mem_range.1 hk)).1))
      simp at this
      omega
    obtain ⟨k, hk, e⟩ := List.mem_map.1 hin
    have hs := rep_spec hc (List.mem_range.1 hk)
    have := hr _ _ hs.1 hx e
    rw [hs.2] at this
    rw [← this, ← e]
  rw [key i hi, key j hj, h]

/- ---------------- keys, numbered ---------------- -/
theorem dst_pre : ∀ (b D : List ByteArray), ∃ E, b.foldl (fun D s => if inS D s then D else D ++ [s]) D = D ++ E
  | [], D => ⟨[], by simp⟩
  | s :: b, D => by
    rw [List.foldl_cons]
    obtain ⟨E, hE⟩ := dst_pre b (if inS D s then D else D ++ [s])
    split at hE
    · exact ⟨E, by rw [if_pos (by assumption), hE]⟩
    · exact ⟨s :: E, by rw [if_neg (by assumption), hE]; simp⟩
theorem dst_app (a b : List ByteArray) : ∃ E, dst (a ++ b) = dst a ++ E := by
  unfold dst
  rw [List.foldl_append]
  exact dst_pre b _
theorem idx_inj {D : List ByteArray} {s t : ByteArray} (hs : s ∈ D) (ht : t ∈ D) (h : idx D s = idx D t) : s = t := by
  have h1 := idx_get hs
  have h2 := idx_get ht
  rw [h, h2] at h1
  exact (Option.some.inj h1).symm
/-- the number of a world by its key -/
def num (P : Nat → ByteArray) (n w : Nat) : Nat := idx (dst ((List.range n).map P)) (P w)
theorem num_inj {P : Nat → ByteArray} {n u v : Nat} (hu : u < n) (hv : v < n) : num P n u = num P n v ↔ P u = P v := by
  have hm : ∀ x, x < n → P x ∈ dst ((List.range n).map P) := fun x hx => (dst_mem _ _ rfl).2 (List.mem_map.2 ⟨x, List.mem_range.2 hx, rfl⟩)
  exact ⟨fun h => idx_inj (hm u hu) (hm v hv) h, fun h => by unfold num; rw [h]⟩
theorem range_take {n i : Nat} (h : i ≤ n) : List.range n = List.range i ++ List.range' i (n - i) := by
  have e := List.range'_append_1 (s := 0) (m := i) (n := n - i)
  rw [Nat.zero_add, show i + (n - i) = n by omega] at e
  rw [List.range_eq_range', List.range_eq_range', ← e]
theorem num_at {P : Nat → ByteArray} {n : Nat} : ∀ i, i ≤ n → nxt (num P n) i = (dst ((List.range i).map P)).length ∧ ∀ x, x < i → num P n x = idx (dst ((List.range i).map P)) (P x)
  | 0, _ => ⟨by simp [nxt, dst], fun x hx => by omega⟩
  | i + 1, hi => by
    obtain ⟨ih, ih2⟩ := num_at (P := P) (n := n) i (by omega)
    have hin : ∀ x, x < i + 1 → P x ∈ dst ((List.range (i + 1)).map P) := fun x hx => (dst_mem _ _ rfl).2 (List.mem_map.2 ⟨x, List.mem_range.2 hx, rfl⟩)
    have e2 : ∀ x, x < i + 1 → num P n x = idx (dst ((List.range (i + 1)).map P)) (P x) := fun x hx => by
      unfold num
      rw [range_take hi, List.map_append]
      obtain ⟨E, hE⟩ := dst_app ((List.range (i + 1)).map P) ((List.range' (i + 1) (n - (i + 1))).map P)
      rw [hE, idx_app (hin x hx)]
    refine ⟨?_, e2⟩
    simp only [nxt]
    rw [ih, e2 i (by omega)]
    have ht : (List.range (i + 1)).map P = (List.range i).map P ++ [P i] := by rw [List.range_succ, List.map_append]; rfl
    rw [ht, dst_snoc]
    split
    · rename_i h1
      have := idx_lt (inS_iff.1 h1)
      omega
    · rename_i h1
      rw [idx_new (fun h => h1 (inS_iff.2 h))]
      simp
theorem num_rg (P : Nat → ByteArray) (n : Nat) : RG (num P n) n := fun i hi => by
  obtain ⟨h1, _⟩ := num_at (P := P) (n := n) i (by omega)
  obtain ⟨h2, h3⟩ := num_at (P := P) (n := n) (i + 1) (by omega)
  have h4 := nxt_lt (c := num P n) (i + 1) i (by omega)
  have ht : (List.range (i + 1)).map P = (List.range i).map P ++ [P i] := by rw [List.range_succ, List.map_append]; rfl
  rw [h2, ht, dst_snoc] at h4
  rw [h1]
  split at h4
  · omega
  · simp at h4; omega

/- ---------------- bisimilar worlds ---------------- -/
structure Bis (up : List (List Int)) (val : List (List ByteArray)) (R : Nat → Nat → Prop) : Prop where
  val : ∀ u v, R u v → val.getD u [] = val.getD v []
  to : ∀ u v, R u v → ∀ b, Reach up u b → ∃ d, Reach up v d ∧ R b d
  back : ∀ u v, R u v → ∀ d, Reach up v d → ∃ b, Reach up u b ∧ R b d
def Bsm (up : List (List Int)) (val : List (List ByteArray)) (u v : Nat) : Prop := ∃ R, Bis up val R ∧ R u v
theorem Bsm.bis (up : List (List Int)) (val : List (List ByteArray)) : Bis up val (Bsm up val) :=
  ⟨fun u v ⟨R, hR, h⟩ => hR.val u v h, fun u v ⟨R, hR, h⟩ b hb => by
    obtain ⟨d, h1, h2⟩ := hR.to u v h b hb
    exact ⟨d, h1, R, hR, h2⟩, fun u v ⟨R, hR, h⟩ b hb => by
    obtain ⟨d, h1, h2⟩ := hR.back u v h b hb
    exact ⟨d, h1, R, hR, h2⟩⟩
/-- the classes of bisimilar worlds, numbered -/
structure IsCls (up : List (List Int)) (val : List (List ByteArray)) (c : Nat → Nat) : Prop where
  rg : RG c up.length
  eq : ∀ u v, u < up.length → v < up.length → (c u = c v ↔ Bsm up val u v)
theorem IsCls.uniq {c d : Nat → Nat} (hc : IsCls up val c) (hd : IsCls up val d) : ∀ i, i < up.length → c i = d i :=
  hc.rg.uniq hd.rg (fun i j hi hj => (hc.eq i j hi hj).trans (hd.eq i j hi hj).symm) _ (Nat.le_refl _)

/- ---------------- the strings of the parts ---------------- -/
noncomputable def seenB (up : List (List Int)) (c : Nat → Nat) (w k : Nat) : Bool := (aboveL up w).any fun b => c b == k
noncomputable def seenL (up : List (List Int)) (c : Nat → Nat) (m w : Nat) : List Int := (List.range m).map fun k => if seenB up c w k then 1 else 0
noncomputable def partS (up : List (List Int)) (c : Nat → Nat) (m w : Nat) : ByteArray := strBs (seenL up c m w) ++ Utf8.encode (IntKind.i32.wrap ((c w : Int) + 1))
theorem strBs_list : ∀ (ns : List Int) (acc : ByteArray), (ns.foldl (fun r n => r.push (UInt8.ofNat n.toNat)) acc).data.toList = acc.data.toList ++ ns.map fun n => UInt8.ofNat n.toNat
  | [], acc => by simp
  | n :: ns, acc => by
    rw [List.foldl_cons, strBs_list ns]
    simp
def decU : List UInt8 → Nat
  | [a] => a.toNat
  | [a, b] => (a.toNat - 192) * 64 + (b.toNat - 128)
  | _ => 0
theorem decU_ok : ∀ c : Fin 514, decU (Utf8.encode (IntKind.i32.wrap (((c.val : Nat) : Int) + 1))).data.toList = c.val + 1 := by decide +kernel
theorem partS_inj {c : Nat → Nat} {m u v : Nat} (hu : c u < 514) (hv : c v < 514) (h : partS up c m u = partS up c m v) : c u = c v ∧ ∀ k, k < m → seenB up c u k = seenB up c v k := by
  have h1 := congrArg (fun b : ByteArray => b.data.toList) h
  unfold partS strBs at h1
  simp only [ByteArray.data_append, Array.toList_append, strBs_list] at h1
  have h2 := List.append_inj h1 (by simp [seenL])
  refine ⟨?_, fun k hk => ?_⟩
  · have e1 := decU_ok ⟨c u, hu⟩
    have e2 := decU_ok ⟨c v, hv⟩
    simp only at e1 e2
    rw [h2.2, e2] at e1
    omega
  · have h3 := congrArg (fun l : List UInt8 => l[k]?) (List.append_cancel_left h2.1)
    simp only [seenL, List.map_map, List.getElem?_map, List.getElem?_range hk, Option.map_some, Function.comp_apply, Option.some.injEq] at h3
    cases e1 : seenB up c u k <;> cases e2 : seenB up c v k <;> simp_all

/- ---------------- parting till nothing parts further ---------------- -/
theorem seenB_iff (hi : InR up) {c : Nat → Nat} {w k : Nat} (hw : w < up.length) : seenB up c w k = true ↔ ∃ b, Reach up w b ∧ c b = k := by
  unfold seenB
  rw [List.any_eq_true]
  constructor
  · rintro ⟨b, hb, e⟩
    exact ⟨b, (mem_aboveL hi hw).1 hb, by simpa using e⟩
  · rintro ⟨b, hb, e⟩
    exact ⟨b, (mem_aboveL hi hw).2 hb, by simpa using e⟩
structure CI (up : List (List Int)) (val : List (List ByteArray)) (c : Nat → Nat) : Prop where
  rg : RG c up.length
  bsm : ∀ u v, u < up.length → v < up.length → Bsm up val u v → c u = c v
  val : ∀ u v, u < up.length → v < up.length → c u = c v → val.getD u [] = val.getD v []
theorem nxt_le {c : Nat → Nat} {n : Nat} (h : RG c n) : ∀ i, i ≤ n → nxt c i ≤ i
  | 0, _ => by simp [nxt]
  | i + 1, hi => by
    have := nxt_le h i (by omega)
    have := h i (by omega)
    simp only [nxt]; omega
theorem CI.start (W : WF up val) : CI up val (num (fun w => keyS (val.getD w [])) up.length) where
  rg := num_rg _ _
  val u v hu hv h := by
    have h1 := (num_inj hu hv).1 h
    have hf : ∀ w, w < up.length → ∀ s ∈ val.getD w [], wordB s = true := fun w hw s hs => by
      have hwl : w < val.length := by rw [W.len]; exact hw
      have := W.fine _ (List.getElem_mem hwl)
      rw [getD_val hwl] at hs
      obtain ⟨i, hi, rfl⟩ := List.mem_iff_getElem.1 hs
      have h2 := List.all_eq_true.1 this i (by rw [List.mem_range'_1]; omega)
      unfold fine1 at h2
      simp only [Bool.and_eq_true] at h2
      rw [List.getD_eq_getElem?_getD, List.getElem?_eq_getElem hi] at h2
      exact h2.1
    exact keyS_inj (hf u hu) (hf v hv) h1
  bsm u v hu hv h := by
    rw [num_inj hu hv, (Bsm.bis up val).val u v h]
noncomputable def cstep (up : List (List Int)) (c : Nat → Nat) : Nat → Nat := num (partS up c (nxt c up.length)) up.length
theorem cstep_fine (W : WF up val) {c : Nat → Nat} (I : CI up val c) {u v : Nat} (hu : u < up.length) (hv : v < up.length) (h : cstep up c u = cstep up c v) : c u = c v ∧ ∀ b, Reach up u b → ∃ d, Reach up v d ∧ c b = c d := by
  have hmax := W.max
  have hlt : ∀ x, x < up.length → c x < 514 := fun x hx => by
    have h1 := nxt_lt (c := c) up.length x hx
    have h2 := nxt_le I.rg up.length (Nat.le_refl _)
    omega
  obtain ⟨h1, h2⟩ := partS_inj (hlt u hu) (hlt v hv) ((num_inj hu hv).1 h)
  refine ⟨h1, fun b hb => ?_⟩
  have h3 := h2 (c b) (nxt_lt _ _ (hb.lt W.inR hu))
  have h4 := (seenB_iff W.inR hu (c := c) (k := c b)).2 ⟨b, hb, rfl⟩
  rw [h3] at h4
  obtain ⟨d, hd, e⟩ := (seenB_iff W.inR hv).1 h4
  exact ⟨d, hd, e.symm⟩
theorem CI.next (W : WF up val) {c : Nat → Nat} (I : CI up val c) : CI up val (cstep up c) where
  rg := num_rg _ _
  val u v hu hv h := I.val u v hu hv (cstep_fine W I hu hv h).1
  bsm u v hu hv h := by
    unfold cstep
    rw [num_inj hu hv]
    have e1 := I.bsm u v hu hv h
    have e2 : seenL up c (nxt c up.length) u = seenL up c (nxt c up.length) v := by
      unfold seenL
      refine List.map_congr_left fun k _ => ?_
      have : seenB up c u k = seenB up c v k := by
        rw [Bool.eq_iff_iff, seenB_iff W.inR hu, seenB_iff W.inR hv]
        constructor
        · rintro ⟨b, hb, rfl⟩
          obtain ⟨d, hd, hbd⟩ := (Bsm.bis up val).to u v h b hb
          exact ⟨d, hd, (I.bsm b d (hb.lt W.inR hu) (hd.lt W.inR hv) hbd).symm⟩
        · rintro ⟨b, hb, rfl⟩
          obtain ⟨d, hd, hbd⟩ := (Bsm.bis up val).back u v h b hb
          exact ⟨d, hd, I.bsm d b (hd.lt W.inR hu) (hb.lt W.inR hv) hbd⟩
      rw [this]
    unfold partS
    rw [e1, e2]
theorem cstep_le (W : WF up val) {c : Nat → Nat} (I : CI up val c) : nxt c up.length ≤ nxt (cstep up c) up.length :=
  refine_le I.rg fun i j hi hj h => (cstep_fine W I hi hj h).1
theorem CI.done (W : WF up val) {c : Nat → Nat} (I : CI up val c) (he : nxt (cstep up c) up.length = nxt c up.length) : IsCls up val (cstep up c) where
  rg := num_rg _ _
  eq u v hu hv := by
    refine ⟨fun h => ⟨fun a b => a < up.length ∧ b < up.length ∧ cstep up c a = cstep up c b, ⟨fun a b ⟨ha, hb, e⟩ => (I.next W).val a b ha hb e, fun a b ⟨ha, hb, e⟩ x hx => ?_, fun a b ⟨ha, hb, e⟩ x hx => ?_⟩, hu, hv, h⟩, (I.next W).bsm u v hu hv⟩
    · obtain ⟨d, hd, e2⟩ := (cstep_fine W I ha hb e).2 x hx
      exact ⟨d, hd, hx.lt W.inR ha, hd.lt W.inR hb, refine_eq I.rg (fun i j hi hj h => (cstep_fine W I hi hj h).1) he (hx.lt W.inR ha) (hd.lt W.inR hb) e2⟩
    · obtain ⟨d, hd, e2⟩ := (cstep_fine W I hb ha e.symm).2 x hx
      exact ⟨d, hd, hd.lt W.inR ha, hx.lt W.inR hb, (refine_eq I.rg (fun i j hi hj h => (cstep_fine W I hi hj h).1) he (hx.lt W.inR hb) (hd.lt W.inR ha) e2).symm⟩
end Go.Proofs.Ytinficcdpggiaaa

namespace Go.Proofs.Ytinficcdpggiaaa
open Go Go.Sym Go.Proofs.Try

variable {K : AVal → Heap → Prop} {h h0 hb : Heap} {up : List (List Int)} {val : List (List ByteArray)} {mU mV : AVal}

theorem map_set {α : Type} (g : Nat → α) (n w : Nat) (y : α) : ((List.range n).map g).set w y = (List.range n).map fun x => if x = w then y else g x := by
  refine List.ext_getElem (by simp) fun i h1 h2 => ?_
  rw [List.getElem_set]
  by_cases e : w = i
  · subst e; simp
  · rw [if_neg e]
    simp [Ne.symm e]
theorem range_get {α : Type} (g : Nat → α) {n i : Nat} (hi : i < n) : ((List.range n).map g)[i]? = some (g i) := by simp [hi]

/- ---------------- the texts of the names ---------------- -/
theorem keyS_snoc (l : List ByteArray) (s : ByteArray) : keyS (l ++ [s]) = keyS l ++ (s ++ ByteArray.mk #[32]) := by
  unfold keyS
  rw [List.foldl_append]
  rfl
theorem keyS_size : ∀ (l : List ByteArray) (acc : ByteArray), (∀ s ∈ l, s.size ≤ 1048576) → (l.foldl (fun acc s => acc ++ (s ++ ByteArray.mk #[32])) acc).size ≤ acc.size + 1048577 * l.length
  | [], acc, _ => by simp
  | s :: l, acc, h => by
    rw [List.foldl_cons]
    have := keyS_size l (acc ++ (s ++ ByteArray.mk #[32])) (fun x hx => h x (List.mem_cons_of_mem _ hx))
    have h1 := h s List.mem_cons_self
    have h2 : (acc ++ (s ++ ByteArray.mk #[32])).size = acc.size + (s.size + 1) := by simp [ByteArray.size_append]; rfl
    simp only [List.length_cons]
    omega
theorem word_size {s : ByteArray} (h : wordB s = true) : s.size ≤ 31 := by
  unfold wordB at h
  simp only [Bool.and_eq_true, decide_eq_true_eq] at h
  exact h.2.1
theorem wf_word (W : WF up val) {w : Nat} (hw : w < up.length) : ∀ s ∈ val.getD w [], wordB s = true := fun s hs => by
  have hwl : w < val.length := by rw [W.len]; exact hw
  have := W.fine _ (List.getElem_mem hwl)
  rw [getD_val hwl] at hs
  obtain ⟨i, hi, rfl⟩ := List.mem_iff_getElem.1 hs
  have h2 := List.all_eq_true.1 this i (by rw [List.mem_range'_1]; omega)
  unfold fine1 at h2
  simp only [Bool.and_eq_true] at h2
  rw [List.getD_eq_getElem?_getD, List.getElem?_eq_getElem hi] at h2
  exact h2.1
def keyAt (val : List (List ByteArray)) (w i x : Nat) : ByteArray := if x < w then keyS (val.getD x []) else if x = w then keyS ((val.getD w []).take i) else ByteArray.mk #[]
def keyT (val : List (List ByteArray)) (n w i : Nat) : List AVal := (List.range n).map fun x => .str (keyAt val w i x)
theorem keyT_len {n w i : Nat} : (keyT val n w i).length = n := by simp [keyT]
theorem keyT_put {n w i : Nat} (hi : i < (val.getD w []).length) : (keyT val n w i).set w (.str (keyS ((val.getD w []).take i) ++ ((val.getD w [])[i] ++ ByteArray.mk #[32]))) = keyT val n w (i + 1) := by
  unfold keyT
  rw [map_set]
  refine List.map_congr_left fun x _ => ?_
  unfold keyAt
  by_cases e : x = w
  · subst e
    rw [if_pos rfl, if_neg (by omega), if_pos rfl, List.take_succ_eq_append_getElem hi, keyS_snoc]
  · rw [if_neg e, if_neg e, if_neg e]
theorem keyT_row {n w : Nat} : keyT val n w (val.getD w []).length = keyT val n (w + 1) 0 := by
  unfold keyT
  refine List.map_congr_left fun x _ => ?_
  unfold keyAt
  by_cases e : x < w
  · rw [if_pos e, if_pos (by omega)]
  · by_cases e2 : x = w
    · subst e2
      rw [if_neg e, if_pos rfl, if_pos (by omega), List.take_length]
    · rw [if_neg e, if_neg e2, if_neg (by omega)]
      split
      · rfl
      · rfl

theorem keys_l2 (S : Small up val) (W : WF up val) {w : Nat} (hw : w < up.length) {e o : AVal} (he : Strs e (val.getD w [])) {ro : Nat} {F : AVal → AVal → AVal → Int → Int → Heap → Prop}
    (next : ∀ h', Own h0 [.cell ro (.row 1 (keyT val up.length (w + 1) 0))] h' → F o (.sl ro 1 0 up.length) mV (up.length : Int) ((w : Int) + 1) h') :
    ∀ d i : Nat, i + d = (val.getD w []).length → ∀ h, Own h0 [.cell ro (.row 1 (keyT val up.length w i))] h →
      s34l2 K (s34l1_G F) (d + 1) o (.sl ro 1 0 up.length) (w : Int) mV (up.length : Int) (w : Int) e ((val.getD w []).length : Int) (i : Int) h
  | 0, i, hd, h, Ow => by
    obtain rfl : i = (val.getD w []).length := by omega
    have hmax := W.max
    unfold s34l2
    refine ifT_neg (by simp) (rg_of (by omega) (by omega) (s34l1_go (next h ?_)))
    rw [← keyT_row]
    exact Ow
  | d + 1, i, hd, h, Ow => by
    have hi : i < (val.getD w []).length := by omega
    have hwl : w < val.length := by rw [W.len]; exact hw
    have hsz : (val.getD w []).length ≤ 1048576 := by
      rw [getD_val hwl]
      exact (S.names _ (List.getElem_mem hwl)).2
    have h31 := word_size (wf_word W hw _ (List.getElem_mem hi))
    have hks := keyS_size ((val.getD w []).take i) (ByteArray.mk #[]) (fun s hs => by
      have := word_size (wf_word W hw _ (List.mem_of_mem_take hs))
      omega)
    have hks : (keyS ((val.getD w []).take i)).size ≤ 1048577 * (val.getD w []).length := by
      unfold keyS
      have e0 : (ByteArray.mk #[]).size = 0 := rfl
      rw [e0, List.length_take] at hks
      refine Nat.le_trans hks ?_
      have : min i (val.getD w []).length ≤ (val.getD w []).length := by omega
      have := Nat.mul_le_mul_left 1048577 this
      omega
    have hg : (keyT val up.length w i)[w]? = some (.str (keyS ((val.getD w []).take i))) := by
      unfold keyT
      rw [range_get _ hw]
      unfold keyAt
      rw [if_neg (by omega), if_pos rfl]
    have e1 : (ByteArray.mk #[32]).size = 1 := rfl
    have e2 : ((val.getD w [])[i] ++ ByteArray.mk #[32]).size = (val.getD w [])[i].size + 1 := by rw [ByteArray.size_append]; rfl
    unfold s34l2
    refine ifT_pos (decide_eq_true (by omega)) ?_
    rw [he.ix hi, ld1_lptr, tStr_str]
    refine ixS_sl0 hw ?_
    rw [ld1_ptr (Ow.get 0 _ ro rfl rfl) hg rfl, tStr_str]
    refine ⟨by rw [e1]; omega, by rw [e2]; omega, ixS_sl0 hw (st_elem (Ow.get 0 _ ro rfl rfl) hg rfl (rg_of (by omega) (by omega) (s34l2_go ?_)))⟩
    refine keys_l2 S W hw he next d (i + 1) (by omega) _ ?_
    have W2 := Ow.put (i := 0) rfl (.row 1 ((keyT val up.length w i).set w (.str (keyS ((val.getD w []).take i) ++ ((val.getD w [])[i] ++ ByteArray.mk #[32])))))
    rw [keyT_put hi] at W2
    rw [keyT_put hi]
    exact W2

/- ---------------- the texts of the parts ---------------- -/
noncomputable def seenT (up : List (List Int)) (c : Nat → Nat) (m w j : Nat) : List AVal := (List.range m).map fun k => .int .u8 (if ((aboveL up w).take j).any (fun b => c b == k) then 1 else 0)
theorem seenT_next {c : Nat → Nat} {m w j : Nat} (hj : j < (aboveL up w).length) : (seenT up c m w j).set (c (aboveL up w)[j]) (.int .u8 1) = seenT up c m w (j + 1) := by
  unfold seenT
  rw [map_set]
  refine List.map_congr_left fun k _ => ?_
  rw [List.take_succ_eq_append_getElem hj, List.any_append]
  by_cases e : k = c (aboveL up w)[j]
  · rw [if_pos e, if_pos (by simp [e])]
  · rw [if_neg e]
    have : ([(aboveL up w)[j]].any fun b => c b == k) = false := by simpa using Ne.symm e
    rw [this, Bool.or_false]
theorem bytesOf_u8 : ∀ (l : List Nat) (f : Nat → Int), bytesOf (l.map fun k => .int .u8 (f k)) = some (l.map f)
  | [], f => rfl
  | k :: l, f => by
    rw [List.map_cons, List.map_cons]
    unfold bytesOf
    rw [bytesOf_u8 l f]
theorem elemsA_sl {h : Heap} {r es : Nat} {l : List AVal} (hr : h r = some (.row es l)) : elemsA es h (.sl r es 0 l.length) = some l := by
  unfold elemsA
  simp [hr]
noncomputable def outT (up : List (List Int)) (c : Nat → Nat) (n m w : Nat) : List AVal := (List.range n).map fun x => .str (if x < w then partS up c m x else ByteArray.mk #[])
theorem outT_put {c : Nat → Nat} {n m w : Nat} : (outT up c n m w).set w (.str (partS up c m w)) = outT up c n m (w + 1) := by
  unfold outT
  rw [map_set]
  refine List.map_congr_left fun x _ => ?_
  by_cases e : x = w
  · subst e; rw [if_pos rfl, if_pos (by omega)]
  · rw [if_neg e]
    by_cases e2 : x < w
    · rw [if_pos e2, if_pos (by omega)]
    · rw [if_neg e2, if_neg (by omega)]
theorem strBs_size (ns : List Int) : (strBs ns).size = ns.length := by
  have := congrArg List.length (strBs_list ns ByteArray.empty)
  unfold strBs
  rw [Array.length_toList] at this
  show (ns.foldl _ ByteArray.empty).data.size = _
  rw [this]; simp
theorem enc_size (r : Int) : (Utf8.encode r).size ≤ 4 := by
  unfold Utf8.encode
  simp only
  repeat' split
  all_goals first | exact (by decide : 1 ≤ 4) | exact (by decide : 2 ≤ 4) | exact (by decide : 3 ≤ 4) | exact (by decide : 4 ≤ 4)
section
variable {c : Nat → Nat} {m r1 r2 : Nat} {cv o : AVal}
theorem parts_l2 (W : WF up val) (hm : ∀ w, w < up.length → c w < m) (hmx : m ≤ 512) (hc : Ints cv ((List.range up.length).map fun w => ((c w : Nat) : Int))) (h2 : h0 r2 = some (.row 1 [cv])) {w : Nat} (hw : w < up.length) {e : AVal} (he : Ints e (natI (aboveL up w))) {ro rs : Nat}
    {F : AVal → AVal → AVal → AVal → Int → Int → Heap → Prop} (next : ∀ h', Own h0 [.cell ro (.row 1 (outT up c up.length m (w + 1)))] h' → F (.lptr [o]) (.ptr r1 0 0) (.ptr r2 0 0) (.sl ro 1 0 up.length) (up.length : Int) ((w : Int) + 1) h') :
    ∀ d j : Nat, j + d = (aboveL up w).length → ∀ h, Own h0 [.cell ro (.row 1 (outT up c up.length m w)), .cell rs (.row 1 (seenT up c m w j))] h →
      s64l2 K (s64l1_G F) (d + 1) (.lptr [o]) (.ptr r1 0 0) (.ptr r2 0 0) (.sl ro 1 0 up.length) (w : Int) (.sl rs 1 0 m) (up.length : Int) (w : Int) e ((aboveL up w).length : Int) (j : Int) h
  | 0, j, hd, h, Ow => by
    obtain rfl : j = (aboveL up w).length := by omega
    have hmax := W.max
    have hcl := hm w hw
    have hl : (seenT up c m w (aboveL up w).length).length = m := by simp [seenT]
    have hse : bStrR h (.sl rs 1 0 m) = some (strBs (seenL up c m w)) := by
      unfold bStrR
      have := elemsA_sl (Ow.get 1 _ rs rfl rfl)
      rw [hl] at this
      rw [this]
      simp only [seenT, bytesOf_u8, List.take_length]
      rfl
    have hcvl : ((List.range up.length).map fun w => ((c w : Nat) : Int)).length = up.length := by simp
    have hget : ((List.range up.length).map fun w => ((c w : Nat) : Int))[w]'(by rw [hcvl]; exact hw) = (c w : Int) := by simp
    have hgo : (outT up c up.length m w)[w]? = some (.str (ByteArray.mk #[])) := by
      unfold outT
      rw [range_get _ hw, if_neg (by omega)]
    unfold s64l2
    refine ifT_neg (by simp) ?_
    unfold bStr
    rw [hse]
    simp only
    rw [ld1_one (Ow.old _ _ h2) (sc_cells hc.notAgg.2).2.1, hc.ix (by rw [hcvl]; exact hw), ld1_lptr, hget, tInt_int]
    have h5 := enc_size (IntKind.i32.wrap ((c w : Int) + 1))
    have h6 : (seenL up c m w).length = m := by simp [seenL]
    refine rg_of (by omega) (by omega) ⟨by rw [strBs_size, h6]; omega, ixS_sl0 hw (st_elem (Ow.get 0 _ ro rfl rfl) hgo rfl (rg_of (by omega) (by omega) (s64l1_go (next _ ?_))))⟩
    have W2 := Own.pop (os := [.cell ro (.row 1 (outT up c up.length m w))]) Ow
    have W3 := W2.put (i := 0) rfl (.row 1 ((outT up c up.length m w).set w (.str (partS up c m w))))
    rw [outT_put] at W3
    have e9 : strBs (seenL up c m w) ++ Utf8.encode (IntKind.i32.wrap ((c w : Int) + 1)) = partS up c m w := rfl
    rw [e9, outT_put]
    exact W3
  | d + 1, j, hd, h, Ow => by
    have hj : j < (aboveL up w).length := by omega
    have hmax := W.max
    have hab := above_len (up := up) (a := w)
    have hjl := ((mem_aboveL W.inR hw).1 (List.getElem_mem hj)).lt W.inR hw
    have hcj := hm _ hjl
    have hcvl : ((List.range up.length).map fun w => ((c w : Nat) : Int)).length = up.length := by simp
    have hget : ((List.range up.length).map fun w => ((c w : Nat) : Int))[(aboveL up w)[j]]'(by rw [hcvl]; exact hjl) = (c (aboveL up w)[j] : Int) := by simp
    unfold s64l2
    refine ifT_pos (decide_eq_true (by omega)) ?_
    rw [he.ix (i := j) (by simpa [natI] using hj), ld1_lptr, tInt_int]
    have hrow : (natI (aboveL up w))[j]'(by simpa [natI] using hj) = (((aboveL up w)[j] : Nat) : Int) := by simp [natI]
    rw [hrow, ld1_one (Ow.old _ _ h2) (sc_cells hc.notAgg.2).2.1, hc.ix (by rw [hcvl]; exact hjl), ld1_lptr, hget, tInt_int]
    have hgs : (seenT up c m w j)[c (aboveL up w)[j]]? = some (.int .u8 (if ((aboveL up w).take j).any (fun b => c b == c (aboveL up w)[j]) then 1 else 0)) := by
      unfold seenT
      rw [range_get _ hcj]
    refine ixS_sl0 hcj (st_elem (Ow.get 1 _ rs rfl rfl) hgs rfl (rg_of (by omega) (by omega) (s64l2_go ?_)))
    refine parts_l2 W hm hmx hc h2 hw he next d (j + 1) (by omega) _ ?_
    have W2 := Ow.put (i := 1) rfl (.row 1 ((seenT up c m w j).set (c (aboveL up w)[j]) (.int .u8 1)))
    rw [seenT_next hj] at W2 ⊢
    exact W2
end
end Go.Proofs.Ytinficcdpggiaaa

namespace Go.Proofs.Ytinficcdpggiaaa
open Go Go.Sym Go.Proofs.Try

variable {K : AVal → Heap → Prop} {h h0 : Heap}

theorem mid_eq (a : Nat) (ha : a < 1000000000) : Int.fdiv (IntKind.u64.wrap (a : Int)) (2 ^ (min (Int.toNat 1) (IntKind.u64.bits))) = ((a / 2 : Nat) : Int) := by
  have h1 : IntKind.u64.wrap (a : Int) = (a : Int) := by
    simp only [IntKind.wrap, IntKind.bits, IntKind.signed, Bool.false_and, Bool.false_eq_true, if_false]
    omega
  rw [h1, show (2 : Int) ^ (min (Int.toNat 1) (IntKind.u64.bits)) = 2 by rfl, Int.fdiv_eq_ediv_of_nonneg _ (by decide)]
  omega
theorem less_ok (x y : Int) (hk : K (.bool (decide (x < y))) h) : ACalls prog 81 [.int .i64 x, .int .i64 y] h K := by
  refine s81_ok ?_
  unfold s81
  refine callG_of (s86_ok (retG_of ?_))
  rw [tBool_bool]
  exact ifT_neg (by simp) (retG_of hk)
/-- numbers that rise -/
def Rise (l : List Int) : Prop := ∀ (i j : Nat) (hi : i < l.length) (hj : j < l.length), i < j → l[i] < l[j]
theorem search_l1 {v : AVal} {l : List Int} (hv : Ints v l) (hl : l.length ≤ 1048576) (hr : Rise l) (t : Int) (yes : ∀ k : Nat, l[k]? = some t → K (.tuple [.int .i64 k, .bool true]) h) (no : t ∉ l → ∀ k : Int, K (.tuple [.int .i64 k, .bool false]) h) :
    ∀ d i j : Nat, j - i ≤ d → i ≤ j → j ≤ l.length → (∀ x (hx : x < l.length), x < i → l[x] < t) → (∀ x (hx : x < l.length), j ≤ x → t ≤ l[x]) → s58l1 K (d + 1) v t (l.length : Int) (i : Int) (j : Int) h := by
  intro d
  induction d with
  | zero =>
    intro i j hd hij hjl hlo hhi
    obtain rfl : i = j := by omega
    unfold s58l1
    refine ifT_neg (by simp) ?_
    by_cases hi : i < l.length
    · refine ifT_pos (by simp; omega) ?_
      rw [hv.ix hi, ld1_lptr, tInt_int]
      by_cases e : l[i] = t
      · refine ifT_pos (by simpa using e) (retG_of (yes i (by rw [List.getElem?_eq_getElem hi, e])))
      · refine ifT_neg (by simpa using e) ?_
        rw [hv.ix hi, ld1_lptr, tInt_int]
        refine callG_of (s82_ok (retG_of ?_))
        rw [tBool_bool]
        refine ifT_neg (by simp) (retG_of (no (fun hm => ?_) i))
        obtain ⟨x, hx, hxt⟩ := List.mem_iff_getElem.1 hm
        by_cases h1 : x < i
        · have := hlo x hx h1; omega
        · by_cases h2 : x = i
          · subst h2; exact e hxt
          · have := hr i x hi hx (by omega)
            have := hhi i hi (Nat.le_refl _)
            omega
    · refine ifT_neg (by simp; omega) (retG_of (no (fun hm => ?_) i))
      obtain ⟨x, hx, hxt⟩ := List.mem_iff_getElem.1 hm
      have := hlo x hx (by omega)
      omega
  | succ d ih =>
    intro i j hd hij hjl hlo hhi
    by_cases e : i < j
    · unfold s58l1
      refine ifT_pos (by simp; omega) ?_
      have hcast : ((i : Int) + (j : Int)) = ((i + j : Nat) : Int) := by omega
      rw [hcast, mid_eq (i + j) (by omega)]
      have hm : (i + j) / 2 < l.length := by omega
      refine rg_of (by omega) (by omega) ⟨by decide, rg_of (by omega) (by omega) ?_⟩
      rw [hv.ix hm, ld1_lptr, tInt_int]
      refine callG_of (less_ok _ _ ?_)
      rw [tBool_bool]
      by_cases hlt : l[(i + j) / 2] < t
      · refine ifT_pos (decide_eq_true hlt) (rg_of (by omega) (by omega) (s58l1_go ?_))
        refine ih ((i + j) / 2 + 1) j (by omega) (by omega) hjl (fun x hx hxm => ?_) hhi
        by_cases h2 : x = (i + j) / 2
        · subst h2; exact hlt
        · have := hr x ((i + j) / 2) hx hm (by omega)
          omega
      · refine ifT_neg (decide_eq_false hlt) (s58l1_go ?_)
        refine ih i ((i + j) / 2) (by omega) (by omega) (by omega) hlo (fun x hx hxm => ?_)
        by_cases h2 : x = (i + j) / 2
        · subst h2; omega
        · have := hr ((i + j) / 2) x hm hx (by omega)
          omega
    · have := ih i j (by omega) hij hjl hlo hhi
      unfold s58l1 at this ⊢
      obtain rfl : i = j := by omega
      have e1 : decide ((i : Int) < (i : Int)) = false := by simp
      rw [e1, ifT_false] at this ⊢
      exact this
theorem search_ok {v : AVal} {l : List Int} (hv : Ints v l) (hl : l.length ≤ 1048576) (hr : Rise l) (t : Int) (yes : ∀ k : Nat, l[k]? = some t → K (.tuple [.int .i64 k, .bool true]) h) (no : t ∉ l → ∀ k : Int, K (.tuple [.int .i64 k, .bool false]) h) :
    ACalls prog 58 [v, .int .i64 t] h K := by
  refine s58_ok ?_
  unfold s58
  rw [hv.len]
  exact s58l1_in (l.length + 1) (search_l1 hv hl hr t yes no l.length 0 l.length (by omega) (by omega) (by omega) (by intro x hx h; omega) (by intro x hx h; omega))
end Go.Proofs.Ytinficcdpggiaaa

namespace Go.Proofs.Ytinficcdpggiaaa
open Go Go.Sym Go.Proofs.Try

variable {K : AVal → Heap → Prop} {h h0 hb : Heap} {up : List (List Int)} {val : List (List ByteArray)} {mU mV : AVal}

/- ---- plain law ---- -/
/-- worlds that rise -/
structure Worlds (up : List (List Int)) (L : List Nat) : Prop where
  pos : L ≠ []
  lt : ∀ x ∈ L, x < up.length
  rise : ∀ (i j : Nat) (hi : i < L.length) (hj : j < L.length), i < j → L[i] < L[j]
noncomputable def subRow (up : List (List Int)) (L : List Nat) (a : Nat) : List Nat := (List.range L.length).filter fun k => rb up (L.getD a 0) (L.getD k 0)
noncomputable def subUp (up : List (List Int)) (L : List Nat) : List (List Int) := (List.range L.length).map fun a => natI (subRow up L a)
def subVal (val : List (List ByteArray)) (L : List Nat) : List (List ByteArray) := L.map fun x => val.getD x []
/-- rows that say who is above whom among them, each world itself being there or not -/
structure SubRows (up : List (List Int)) (L : List Nat) (rows : List (List Int)) : Prop where
  len : rows.length = L.length
  has : ∀ a k, a < L.length → k < L.length → k ≠ a → Reach up (L.getD a 0) (L.getD k 0) → Step rows a k
  only : ∀ a r, rows[a]? = some r → ∀ b ∈ r, ∃ k, b = ((k : Nat) : Int) ∧ k < L.length ∧ Reach up (L.getD a 0) (L.getD k 0)
theorem SubRows.inR {L : List Nat} {rows : List (List Int)} (R : SubRows up L rows) : InR rows := fun r hr b hb => by
  obtain ⟨a, ha, e⟩ := List.mem_iff_getElem.1 hr
  obtain ⟨k, rfl, hk, _⟩ := R.only a r (by rw [List.getElem?_eq_getElem ha, e]) b hb
  rw [R.len]
  omega
theorem SubRows.reach {L : List Nat} {rows : List (List Int)} (R : SubRows up L rows) {a b : Nat} (ha : a < L.length) : Reach rows a b ↔ b < L.length ∧ Reach up (L.getD a 0) (L.getD b 0) := by
  constructor
  · intro h
    induction h with
    | refl => exact ⟨ha, .refl⟩
    | @tail b c _ hs ih =>
      obtain ⟨r, hr, hc⟩ := hs
      obtain ⟨k, e, hk, hR⟩ := R.only _ r hr _ hc
      obtain rfl : c = k := by omega
      exact ⟨hk, ih.2.trans hR⟩
  · rintro ⟨hb, hR⟩
    by_cases e : b = a
    · subst e; exact .refl
    · exact .tail .refl (R.has a b ha hb e hR)
theorem subUp_rows (up : List (List Int)) (L : List Nat) : SubRows up L (subUp up L) where
  len := by simp [subUp]
  has a k ha hk _ hR := by
    refine ⟨natI (subRow up L a), by simp [subUp, ha], mem_natI.2 ⟨k, ?_, rfl⟩⟩
    unfold subRow
    rw [List.mem_filter, List.mem_range]
    exact ⟨hk, rb_iff.2 hR⟩
  only a r hr b hb := by
    have ha : a < L.length := by
      have := (List.getElem?_eq_some_iff.1 hr).1
      simpa [subUp] using this
    have e : r = natI (subRow up L a) := by simpa [subUp, ha] using hr.symm
    subst e
    obtain ⟨k, hk, rfl⟩ := mem_natI.1 hb
    unfold subRow at hk
    rw [List.mem_filter, List.mem_range] at hk
    exact ⟨k, rfl, hk.1, rb_iff.1 hk.2⟩
theorem SubRows.tidy {L : List Nat} {rows : List (List Int)} (R : SubRows up L rows) : tidyUp rows = tidyUp (subUp up L) := by
  have R2 := subUp_rows up L
  refine tidyUp_congr (by rw [R.len, R2.len]) fun a b ha hb => ?_
  rw [R.len] at ha hb
  rw [Bool.eq_iff_iff, rb_iff, rb_iff, R.reach ha, R2.reach ha]
theorem getD_mem {L : List Nat} {a : Nat} (ha : a < L.length) : L.getD a 0 = L[a] := by simp [List.getD, ha]
theorem subVal_get (val : List (List ByteArray)) {L : List Nat} {a : Nat} (ha : a < L.length) : (subVal val L).getD a [] = val.getD (L.getD a 0) [] := by
  simp [subVal, List.getD, ha]
theorem SubRows.wf {L : List Nat} {rows : List (List Int)} (R : SubRows up L rows) (W : WF up val) (hL : Worlds up L) (hmax : L.length ≤ up.length) : WF rows (subVal val L) where
  pos := by
    rw [R.len]
    have := hL.pos
    cases L with
    | nil => exact absurd rfl this
    | cons _ _ => simp
  max := by rw [R.len]; exact Nat.le_trans hmax W.max
  len := by rw [R.len]; simp [subVal]
  inR := R.inR
  fine l hl := by
    simp only [subVal, List.mem_map] at hl
    obtain ⟨x, hx, rfl⟩ := hl
    have hxl : x < val.length := by rw [W.len]; exact hL.lt x hx
    rw [getD_val hxl]
    exact W.fine _ (List.getElem_mem hxl)
  cond a b ha hb := by
    rw [R.len] at ha hb
    intro h hne
    obtain ⟨_, hR⟩ := (R.reach ha).1 h
    have hlt := fun x (hx : x < L.length) => hL.lt _ (List.getElem_mem hx)
    have hne2 : L.getD a 0 ≠ L.getD b 0 := by
      rw [getD_mem ha, getD_mem hb]
      intro e
      rcases Nat.lt_or_gt_of_ne hne with h1 | h1
      · have := hL.rise a b ha hb h1; omega
      · have := hL.rise b a hb ha h1; omega
    have := W.cond (L.getD a 0) (L.getD b 0) (by rw [getD_mem ha]; exact hlt a ha) (by rw [getD_mem hb]; exact hlt b hb) hR hne2
    refine ⟨fun h' => this.1 ((R.reach hb).1 h').2, ?_⟩
    rw [subVal_get val ha, subVal_get val hb]
    exact this.2
theorem above_worlds (W : WF up val) {w : Nat} (hw : w < up.length) : Worlds up (aboveL up w) where
  pos e := by
    have : w ∈ aboveL up w := (mem_aboveL W.inR hw).2 .refl
    rw [e] at this
    simp at this
  lt x hx := by
    unfold aboveL at hx
    rw [List.mem_filter, List.mem_range] at hx
    exact hx.1
  rise i j hi hj hij := by
    have hp : (aboveL up w).Pairwise (· < ·) := List.Pairwise.filter _ List.pairwise_lt_range
    exact (List.pairwise_iff_getElem.1 hp) i j hi hj hij
theorem Worlds.inj {L : List Nat} (hL : Worlds up L) {i j : Nat} (hi : i < L.length) (hj : j < L.length) (e : L[i] = L[j]) : i = j := by
  rcases Nat.lt_trichotomy i j with h1 | h1 | h1
  · have := hL.rise i j hi hj h1; omega
  · exact h1
  · have := hL.rise j i hj hi h1; omega
theorem Worlds.natRise {L : List Nat} (hL : Worlds up L) : Rise (natI L) := fun i j hi hj hij => by
  simp only [natI, List.length_map] at hi hj
  have := hL.rise i j hi hj hij
  simp only [natI, List.getElem_map]
  omega
end Go.Proofs.Ytinficcdpggiaaa

namespace Go.Proofs.Ytinficcdpggiaaa
open Go Go.Sym Go.Proofs.Try

variable {K : AVal → Heap → Prop} {h h0 hb : Heap} {up : List (List Int)} {val : List (List ByteArray)} {mU mV : AVal}

theorem Own.toBase {hb h : Heap} {os : List Ow} (W : Own hb os h) (S : Nat → Prop) (hS : ∀ n, S n → hb n = none) : Go.Sym.GStep h hb S :=
  ⟨fun _ _ => trivial, fun q o hq => ⟨o, W.old q o hq, (fun hs => by rw [hS q hs] at hq; cases hq), .refl o⟩⟩
/-- what has been told of a world behind j of the worlds above it -/
structure PQ (up : List (List Int)) (L : List Nat) (a j : Nat) (R : List Nat) : Prop where
  has : ∀ k, k < L.length → k ≠ a → (∃ i : Nat, i < j ∧ (aboveL up (L.getD a 0))[i]? = some (L.getD k 0)) → k ∈ R
  only : ∀ k ∈ R, k < L.length ∧ Reach up (L.getD a 0) (L.getD k 0)
  len : R.length ≤ j
theorem PQ.rows {L : List Nat} {a : Nat} {R : List Nat} (W : WF up val) (hL : Worlds up L) (ha : a < L.length) (P : PQ up L a (aboveL up (L.getD a 0)).length R) :
    (∀ k, k < L.length → k ≠ a → Reach up (L.getD a 0) (L.getD k 0) → ((k : Nat) : Int) ∈ natI R) ∧ ∀ b ∈ natI R, ∃ k, b = ((k : Nat) : Int) ∧ k < L.length ∧ Reach up (L.getD a 0) (L.getD k 0) := by
  have hal : L.getD a 0 < up.length := by rw [getD_mem ha]; exact hL.lt _ (List.getElem_mem ha)
  refine ⟨fun k hk hne hR => mem_natI.2 ⟨k, P.has k hk hne ?_, rfl⟩, fun b hb => ?_⟩
  · obtain ⟨i, hi, e⟩ := List.mem_iff_getElem.1 ((mem_aboveL W.inR hal).2 hR)
    exact ⟨i, hi, by rw [List.getElem?_eq_getElem hi, e]⟩
  · obtain ⟨k, hk, rfl⟩ := mem_natI.1 hb
    exact ⟨k, rfl, P.only k hk⟩

/-- the memory of a model under way -/
abbrev UV (hb : Heap) (ro : Nat) (sU sV vU : AVal) (LU : List AVal) (vV : AVal) (LV : List AVal) (h : Heap) : Prop := Own hb [.cell ro (.row 2 [.agg [sU, sV]]), .slc 1 vU LU, .slc 1 vV LV] h

theorem part_l2 (S : Small up val) (W : WF up val) (hV : Strss mV val) {L : List Nat} (hL : Worlds up L) (hLl : L.length ≤ 512) {vl o t6 : AVal} (hl : Ints vl (natI L)) {a : Nat} (ha : a < L.length) {e : AVal} (he : Ints e (natI (aboveL up (L.getD a 0)))) {ro : Nat} {vU vV : AVal} {LU LV : List AVal} (hLU : LU.length ≤ 512) (hLV : LV.length ≤ 512)
    {F : AVal → AVal → AVal → AVal → AVal → AVal → Int → Int → Heap → Prop}
    (next : ∀ vU' vV' row' cp R h', PQ up L a (aboveL up (L.getD a 0)).length R → Ints row' (natI R) → Strs cp (val.getD (L.getD a 0) []) → UV hb ro vU' vV' vU' (LU ++ [row']) vV' (LV ++ [cp]) h' → F o vl (.lptr [mU, mV]) t6 (.ptr ro 0 0) vl (L.length : Int) ((a : Int) + 1) h') :
    ∀ d j : Nat, j + d = (aboveL up (L.getD a 0)).length → ∀ R row h, PQ up L a j R → Own hb [.cell ro (.row 2 [.agg [vU, vV]]), .slc 1 vU LU, .slc 1 vV LV, .slc 1 row ((natI R).map (.int .i64))] h →
      s30l2 K (s30l1_G F) (d + 1) o vl (.lptr [mU, mV]) t6 (.ptr ro 0 0) ((L.getD a 0 : Nat) : Int) row vl (L.length : Int) (a : Int) e ((aboveL up (L.getD a 0)).length : Int) (j : Int) h
  | 0, j, hd, R, row, h, P, Ow => by
    have hal : L.getD a 0 < val.length := by rw [W.len, getD_mem ha]; exact hL.lt _ (List.getElem_mem ha)
    obtain ⟨c, hc, hic⟩ := hV.ix hal
    obtain rfl : j = (aboveL up (L.getD a 0)).length := by omega
    unfold s30l2
    refine ifT_neg (by simp) ?_
    rw [addOff_ptr, ld1_fld (Ow.get 0 _ ro rfl rfl) rfl]
    refine chk_iff.2 ⟨(Ow.sc (i := 3) rfl).1, Ow.app (i := 1) rfl (by omega) (by omega) fun v2 h2 W2 => ?_⟩
    refine chk_iff.2 ⟨(W2.sc (i := 1) rfl).1, st_fst (W2.get 0 _ ro rfl rfl) ?_⟩
    have W3 := W2.put (i := 0) rfl (.row 2 [.agg [v2, vV]])
    rw [addOff_ptr, ld1_fld (W3.get 0 _ ro rfl rfl) rfl, addOff_lptr]
    simp only [List.drop_succ_cons, List.drop_zero, ld1_lptr]
    rw [hic, ld1_lptr]
    refine callG_of (cloneS_ok hc ((S.names _ (List.getElem_mem hal)).1.1) fun cp hcp => ⟨by rw [ld1_fld (W3.get 0 _ ro rfl rfl) rfl], chk_iff.2 ⟨hcp.notAgg.2, ⟨by rw [ld1_fld (W3.get 0 _ ro rfl rfl) rfl], W3.app (i := 2) rfl (by omega) (by omega) fun v3 h3 W4 => ?_⟩⟩⟩)
    refine chk_iff.2 ⟨(W4.sc (i := 2) rfl).1, st_snd (W4.get 0 _ ro rfl rfl) (rg_of (by omega) (by omega) ?_)⟩
    have W5 : Own hb ([.cell ro (.row 2 [.agg [v2, v3]]), .slc 1 v2 (LU ++ [row]), .slc 1 v3 (LV ++ [cp])] ++ [.slc 1 row ((natI R).map (.int .i64))]) _ := W4.put (i := 0) rfl (.row 2 [.agg [v2, v3]])
    obtain ⟨Sg, h', row', s1, g, W6⟩ := W5.settleL (i := 1) rfl
    exact ⟨Sg, _, h', Lits.refl _, g, rfl, next v2 v3 row' cp R h' P s1 (by rw [getD_val hal]; exact hcp) W6⟩
  | d + 1, j, hd, R, row, h, P, Ow => by
    have hj : j < (aboveL up (L.getD a 0)).length := by omega
    have hmax := W.max
    have hal2 := above_len (up := up) (a := L.getD a 0)
    have hrl := P.len
    have hal : L.getD a 0 < up.length := by rw [getD_mem ha]; exact hL.lt _ (List.getElem_mem ha)
    have hRb := (mem_aboveL W.inR hal).1 (List.getElem_mem hj)
    unfold s30l2
    refine ifT_pos (decide_eq_true (by omega)) ?_
    rw [he.ix (i := j) (by simpa [natI] using hj), ld1_lptr, tInt_int]
    have hrow : (natI (aboveL up (L.getD a 0)))[j]'(by simpa [natI] using hj) = (((aboveL up (L.getD a 0))[j] : Nat) : Int) := by simp [natI]
    rw [hrow]
    have skip : ((aboveL up (L.getD a 0))[j] ∈ L → (aboveL up (L.getD a 0))[j] = L.getD a 0) → ∀ k : Int, s30c4 K (s30l1_G F) (s30l2_G (s30l2 K (s30l1_G F) (d + 1))) o vl (.lptr [mU, mV]) t6 (.ptr ro 0 0) ((L.getD a 0 : Nat) : Int) row k vl (L.length : Int) (a : Int) e ((aboveL up (L.getD a 0)).length : Int) (j : Int) false h := by
      intro hs k
      refine ifT_neg rfl (rg_of (by omega) (by omega) (s30l2_go ?_))
      refine part_l2 S W hV hL hLl hl ha he hLU hLV next d (j + 1) (by omega) R row h ⟨fun k hk hne hi => ?_, P.only, by omega⟩ Ow
      obtain ⟨i, hi, hi2⟩ := hi
      by_cases e1 : i = j
      · subst e1
        rw [List.getElem?_eq_getElem hj] at hi2
        have e2 : (aboveL up (L.getD a 0))[i] = L.getD k 0 := Option.some.inj hi2
        have e3 := hs (by rw [e2, getD_mem hk]; exact List.getElem_mem hk)
        rw [e2, getD_mem hk, getD_mem ha] at e3
        exact absurd (hL.inj hk ha e3) hne
      · exact P.has k hk hne ⟨i, by omega, hi2⟩
    refine callG_of (search_ok hl (by simp [natI]; omega) hL.natRise _ (fun k hk => ?_) (fun hno k => ?_))
    · simp only [tTup_tuple, tCons_cons, tInt_int, tBool_bool, tNil_nil]
      refine ifT_pos rfl ?_
      have hkl : k < L.length := by
        have := (List.getElem?_eq_some_iff.1 hk).1
        simpa [natI] using this
      have hke : L[k] = (aboveL up (L.getD a 0))[j] := by
        have : ((L[k] : Nat) : Int) = (((aboveL up (L.getD a 0))[j] : Nat) : Int) := by simpa [natI, hkl] using hk
        omega
      by_cases e1 : (aboveL up (L.getD a 0))[j] = L.getD a 0
      · rw [show ((((aboveL up (L.getD a 0))[j] : Nat) : Int) != ((L.getD a 0 : Nat) : Int)) = false from bne_eq_false_iff_eq.2 (by rw [e1])]
        exact skip (fun _ => e1) _
      · rw [show ((((aboveL up (L.getD a 0))[j] : Nat) : Int) != ((L.getD a 0 : Nat) : Int)) = true from bne_iff_ne.2 (by omega)]
        refine ifT_pos rfl (Ow.app (i := 3) rfl (by simp [natI]; omega) (by simp [natI]; omega) fun row2 h2 W2 => rg_of (by omega) (by omega) (s30l2_go ?_))
        refine part_l2 (vU := vU) (vV := vV) S W hV hL hLl hl ha he hLU hLV next d (j + 1) (by omega) (R ++ [k]) row2 h2 ⟨fun k' hk' hne hi => ?_, fun k' hk' => ?_, by simp; omega⟩ ?_
        · obtain ⟨i, hi, hi2⟩ := hi
          by_cases e2 : i = j
          · subst e2
            rw [List.getElem?_eq_getElem hj, getD_mem hk'] at hi2
            have e3 := Option.some.inj hi2
            rw [← hke] at e3
            rw [hL.inj hkl hk' e3]
            simp
          · exact List.mem_append_left _ (P.has k' hk' hne ⟨i, by omega, hi2⟩)
        · rcases List.mem_append.1 hk' with hk' | hk'
          · exact P.only k' hk'
          · rw [List.mem_singleton.1 hk', getD_mem hkl, hke]
            exact ⟨hkl, hRb⟩
        · simpa [natI] using W2
    · simp only [tTup_tuple, tCons_cons, tInt_int, tBool_bool, tNil_nil]
      refine ifT_neg rfl (skip (fun hm => absurd (mem_natI.2 ⟨_, hm, rfl⟩) hno) _)

theorem part_l1 (S : Small up val) (W : WF up val) (hV : Strss mV val) {L : List Nat} (hL : Worlds up L) (hLl : L.length ≤ 512) (hLu : L.length ≤ up.length) {vl o : AVal} (hl : Ints vl (natI L)) (hO : Intss o (ordUp up)) {ro rt : Nat} {X Y : AVal} (ht : hb rt = some (.row 2 [.agg [X, Y]])) (hsub : ∀ q o, h0 q = some o → q ≠ rt ∧ hb q = some o)
    (good : ∀ vU vV, Intss vU (tidyUp (subUp up L)) → Strss vV (subVal val L) → K (.agg [vU, vV]) h0) :
    ∀ d a : Nat, a + d = L.length → ∀ vU vV LU LV h (rows : List (List Int)), All2 Ints LU rows → rows.length = a → (∀ a' k, a' < a → k < L.length → k ≠ a' → Reach up (L.getD a' 0) (L.getD k 0) → Step rows a' k) →
      (∀ a' r, rows[a']? = some r → r.length ≤ 512 ∧ ∀ b ∈ r, ∃ k, b = ((k : Nat) : Int) ∧ k < L.length ∧ Reach up (L.getD a' 0) (L.getD k 0)) → All2 Strs LV ((subVal val L).take a) → UV hb ro vU vV vU LU vV LV h →
      s30l1 K (d + 1) o vl (.lptr [mU, mV]) (.ptr rt 0 0) (.ptr ro 0 0) vl (L.length : Int) (a : Int) h
  | 0, a, hd, vU, vV, LU, LV, h, rows, hR, hrl, hhas, honly, hLV, Ow => by
    obtain rfl : a = L.length := by omega
    have hsv : (subVal val L).length = L.length := by simp [subVal]
    rw [List.take_of_length_le (by omega)] at hLV
    have SR : SubRows up L rows := ⟨hrl, hhas, fun a' r hr => (honly a' r hr).2⟩
    unfold s30l1
    refine ifT_neg (by simp) ?_
    rw [ldN2 (Ow.get 0 _ ro rfl rfl), tCons_cons, tCons_cons, tNil_nil]
    let Sg : Nat → Prop := fun n => nameOf vU n ∨ nameOf vV n
    obtain ⟨u', lu, su⟩ := Ow.lit (i := 1) rfl (S := Sg) (fun n h => .inl h) (Lits.refl LU)
    obtain ⟨v', lv, sv⟩ := Ow.lit (i := 2) rfl (S := Sg) (fun n h => .inr h) (Lits.refl LV)
    have SS : Small rows (subVal val L) := ⟨by omega, by omega, fun r hr => by
      obtain ⟨i, hi, e⟩ := List.mem_iff_getElem.1 hr
      have := (honly i r (by rw [List.getElem?_eq_getElem hi, e])).1
      omega, fun l hl => by
      simp only [subVal, List.mem_map] at hl
      obtain ⟨x, hx, rfl⟩ := hl
      have hxl : x < val.length := by rw [W.len]; exact hL.lt x hx
      rw [getD_val hxl]
      exact S.names _ (List.getElem_mem hxl)⟩
    refine ⟨Sg, [.agg [u', v']], hb, .cons (.agg (.cons lu (.cons lv .nil))) .nil, Own.toBase Ow Sg (fun n hn => by
      rcases hn with hn | hn
      · exact Ow.new 1 _ n rfl hn
      · exact Ow.new 2 _ n rfl hn), tidied_ok (up := rows) (val := subVal val L) SS ⟨_, su, hR⟩ ⟨_, sv, hLV⟩ (SR.wf W hL hLu) fun a b ha hbv => ?_⟩
    simp only [tAgg_agg, tCons_cons, tNil_nil]
    refine st_all ht rfl ?_
    rw [ldN2 (Heap.set_same _ _ _), tCons_cons, tCons_cons, tNil_nil]
    rw [SR.tidy] at ha
    refine retG_drop (fun q o hq => ?_) (good a b ha hbv)
    rw [Heap.set_ne _ _ (hsub q o hq).1]
    exact (hsub q o hq).2
  | d + 1, a, hd, vU, vV, LU, LV, h, rows, hR, hrl, hhas, honly, hLV, Ow => by
    have ha : a < L.length := by omega
    have hmax := W.max
    have hsv : (subVal val L).length = L.length := by simp [subVal]
    have hal : L.getD a 0 < up.length := by rw [getD_mem ha]; exact hL.lt _ (List.getElem_mem ha)
    have hUl := hR.length
    have hVl := hLV.length
    rw [List.length_take] at hVl
    obtain ⟨e, he, hie⟩ := hO.ix (i := L.getD a 0) (by rw [ordUp_len]; exact hal)
    rw [ordUp_get hal] at he
    unfold s30l1
    refine ifT_pos (by simp; omega) ?_
    rw [hl.ix (i := a) (by simpa [natI] using ha), ld1_lptr, tInt_int]
    have hrow : (natI L)[a]'(by simpa [natI] using ha) = ((L.getD a 0 : Nat) : Int) := by rw [getD_mem ha]; simp [natI]
    rw [hrow, hie, ld1_lptr, he.len, show (natI (aboveL up (L.getD a 0))).length = (aboveL up (L.getD a 0)).length by simp [natI]]
    refine s30l2_in ((aboveL up (L.getD a 0)).length + 1) ?_
    have hab := above_len (up := up) (a := L.getD a 0)
    refine part_l2 S W hV hL hLl hl ha he (by omega) (by omega) (fun vU' vV' row' cp R h' P hr hc W' => ?_) _ 0 (by omega) [] .nilsl h ⟨fun k hk hne hi => by obtain ⟨i, hi, _⟩ := hi; omega, fun k hk => by simp at hk, by simp⟩ (Ow.newN 1)
    obtain ⟨p1, p2⟩ := P.rows W hL ha
    have hPl := P.len
    refine part_l1 S W hV hL hLl hLu hl hO ht hsub good d (a + 1) (by omega) vU' vV' _ _ h' (rows ++ [natI R]) (hR.append (.cons hr .nil)) (by simp [hrl]) (fun a' k ha' hk hne hRe => ?_) (fun a' r hr' => ?_) ?_ W'
    · by_cases e1 : a' = a
      · subst e1
        exact ⟨natI R, by rw [List.getElem?_append_right (by omega)]; simp [hrl], p1 k hk hne hRe⟩
      · obtain ⟨r, hr1, hr2⟩ := hhas a' k (by omega) hk hne hRe
        exact ⟨r, by rw [List.getElem?_append_left (List.getElem?_eq_some_iff.1 hr1).1]; exact hr1, hr2⟩
    · by_cases e1 : a' < rows.length
      · rw [List.getElem?_append_left e1] at hr'
        exact honly a' r hr'
      · rw [List.getElem?_append_right (by omega)] at hr'
        have h3 := (List.getElem?_eq_some_iff.1 hr').1
        simp only [List.length_singleton] at h3
        obtain rfl : a' = a := by omega
        have e2 : r = natI R := by simpa [hrl] using hr'.symm
        subst e2
        exact ⟨by simp [natI]; omega, p2⟩
    · rw [List.take_succ_eq_append_getElem (by omega)]
      refine hLV.append (.cons ?_ .nil)
      have : (subVal val L)[a] = val.getD (L.getD a 0) [] := by rw [getD_mem ha]; simp [subVal]
      rw [this]
      exact hc

theorem part_ok (S : Small up val) (W : WF up val) (hV : Strss mV val) {L : List Nat} (hL : Worlds up L) (hLu : L.length ≤ up.length) {vl o : AVal} (hl : Ints vl (natI L)) (hO : Intss o (ordUp up))
    (good : ∀ vU vV, Intss vU (tidyUp (subUp up L)) → Strss vV (subVal val L) → K (.agg [vU, vV]) h0) : ACalls prog 30 [.agg [mU, mV], o, vl] h0 K := by
  have hmax := W.max
  refine s30_ok ?_
  unfold s30
  refine newRow_in fun rt hrt => newRow_in fun ro hro => ?_
  rw [hl.len, show (natI L).length = L.length by simp [natI]]
  refine s30l1_in (L.length + 1) ?_
  refine part_l1 (X := .nilsl) (Y := .nilsl) (hb := h0.set rt (.row 2 [.agg [.nilsl, .nilsl]])) S W hV hL (by omega) hLu hl hO (Heap.set_same _ _ _) (fun q o hq => ⟨(fun e => by rw [e, hrt] at hq; cases hq), Heap.set_sub hrt q o hq⟩) good L.length 0 (by omega) .nilsl .nilsl [] [] _ [] .nil rfl (fun a' k h => by omega) (fun a' r h => by simp at h) .nil ?_
  exact (((Own.start _).newC hro (.row 2 [.agg [.nilsl, .nilsl]])).newN 1).newN 1

theorem above_ok (S : Small up val) (hU : Intss mU up) (hV : Strss mV val) (w : Int) (bad : ¬ WF up val → K (.tuple [.agg [.nilsl, .nilsl], .nilsl, .int .i64 170]) h0) (out : WF up val → ¬ (0 ≤ w ∧ w < up.length) → K (.tuple [.agg [.nilsl, .nilsl], .nilsl, .int .i64 2]) h0)
    (good : WF up val → ∀ x : Nat, w = x → x < up.length → ∀ vU vV vl, Intss vU (tidyUp (subUp up (aboveL up x))) → Strss vV (subVal val (aboveL up x)) → Ints vl (natI (aboveL up x)) → K (.tuple [.agg [vU, vV], vl, .int .i64 0]) h0) :
    ACalls prog 9 [.agg [mU, mV], .int .i64 w] h0 K := by
  refine s9_ok ?_
  unfold s9
  refine newRow_in fun rt hrt => ?_
  have ht := Heap.set_same h0 rt (.row 2 [.agg [.nilsl, .nilsl]])
  have hsub : ∀ q o, h0 q = some o → q ≠ rt ∧ (h0.set rt (.row 2 [.agg [.nilsl, .nilsl]])) q = some o := fun q o hq => ⟨(fun e => by rw [e, hrt] at hq; cases hq), Heap.set_sub hrt q o hq⟩
  refine callG_of (reckonM_ok S hU hV (fun hW => ?_) (fun W o hO => ?_))
  · simp only [tTup_tuple, tCons_cons, tInt_int, tNil_nil]
    exact ifT_pos rfl (fail_ok ht hsub (bad hW))
  · simp only [tTup_tuple, tCons_cons, tInt_int, tNil_nil]
    refine ifT_neg rfl ?_
    by_cases h1 : w < 0
    · exact ifT_pos (decide_eq_true h1) (ifT_pos rfl (fail_ok ht hsub (out W (by omega))))
    · refine ifT_neg (decide_eq_false h1) ?_
      rw [hO.len, ordUp_len]
      by_cases h2 : (up.length : Int) ≤ w
      · exact ifT_pos (decide_eq_true h2) (fail_ok ht hsub (out W (by omega)))
      · obtain ⟨x, rfl⟩ := Int.eq_ofNat_of_zero_le (by omega : 0 ≤ w)
        have hx : x < up.length := by omega
        have hmax := W.max
        have hab := above_len (up := up) (a := x)
        obtain ⟨e, he, hie⟩ := hO.ix (i := x) (by rw [ordUp_len]; exact hx)
        rw [ordUp_get hx] at he
        refine ifT_neg (decide_eq_false h2) ?_
        rw [hie, ld1_lptr]
        refine callG_of (cloneI_ok he (by simp [natI]; omega) fun vl hl => ?_)
        rw [ldN_agg2]
        simp only [tCons_cons, tNil_nil]
        refine callG_of (part_ok S W hV (above_worlds W hx) hab hl hO fun a b ha hbv => ?_)
        simp only [tAgg_agg, tCons_cons, tNil_nil]
        refine st_all ht rfl ?_
        rw [ldN2 (Heap.set_same _ _ _), tCons_cons, tCons_cons, tNil_nil]
        refine retG_drop (fun q o hq => ?_) (good W x rfl hx a b vl ha hbv hl)
        rw [Heap.set_ne _ _ (hsub q o hq).1]
        exact (hsub q o hq).2
end Go.Proofs.Ytinficcdpggiaaa

namespace Go.Proofs.Ytinficcdpggiaaa
open Go Go.Sym Go.Proofs.Try

variable {K : AVal → Heap → Prop} {h h0 hb : Heap} {up : List (List Int)} {val : List (List ByteArray)} {mU mV : AVal}

section
variable {c : Nat → Nat} {m r1 r2 : Nat} {cv o : AVal}
theorem parts_l1 (W : WF up val) (hO : Intss o (ordUp up)) (hm : ∀ w, w < up.length → c w < m) (hmx : m ≤ 512) (hc : Ints cv ((List.range up.length).map fun w => ((c w : Nat) : Int))) (h1 : h0 r1 = some (.row 1 [.int .i64 (m : Int)])) (h2 : h0 r2 = some (.row 1 [cv])) {ro : Nat}
    (hk : ∀ v, Strs v ((List.range up.length).map (partS up c m)) → K v h0) :
    ∀ d w : Nat, w + d = up.length → ∀ h, Own h0 [.cell ro (.row 1 (outT up c up.length m w))] h → s64l1 K (d + 1) (.lptr [o]) (.ptr r1 0 0) (.ptr r2 0 0) (.sl ro 1 0 up.length) (up.length : Int) (w : Int) h
  | 0, w, hd, h, Ow => by
    obtain rfl : w = up.length := by omega
    unfold s64l1
    refine ifT_neg (by simp) ?_
    refine ⟨fun q => q = ro, .lsl 1 (outT up c up.length m up.length), h0, .whole rfl (Ow.get 0 _ ro rfl rfl) (by simp [outT]), Own.toBase Ow _ (fun n hn => Ow.new 0 _ n rfl hn), hk _ ?_⟩
    have : outT up c up.length m up.length = ((List.range up.length).map (partS up c m)).map .str := by
      unfold outT
      rw [List.map_map]
      refine List.map_congr_left fun x hx => ?_
      rw [if_pos (List.mem_range.1 hx)]
      rfl
    rw [this]
    exact .lsl 1 _
  | d + 1, w, hd, h, Ow => by
    have hw : w < up.length := by omega
    obtain ⟨e, he, hie⟩ := hO.ix (i := w) (by rw [ordUp_len]; exact hw)
    rw [ordUp_get hw] at he
    unfold s64l1
    refine ifT_pos (decide_eq_true (by omega)) ?_
    rw [ld1_one (Ow.old _ _ h1) rfl, tInt_int]
    refine mkS_own (by omega) (by omega) fun rs hrs => ?_
    rw [ld1_lptr, hie, ld1_lptr, he.len, show (natI (aboveL up w)).length = (aboveL up w).length by simp [natI]]
    refine s64l2_in ((aboveL up w).length + 1) ?_
    refine parts_l2 W hm hmx hc h2 hw he (fun h' W' => parts_l1 W hO hm hmx hc h1 h2 hk d (w + 1) (by omega) h' W') _ 0 (by omega) _ ?_
    have : seenT up c m w 0 = List.replicate m (.int .u8 0) := by
      unfold seenT
      refine List.ext_getElem (by simp) fun i h1 h2 => ?_
      simp
    rw [this]
    exact Ow.newC hrs _
theorem parts_ok (W : WF up val) (hO : Intss o (ordUp up)) (hm : ∀ w, w < up.length → c w < m) (hmx : m ≤ 512) (hc : Ints cv ((List.range up.length).map fun w => ((c w : Nat) : Int))) (h1 : h0 r1 = some (.row 1 [.int .i64 (m : Int)])) (h2 : h0 r2 = some (.row 1 [cv]))
    (hk : ∀ v, Strs v ((List.range up.length).map (partS up c m)) → K v h0) : ACalls prog 64 [.lptr [o], .ptr r1 0 0, .ptr r2 0 0] h0 K := by
  have hmax := W.max
  refine s64_ok ?_
  unfold s64
  rw [ld1_lptr, hO.len, ordUp_len]
  refine mkS_own (by omega) (by omega) fun ro hro => ?_
  rw [ld1_lptr, hO.len, ordUp_len]
  refine s64l1_in (up.length + 1) (parts_l1 W hO hm hmx hc h1 h2 hk up.length 0 (by omega) _ ?_)
  have : outT up c up.length m 0 = List.replicate up.length (.str (ByteArray.mk #[])) := by
    unfold outT
    refine List.ext_getElem (by simp) fun i h1 h2 => ?_
    simp
  rw [this]
  exact (Own.start h0).newC hro _
end
theorem num_list (P : Nat → ByteArray) (n : Nat) : (((List.range n).map P).map fun s => ((idx (dst ((List.range n).map P)) s : Nat) : Int)) = (List.range n).map fun w => ((num P n w : Nat) : Int) := by
  rw [List.map_map]
  rfl
theorem num_cnt (P : Nat → ByteArray) (n : Nat) : (dst ((List.range n).map P)).length = nxt (num P n) n := ((num_at (P := P) (n := n) n (Nat.le_refl _)).1).symm

theorem classes_l3 (W : WF up val) {o : AVal} (hO : Intss o (ordUp up)) {r1 r2 : Nat} (hk : ∀ v c, IsCls up val c → Ints v ((List.range up.length).map fun w => ((c w : Nat) : Int)) → K v h0) :
    ∀ d : Nat, ∀ (c : Nat → Nat) cv h, 513 ≤ nxt c up.length + d → CI up val c → Ints cv ((List.range up.length).map fun w => ((c w : Nat) : Int)) → Own h0 [.cell r2 (.row 1 [cv]), .cell r1 (.row 1 [.int .i64 ((nxt c up.length : Nat) : Int)])] h →
      s34l3 K (d + 1) (.ptr r2 0 0) (.ptr r1 0 0) (.func (.func 64) [] [.lptr [o], .ptr r1 0 0, .ptr r2 0 0]) h
  | d, c, cv, h, hd, I, hc, Ow => by
    have hmax := W.max
    have hle := nxt_le I.rg up.length (Nat.le_refl _)
    have hstep := cstep_le W I
    unfold s34l3
    unfold callV
    simp only [List.nil_append]
    refine callG_of (parts_ok W hO (fun w hw => nxt_lt _ _ hw) (by omega) hc (Ow.get 1 _ r1 rfl rfl) (Ow.get 0 _ r2 rfl rfl) fun pv hp => ?_)
    refine callG_of (numbered_ok hp (by simp; omega) fun cv' hc' => ?_)
    rw [num_list] at hc'
    rw [num_cnt]
    simp only [tTup_tuple, tCons_cons, tInt_int, tNil_nil]
    have hc2 : Ints cv' ((List.range up.length).map fun w => ((cstep up c w : Nat) : Int)) := hc'
    refine chk_iff.2 ⟨hc2.notAgg.2, st_one (Ow.get 0 _ r2 rfl rfl) (sc_cells hc.notAgg.2).2.1 ?_⟩
    have W2 := Ow.put (i := 0) rfl (.row 1 [cv'])
    rw [ld1_one (W2.get 1 _ r1 rfl rfl) rfl, tInt_int]
    by_cases e : nxt (cstep up c) up.length = nxt c up.length
    · refine ifT_pos (by
        show (((nxt (cstep up c) up.length : Nat) : Int) == _) = true
        rw [e]; simp) ?_
      rw [ld1_one (W2.get 0 _ r2 rfl rfl) (sc_cells hc2.notAgg.2).2.1]
      exact retG_drop (fun q o hq => W2.old q o hq) (hk _ _ (I.done W e) hc2)
    · have hlt : nxt c up.length < nxt (cstep up c) up.length := by omega
      refine ifT_neg (by
        show (((nxt (cstep up c) up.length : Nat) : Int) == _) = false
        rw [beq_eq_false_iff_ne]; omega) (st_one (W2.get 1 _ r1 rfl rfl) rfl (s34l3_go ?_))
      have W3 := W2.put (i := 1) rfl (.row 1 [.int .i64 ((nxt (cstep up c) up.length : Nat) : Int)])
      have hle2 := nxt_le (I.next W).rg up.length (Nat.le_refl _)
      match d, hd with
      | 0, hd => omega
      | d + 1, hd => exact classes_l3 W hO hk d _ cv' _ (by omega) (I.next W) hc2 W3

theorem classes_l1 (S : Small up val) (W : WF up val) (hV : Strss mV val) {o : AVal} (hO : Intss o (ordUp up)) {ro : Nat} (hk : ∀ v c, IsCls up val c → Ints v ((List.range up.length).map fun w => ((c w : Nat) : Int)) → K v h0) :
    ∀ d w : Nat, w + d = up.length → ∀ h, Own h0 [.cell ro (.row 1 (keyT val up.length w 0))] h → s34l1 K (d + 1) (.lptr [o]) (.sl ro 1 0 up.length) mV (up.length : Int) (w : Int) h
  | 0, w, hd, h, Ow => by
    obtain rfl : w = up.length := by omega
    have hmax := W.max
    have I := CI.start W
    unfold s34l1
    refine ifT_neg (by simp) ?_
    have hks : keyT val up.length up.length 0 = ((List.range up.length).map fun w => keyS (val.getD w [])).map .str := by
      unfold keyT
      rw [List.map_map]
      refine List.map_congr_left fun x hx => ?_
      unfold keyAt
      rw [if_pos (List.mem_range.1 hx)]
      rfl
    refine ⟨fun q => q = ro, [.lsl 1 (keyT val up.length up.length 0)], h0, .cons (.whole rfl (Ow.get 0 _ ro rfl rfl) keyT_len.symm) .nil, Own.toBase Ow _ (fun n hn => Ow.new 0 _ n rfl hn), ?_⟩
    refine numbered_ok (l := (List.range up.length).map fun w => keyS (val.getD w [])) (by rw [hks]; exact .lsl 1 _) (by simp; omega) fun cv hc => ?_
    rw [num_list] at hc
    rw [num_cnt]
    simp only [tTup_tuple, tCons_cons, tInt_int, tNil_nil]
    refine newRow_in fun r2 hr2 => newRow_in fun r1 hr1 => chk_iff.2 ⟨hc.notAgg.2, ?_⟩
    have W1 := ((Own.start h0).newC hr2 (.row 1 [.nilsl])).newC hr1 (.row 1 [.int .i64 0])
    refine st_one (W1.get 0 _ r2 rfl rfl) rfl ?_
    have W2 := W1.put (i := 0) rfl (.row 1 [cv])
    refine st_one (W2.get 1 _ r1 rfl rfl) rfl ?_
    have W3 := W2.put (i := 1) rfl (.row 1 [.int .i64 ((nxt (num (fun w => keyS (val.getD w [])) up.length) up.length : Nat) : Int)])
    exact s34l3_in 514 (classes_l3 W hO hk 513 _ cv _ (by omega) I hc W3)
  | d + 1, w, hd, h, Ow => by
    have hw : w < up.length := by omega
    have hwl : w < val.length := by rw [W.len]; exact hw
    obtain ⟨e, he, hie⟩ := hV.ix hwl
    rw [← getD_val hwl] at he
    unfold s34l1
    refine ifT_pos (decide_eq_true (by omega)) ?_
    rw [hie, ld1_lptr, he.len]
    refine s34l2_in ((val.getD w []).length + 1) ?_
    exact keys_l2 S W hw he (fun h' W' => classes_l1 S W hV hO hk d (w + 1) (by omega) h' W') _ 0 (by omega) h Ow
theorem classes_ok (S : Small up val) (W : WF up val) (hV : Strss mV val) {o : AVal} (hO : Intss o (ordUp up)) (hk : ∀ v c, IsCls up val c → Ints v ((List.range up.length).map fun w => ((c w : Nat) : Int)) → K v h0) : ACalls prog 34 [.agg [mU, mV], o] h0 K := by
  have hmax := W.max
  refine s34_ok ?_
  unfold s34
  refine chk_iff.2 ⟨(intss_sc hO).1, ?_⟩
  rw [hO.len, ordUp_len]
  refine mkS_own (by omega) (by omega) fun ro hro => ?_
  rw [hV.len, W.len]
  refine s34l1_in (up.length + 1) (classes_l1 S W hV hO hk up.length 0 (by omega) _ ?_)
  have : keyT val up.length 0 0 = List.replicate up.length (.str (ByteArray.mk #[])) := by
    unfold keyT keyAt
    refine List.ext_getElem (by simp) fun i h1 h2 => ?_
    simp only [List.getElem_map, List.getElem_range, List.getElem_replicate]
    rw [if_neg (by omega)]
    split
    · rfl
    · rfl
  rw [this]
  exact (Own.start h0).newC hro _
theorem classesM_ok (S : Small up val) (hU : Intss mU up) (hV : Strss mV val) (bad : ¬ WF up val → K (.tuple [.nilsl, .int .i64 170]) h0) (good : WF up val → ∀ v c, IsCls up val c → Ints v ((List.range up.length).map fun w => ((c w : Nat) : Int)) → K (.tuple [v, .int .i64 0]) h0) : ACalls prog 14 [.agg [mU, mV]] h0 K := by
  refine s14_ok ?_
  unfold s14
  refine callG_of (reckonM_ok S hU hV (fun hW => ?_) (fun W o hO => ?_))
  · simp only [tTup_tuple, tCons_cons, tInt_int, tNil_nil]
    exact ifT_pos rfl (retG_of (bad hW))
  · simp only [tTup_tuple, tCons_cons, tInt_int, tNil_nil]
    refine ifT_neg rfl (callG_of (classes_ok S W hV hO fun v c hc hv => retG_of (good W v c hc hv)))
end Go.Proofs.Ytinficcdpggiaaa

namespace Go.Proofs.Ytinficcdpggiaaa
open Go Go.Sym Go.Proofs.Try

variable {up : List (List Int)} {val : List (List ByteArray)}

theorem above_wf (W : WF up val) {x : Nat} (hx : x < up.length) : WF (subUp up (aboveL up x)) (subVal val (aboveL up x)) := (subUp_rows up _).wf W (above_worlds W hx) above_len
theorem gOf_nat {L : List Nat} {a : Nat} (ha : a < L.length) : gOf (natI L) a = L.getD a 0 := by
  unfold gOf natI
  rw [List.getD_eq_getElem?_getD, List.getElem?_map, List.getElem?_eq_getElem ha]
  simp [List.getD, ha]
theorem above_fit (W : WF up val) {x : Nat} (hx : x < up.length) : FitF (tidyUp (subUp up (aboveL up x))) up (natI (aboveL up x)) where
  len := by rw [tidyUp_len, (subUp_rows up _).len]; simp [natI]
  rng w hw := by
    obtain ⟨k, hk, rfl⟩ := mem_natI.1 hw
    have := (above_worlds W hx).lt k hk
    omega
theorem above_isB (W : WF up val) {x : Nat} (hx : x < up.length) : IsB (tidyUp (subUp up (aboveL up x))) (subVal val (aboveL up x)) up val (natI (aboveL up x)) := by
  have R := subUp_rows up (aboveL up x)
  have WA := above_wf W hx
  have hW := above_worlds W hx
  intro a ha
  rw [tidyUp_len] at ha
  have ha2 : a < (aboveL up x).length := by rw [R.len] at ha; exact ha
  rw [gOf_nat ha2]
  refine ⟨subVal_get val ha2, fun b hb => ?_, fun c hc => ?_⟩
  · obtain ⟨hb2, hr⟩ := (R.reach ha2).1 ((reach_tidy WA ha).1 hb)
    rw [gOf_nat hb2]
    exact hr
  · have h1 : Reach up x ((aboveL up x).getD a 0) := by
      rw [getD_mem ha2]
      exact (mem_aboveL W.inR hx).1 (List.getElem_mem ha2)
    have hc2 : c ∈ aboveL up x := (mem_aboveL W.inR hx).2 (h1.trans hc)
    obtain ⟨b, hb, rfl⟩ := List.mem_iff_getElem.1 hc2
    refine ⟨b, (reach_tidy WA ha).2 ((R.reach ha2).2 ⟨hb, by rw [getD_mem hb]; exact hc⟩), by rw [gOf_nat hb, getD_mem hb]⟩
theorem above_small (S : Small up val) (W : WF up val) {x : Nat} (hx : x < up.length) : Small (tidyUp (subUp up (aboveL up x))) (subVal val (aboveL up x)) where
  ups := by
    have h1 := above_len (up := up) (a := x)
    have h2 := W.max
    rw [tidyUp_len, (subUp_rows up _).len]; omega
  vals := by
    have h1 := above_len (up := up) (a := x)
    have h2 := W.max
    simp only [subVal, List.length_map]; omega
  row r hr := by
    simp only [tidyUp, List.mem_map] at hr
    obtain ⟨a, _, rfl⟩ := hr
    have h3 : (tidyRow (subUp up (aboveL up x)) a).length ≤ (List.range (subUp up (aboveL up x)).length).length := List.length_filter_le _ _
    rw [List.length_range, (subUp_rows up _).len] at h3
    have h1 := above_len (up := up) (a := x)
    have h2 := W.max
    simp only [natI, List.length_map]; omega
  names l hl := by
    simp only [subVal, List.mem_map] at hl
    obtain ⟨y, hy, rfl⟩ := hl
    have hyl : y < val.length := by rw [W.len]; exact (above_worlds W hx).lt y hy
    rw [getD_val hyl]
    exact S.names _ (List.getElem_mem hyl)
end Go.Proofs.Ytinficcdpggiaaa

namespace Go.Proofs.Ytinficcdpggiaaa
open Go Go.Sym Go.Proofs.Try

variable {up : List (List Int)} {val : List (List ByteArray)} {c : Nat → Nat}

/-- some world of class k has one of class x above it -/
def qR (up : List (List Int)) (c : Nat → Nat) (k x : Nat) : Prop := ∃ w b, w < up.length ∧ c w = k ∧ Reach up w b ∧ c b = x
theorem IsCls.valq (C : IsCls up val c) {u v : Nat} (hu : u < up.length) (hv : v < up.length) (h : c u = c v) : val.getD u [] = val.getD v [] := (Bsm.bis up val).val u v ((C.eq u v hu hv).1 h)
theorem IsCls.to (W : WF up val) (C : IsCls up val c) {u v : Nat} (hu : u < up.length) (hv : v < up.length) (h : c u = c v) {b : Nat} (hb : Reach up u b) : ∃ d, Reach up v d ∧ c b = c d := by
  obtain ⟨d, hd, e⟩ := (Bsm.bis up val).to u v ((C.eq u v hu hv).1 h) b hb
  exact ⟨d, hd, (C.eq b d (hb.lt W.inR hu) (hd.lt W.inR hv)).2 e⟩
theorem qR_at (W : WF up val) (C : IsCls up val c) {w x : Nat} (hw : w < up.length) (h : qR up c (c w) x) : ∃ b, Reach up w b ∧ c b = x := by
  obtain ⟨u, b, hu, e, hb, rfl⟩ := h
  obtain ⟨d, hd, e2⟩ := C.to W hu hw e hb
  exact ⟨d, hd, e2.symm⟩
theorem qR_trans (W : WF up val) (C : IsCls up val c) {k x y : Nat} (h1 : qR up c k x) (h2 : qR up c x y) : qR up c k y := by
  obtain ⟨u, b, hu, e, hb, rfl⟩ := h1
  obtain ⟨d, hd, e2⟩ := qR_at W C (hb.lt W.inR hu) h2
  exact ⟨u, d, hu, e, hb.trans hd, e2⟩
theorem aboveL_nodup {a : Nat} : (aboveL up a).Nodup := List.Pairwise.filter _ List.nodup_range
theorem above_less (W : WF up val) {u v : Nat} (hu : u < up.length) (h : Reach up u v) (hne : u ≠ v) : (aboveL up v).length < (aboveL up u).length := by
  have hv := h.lt W.inR hu
  have h1 := (W.cond u v hu hv h hne).1
  have := nodup_len (l := u :: aboveL up v) (m := aboveL up u) (List.nodup_cons.2 ⟨fun hm => h1 ((mem_aboveL W.inR hv).1 hm), aboveL_nodup⟩) (fun x hx => by
    rcases List.mem_cons.1 hx with rfl | hx
    · exact (mem_aboveL W.inR hu).2 .refl
    · exact (mem_aboveL W.inR hu).2 (h.trans ((mem_aboveL W.inR hv).1 hx)))
  rw [List.length_cons] at this
  omega
theorem qR_anti (W : WF up val) (C : IsCls up val c) {k x : Nat} (h1 : qR up c k x) (h2 : qR up c x k) : k = x := by
  apply Classical.byContradiction
  intro hne
  have main : ∀ m w, (aboveL up w).length ≤ m → w < up.length → c w = k → False := by
    intro m
    induction m with
    | zero =>
      intro w hm hw _
      have : w ∈ aboveL up w := (mem_aboveL W.inR hw).2 .refl
      have := List.length_pos_of_mem this
      omega
    | succ m ih =>
      intro w hm hw e
      subst e
      obtain ⟨b, hb, e1⟩ := qR_at W C hw h1
      have hbl := hb.lt W.inR hw
      rw [← e1] at h2
      obtain ⟨d, hd, e2⟩ := qR_at W C hbl h2
      have hn1 : w ≠ b := fun e => hne (by rw [← e1, e])
      have h3 := above_less W hw hb hn1
      have h4 : (aboveL up d).length ≤ (aboveL up b).length := by
        by_cases e3 : b = d
        · rw [e3]; exact Nat.le_refl _
        · exact Nat.le_of_lt (above_less W hbl hd e3)
      exact ih d (by omega) (hd.lt W.inR hbl) e2
  obtain ⟨w, _, hw, e, _, _⟩ := h1
  exact main _ w (Nat.le_refl _) hw e

noncomputable def qVal (up : List (List Int)) (val : List (List ByteArray)) (c : Nat → Nat) : List (List ByteArray) := (List.range (nxt c up.length)).map fun k => val.getD (rep c up.length k) []
theorem qVal_len : (qVal up val c).length = nxt c up.length := by simp [qVal]
theorem qVal_get {k : Nat} (hk : k < nxt c up.length) : (qVal up val c).getD k [] = val.getD (rep c up.length k) [] := by
  unfold qVal
  rw [List.getD_eq_getElem?_getD, List.getElem?_map, List.getElem?_range hk]
  rfl
theorem qVal_at (C : IsCls up val c) {w : Nat} (hw : w < up.length) : (qVal up val c).getD (c w) [] = val.getD w [] := by
  have hk := nxt_lt (c := c) _ _ hw
  have hs := rep_spec C.rg hk
  rw [qVal_get hk]
  exact C.valq hs.1 hw hs.2
structure QRows (up : List (List Int)) (c : Nat → Nat) (rows : List (List Int)) : Prop where
  len : rows.length = nxt c up.length
  step : ∀ k x, k < nxt c up.length → (Step rows k x ↔ k ≠ x ∧ qR up c k x)
  nn : ∀ r ∈ rows, ∀ b ∈ r, 0 ≤ b
theorem qR_lt (W : WF up val) {k x : Nat} (h : qR up c k x) : x < nxt c up.length := by
  obtain ⟨w, b, hw, _, hb, rfl⟩ := h
  exact nxt_lt _ _ (hb.lt W.inR hw)
section
variable {rows : List (List Int)}
theorem QRows.inR (Q : QRows up c rows) (W : WF up val) : InR rows := fun r hr b hb => by
  have h0 := Q.nn r hr b hb
  obtain ⟨k, hk, e⟩ := List.mem_iff_getElem.1 hr
  have hs : Step rows k b.toNat := ⟨r, by rw [List.getElem?_eq_getElem hk, e], by rw [Int.toNat_of_nonneg h0]; exact hb⟩
  have := qR_lt W ((Q.step k _ (by rw [← Q.len]; exact hk)).1 hs).2
  rw [Q.len]; omega
theorem QRows.reach (Q : QRows up c rows) (W : WF up val) (C : IsCls up val c) {k x : Nat} (hk : k < nxt c up.length) : Reach rows k x ↔ qR up c k x := by
  constructor
  · intro h
    induction h with
    | refl =>
      have hs := rep_spec C.rg hk
      exact ⟨_, _, hs.1, hs.2, .refl, hs.2⟩
    | tail _ hs ih => exact qR_trans W C ih ((Q.step _ _ (qR_lt W ih)).1 hs).2
  · intro h
    by_cases e : k = x
    · subst e; exact .refl
    · exact .tail .refl ((Q.step k x hk).2 ⟨e, h⟩)
theorem QRows.wf (Q : QRows up c rows) (W : WF up val) (C : IsCls up val c) : WF rows (qVal up val c) where
  pos := by
    have := nxt_lt (c := c) up.length 0 W.pos
    rw [Q.len]; omega
  max := by
    have := nxt_le C.rg up.length (Nat.le_refl _)
    have := W.max
    rw [Q.len]; omega
  len := by rw [qVal_len, Q.len]
  inR := Q.inR W
  fine l hl := by
    unfold qVal at hl
    obtain ⟨k, hk, rfl⟩ := List.mem_map.1 hl
    have hs := rep_spec C.rg (List.mem_range.1 hk)
    have hwl : rep c up.length k < val.length := by rw [W.len]; exact hs.1
    rw [getD_val hwl]
    exact W.fine _ (List.getElem_mem hwl)
  cond a b ha hb := by
    rw [Q.len] at ha hb
    intro h hne
    have h1 := (Q.reach W C ha).1 h
    refine ⟨fun h' => hne (qR_anti W C h1 ((Q.reach W C hb).1 h')), ?_⟩
    obtain ⟨w, d, hw, rfl, hd, rfl⟩ := h1
    have hdl := hd.lt W.inR hw
    rw [qVal_at C hw, qVal_at C hdl]
    exact (W.cond w d hw hdl hd (fun e => hne (by rw [e]))).2
theorem QRows.small (Q : QRows up c rows) (S : Small up val) (W : WF up val) (C : IsCls up val c) : Small (tidyUp rows) (qVal up val c) where
  ups := by
    have := nxt_le C.rg up.length (Nat.le_refl _)
    have := W.max
    rw [tidyUp_len, Q.len]; omega
  vals := by
    have := nxt_le C.rg up.length (Nat.le_refl _)
    have := W.max
    rw [qVal_len]; omega
  row r hr := by
    simp only [tidyUp, List.mem_map] at hr
    obtain ⟨a, _, rfl⟩ := hr
    have h3 : (tidyRow rows a).length ≤ (List.range rows.length).length := List.length_filter_le _ _
    rw [List.length_range, Q.len] at h3
    have := nxt_le C.rg up.length (Nat.le_refl _)
    have := W.max
    simp only [natI, List.length_map]; omega
  names l hl := by
    unfold qVal at hl
    obtain ⟨k, hk, rfl⟩ := List.mem_map.1 hl
    have hs := rep_spec C.rg (List.mem_range.1 hk)
    have hwl : rep c up.length k < val.length := by rw [W.len]; exact hs.1
    rw [getD_val hwl]
    exact S.names _ (List.getElem_mem hwl)
/-- worlds to classes -/
def cMap (up : List (List Int)) (c : Nat → Nat) : List Int := natI ((List.range up.length).map c)
theorem cMap_eq : cMap up c = (List.range up.length).map fun w => ((c w : Nat) : Int) := by
  unfold cMap natI
  rw [List.map_map]
  rfl
theorem cMap_g {w : Nat} (hw : w < up.length) : gOf (cMap up c) w = c w := by
  unfold cMap
  rw [gOf_nat (by simpa using hw)]
  simp [List.getD, hw]
theorem QRows.fit (Q : QRows up c rows) : FitF up (tidyUp rows) (cMap up c) where
  len := by simp [cMap, natI]
  rng x hx := by
    obtain ⟨k, hk, rfl⟩ := mem_natI.1 hx
    obtain ⟨w, hw, rfl⟩ := List.mem_map.1 hk
    have := nxt_lt (c := c) _ _ (List.mem_range.1 hw)
    rw [tidyUp_len, Q.len]; omega
theorem QRows.isB (Q : QRows up c rows) (W : WF up val) (C : IsCls up val c) : IsB up val (tidyUp rows) (qVal up val c) (cMap up c) := by
  intro a ha
  have hk := nxt_lt (c := c) _ _ ha
  have hk2 : c a < rows.length := by rw [Q.len]; exact hk
  rw [cMap_g ha]
  refine ⟨(qVal_at C ha).symm, fun b hb => ?_, fun x hx => ?_⟩
  · rw [cMap_g (hb.lt W.inR ha), reach_tidy (Q.wf W C) hk2, Q.reach W C hk]
    exact ⟨a, b, ha, rfl, hb, rfl⟩
  · rw [reach_tidy (Q.wf W C) hk2, Q.reach W C hk] at hx
    obtain ⟨b, hb, e⟩ := qR_at W C ha hx
    exact ⟨b, hb, by rw [cMap_g (hb.lt W.inR ha)]; exact e⟩
theorem QRows.uniq {rows' : List (List Int)} (Q : QRows up c rows) (Q' : QRows up c rows') (W : WF up val) (C : IsCls up val c) : tidyUp rows = tidyUp rows' := by
  refine tidyUp_congr (by rw [Q.len, Q'.len]) fun a b ha hb => ?_
  rw [Q.len] at ha
  rw [Bool.eq_iff_iff, rb_iff, rb_iff, Q.reach W C ha, Q'.reach W C ha]
end
/-- bisimilar classes are one: a bisimulation of the classes, drawn back, is one of the worlds -/
theorem qBsm {rows : List (List Int)} (Q : QRows up c rows) (W : WF up val) (C : IsCls up val c) {k x : Nat} (hk : k < nxt c up.length) (hx : x < nxt c up.length) (h : Bsm (tidyUp rows) (qVal up val c) k x) : k = x := by
  have B := Bsm.bis (tidyUp rows) (qVal up val c)
  have M := Q.isB W C
  have hs := rep_spec C.rg hk
  have ht := rep_spec C.rg hx
  have : Bis up val fun u v => u < up.length ∧ v < up.length ∧ Bsm (tidyUp rows) (qVal up val c) (c u) (c v) := by
    refine ⟨fun u v ⟨hu, hv, h⟩ => ?_, fun u v ⟨hu, hv, h⟩ b hb => ?_, fun u v ⟨hu, hv, h⟩ b hb => ?_⟩
    · have := B.val _ _ h
      rwa [qVal_at C hu, qVal_at C hv] at this
    · have hbl := hb.lt W.inR hu
      have h1 := (M u hu).2.1 b hb
      rw [cMap_g hu, cMap_g hbl] at h1
      obtain ⟨d, hd, e⟩ := B.to _ _ h _ h1
      have h2 := (M v hv).2.2 d (by rw [cMap_g hv]; exact hd)
      obtain ⟨y, hy, e2⟩ := h2
      rw [cMap_g (hy.lt W.inR hv)] at e2
      exact ⟨y, hy, hbl, hy.lt W.inR hv, by rw [e2]; exact e⟩
    · have hbl := hb.lt W.inR hv
      have h1 := (M v hv).2.1 b hb
      rw [cMap_g hv, cMap_g hbl] at h1
      obtain ⟨d, hd, e⟩ := B.back _ _ h _ h1
      have h2 := (M u hu).2.2 d (by rw [cMap_g hu]; exact hd)
      obtain ⟨y, hy, e2⟩ := h2
      rw [cMap_g (hy.lt W.inR hu)] at e2
      exact ⟨y, hy, hy.lt W.inR hu, hbl, by rw [e2]; exact e⟩
  have h5 := (C.eq _ _ hs.1 ht.1).2 ⟨_, this, hs.1, ht.1, by rw [hs.2, ht.2]; exact h⟩
  rw [hs.2, ht.2] at h5
  exact h5
end Go.Proofs.Ytinficcdpggiaaa

namespace Go.Proofs.Ytinficcdpggiaaa
open Go Go.Sym Go.Proofs.Try

variable {K : AVal → Heap → Prop} {h h0 hb : Heap} {up : List (List Int)} {val : List (List ByteArray)} {c : Nat → Nat} {mU mV : AVal}

def rowsO (q : Nat) (f : Nat → AVal) (g : Nat → List Nat) : List Ow := (List.range q).map fun k => .slc 1 (f k) ((natI (g k)).map (.int .i64))
def upd {α : Type} (f : Nat → α) (k : Nat) (y : α) : Nat → α := fun x => if x = k then y else f x
theorem rowsO_get {q k : Nat} {f : Nat → AVal} {g : Nat → List Nat} (hk : k < q) (a b d : Ow) : ([a, b, d] ++ rowsO q f g)[k + 3]? = some (.slc 1 (f k) ((natI (g k)).map (.int .i64))) := by
  show (rowsO q f g)[k]? = _
  unfold rowsO
  exact range_get _ hk
theorem rowsO_set {q k x : Nat} {f : Nat → AVal} {g : Nat → List Nat} {v : AVal} (a b d : Ow) : ([a, b, d] ++ rowsO q f g).set (k + 3) (.slc 1 v ((natI (g k)).map (.int .i64) ++ [.int .i64 (x : Int)])) = [a, b, d] ++ rowsO q (upd f k v) (upd g k (g k ++ [x])) := by
  show a :: b :: d :: (rowsO q f g).set k _ = a :: b :: d :: rowsO q _ _
  unfold rowsO
  rw [map_set]
  congr 3
  refine List.map_congr_left fun y _ => ?_
  unfold upd
  split
  · simp [natI]
  · rfl
/-- the memory of a model whose rows grow -/
abbrev QM (hb : Heap) (ro : Nat) (vU vV : AVal) (LV : List AVal) (q : Nat) (f : Nat → AVal) (g : Nat → List Nat) (h : Heap) : Prop :=
  Own hb ([.cell ro (.row 2 [.agg [vU, vV]]), .slc 1 vU ((List.range q).map f), .slc 1 vV LV] ++ rowsO q f g) h
theorem lits_rows {hb h : Heap} {os : List Ow} (W : Own hb os h) {S : Nat → Prop} {f : Nat → AVal} {g : Nat → List Nat} : ∀ (ks : List Nat), (∀ k ∈ ks, ∃ i : Nat, os[i]? = some (.slc 1 (f k) ((natI (g k)).map (.int .i64)))) → (∀ k ∈ ks, ∀ n, nameOf (f k) n → S n) →
    ∃ l', Lits h S (ks.map f) l' ∧ All2 Ints l' (ks.map fun k => natI (g k))
  | [], _, _ => ⟨[], .nil, .nil⟩
  | k :: ks, ho, hS => by
    obtain ⟨l', h1, h2⟩ := lits_rows W ks (fun k hk => ho k (List.mem_cons_of_mem _ hk)) (fun k hk => hS k (List.mem_cons_of_mem _ hk))
    obtain ⟨i, hi⟩ := ho k List.mem_cons_self
    obtain ⟨v', hv, hs⟩ := W.lit hi (S := S) (hS k List.mem_cons_self) (Lits.refl _)
    exact ⟨v' :: l', .cons hv h1, .cons hs h2⟩
/-- what the rows hold when w worlds are done, and j of those above the next -/
structure QG (up : List (List Int)) (c : Nat → Nat) (w j : Nat) (g : Nat → List Nat) : Prop where
  has : ∀ w' b, (w' < w ∧ Reach up w' b) ∨ (w' = w ∧ b ∈ (aboveL up w).take j) → c b ≠ c w' → c b ∈ g (c w')
  src : ∀ k x, x ∈ g k → k ≠ x ∧ qR up c k x
  len : ∀ k, (g k).length ≤ w * 512 + j
theorem QG.next {w j : Nat} {g : Nat → List Nat} (G : QG up c w j g) (hi : InR up) (hw : w < up.length) (hj : j < (aboveL up w).length) (hne : c (aboveL up w)[j] ≠ c w) : QG up c w (j + 1) (upd g (c w) (g (c w) ++ [c (aboveL up w)[j]])) where
  has w' b h hne' := by
    have old : ∀ x, x ∈ g (c w') → x ∈ upd g (c w) (g (c w) ++ [c (aboveL up w)[j]]) (c w') := fun x hx => by
      unfold upd
      split
      · rename_i e; rw [← e]; exact List.mem_append_left _ hx
      · exact hx
    rcases h with h | ⟨rfl, h⟩
    · exact old _ (G.has w' b (.inl h) hne')
    · rw [List.take_succ_eq_append_getElem hj, List.mem_append] at h
      rcases h with h | h
      · exact old _ (G.has w' b (.inr ⟨rfl, h⟩) hne')
      · rw [List.mem_singleton.1 h]
        unfold upd
        rw [if_pos rfl]
        simp
  src k x hx := by
    unfold upd at hx
    split at hx
    · rename_i e
      subst e
      rcases List.mem_append.1 hx with hx | hx
      · exact G.src _ x hx
      · rw [List.mem_singleton.1 hx]
        exact ⟨fun e => hne e.symm, w, _, hw, rfl, (mem_aboveL hi hw).1 (List.getElem_mem hj), rfl⟩
    · exact G.src _ x hx
  len k := by
    unfold upd
    split
    · have := G.len (c w)
      simp; omega
    · have := G.len k
      omega
theorem QG.skip {w j : Nat} {g : Nat → List Nat} (G : QG up c w j g) (hj : j < (aboveL up w).length) (he : c (aboveL up w)[j] = c w) : QG up c w (j + 1) g where
  has w' b h hne' := by
    rcases h with h | ⟨rfl, h⟩
    · exact G.has w' b (.inl h) hne'
    · rw [List.take_succ_eq_append_getElem hj, List.mem_append] at h
      rcases h with h | h
      · exact G.has w' b (.inr ⟨rfl, h⟩) hne'
      · rw [List.mem_singleton.1 h] at hne'
        exact absurd he hne'
  src := G.src
  len k := by have := G.len k; omega
theorem QG.row {w : Nat} {g : Nat → List Nat} (G : QG up c w (aboveL up w).length g) (hi : InR up) (hw : w < up.length) (hl : up.length ≤ 512) : QG up c (w + 1) 0 g where
  has w' b h hne' := by
    rcases h with ⟨h1, h2⟩ | ⟨_, h⟩
    · by_cases e : w' = w
      · subst e
        exact G.has w' b (.inr ⟨rfl, by rw [List.take_length]; exact (mem_aboveL hi hw).2 h2⟩) hne'
      · exact G.has w' b (.inl ⟨by omega, h2⟩) hne'
    · simp at h
  src := G.src
  len k := by
    have h1 := G.len k
    have h2 := above_len (up := up) (a := w)
    have h3 : (aboveL up w).length ≤ 512 := Nat.le_trans h2 hl
    rw [Nat.add_mul, Nat.one_mul, Nat.add_zero]
    exact Nat.le_trans h1 (Nat.add_le_add_left h3 _)
theorem QG.rows {g : Nat → List Nat} (G : QG up c up.length 0 g) : QRows up c ((List.range (nxt c up.length)).map fun k => natI (g k)) where
  len := by simp
  step k x hk := by
    unfold Step
    rw [range_get _ hk]
    constructor
    · rintro ⟨r, hr, hx⟩
      cases hr
      obtain ⟨y, hy, e⟩ := mem_natI.1 hx
      obtain rfl : x = y := by omega
      exact G.src k x hy
    · rintro ⟨hne, w, b, hw, rfl, hb, rfl⟩
      exact ⟨_, rfl, mem_natI.2 ⟨_, G.has w b (.inl ⟨hw, hb⟩) (fun e => hne e.symm), rfl⟩⟩
  nn r hr b hb := by
    obtain ⟨k, _, rfl⟩ := List.mem_map.1 hr
    obtain ⟨y, _, rfl⟩ := mem_natI.1 hb
    omega

section
variable {cv o vV : AVal} {ro rt : Nat} {LV : List AVal}
theorem quot_l4 (W : WF up val) (C : IsCls up val c) (hc : Ints cv (cMap up c)) {w : Nat} (hw : w < up.length) {e : AVal} (he : Ints e (natI (aboveL up w))) {F : AVal → AVal → AVal → AVal → AVal → Int → Int → Heap → Prop}
    (next : ∀ vU f g h', QG up c (w + 1) 0 g → QM hb ro vU vV LV (nxt c up.length) f g h' → F (.ptr rt 0 0) o cv (.ptr ro 0 0) cv (up.length : Int) ((w : Int) + 1) h') :
    ∀ d j : Nat, j + d = (aboveL up w).length → ∀ vU f g h, QG up c w j g → QM hb ro vU vV LV (nxt c up.length) f g h →
      s12l4 K (s12l3_G F) (d + 1) (.ptr rt 0 0) o cv (.ptr ro 0 0) ((c w : Nat) : Int) cv (up.length : Int) (w : Int) e ((aboveL up w).length : Int) (j : Int) h
  | 0, j, hd, vU, f, g, h, G, Ow => by
    obtain rfl : j = (aboveL up w).length := by omega
    have hmax := W.max
    unfold s12l4
    exact ifT_neg (by simp) (rg_of (by omega) (by omega) (s12l3_go (next vU f g h (G.row W.inR hw hmax) Ow)))
  | d + 1, j, hd, vU, f, g, h, G, Ow => by
    have hj : j < (aboveL up w).length := by omega
    have hmax := W.max
    have hab := above_len (up := up) (a := w)
    have hbl := ((mem_aboveL W.inR hw).1 (List.getElem_mem hj)).lt W.inR hw
    have hcl : (cMap up c).length = up.length := by simp [cMap, natI]
    have hq := nxt_lt (c := c) _ _ hw
    have hgl := G.len (c w)
    have hg : ∀ x (hx : x < up.length), (cMap up c)[x]'(by rw [hcl]; exact hx) = ((c x : Nat) : Int) := fun x hx => by simp [cMap, natI]
    unfold s12l4
    refine ifT_pos (decide_eq_true (by omega)) ?_
    rw [he.ix (i := j) (by simpa [natI] using hj), ld1_lptr, tInt_int]
    have hrow : (natI (aboveL up w))[j]'(by simpa [natI] using hj) = (((aboveL up w)[j] : Nat) : Int) := by simp [natI]
    rw [hrow, hc.ix (by rw [hcl]; exact hbl), ld1_lptr, tInt_int, hg _ hbl]
    by_cases hne : c (aboveL up w)[j] = c w
    · refine ifT_neg (bne_eq_false_iff_eq.2 (by rw [hne])) (rg_of (by omega) (by omega) (s12l4_go ?_))
      exact quot_l4 W C hc hw he next d (j + 1) (by omega) vU f g h (G.skip hj hne) Ow
    · refine ifT_pos (bne_iff_ne.2 (by omega)) ?_
      have hi := rowsO_get (f := f) (g := g) hq (.cell ro (.row 2 [.agg [vU, vV]])) (.slc 1 vU ((List.range (nxt c up.length)).map f)) (.slc 1 vV LV)
      rcases Ow.fit 1 _ rfl with ⟨_, e1⟩ | ⟨ru, rfl⟩
      · have : ((List.range (nxt c up.length)).map f).length = 0 := by rw [e1]; rfl
        simp at this
        omega
      have hlen : ((List.range (nxt c up.length)).map f).length = nxt c up.length := by simp
      have hget : ((List.range (nxt c up.length)).map f)[c w]? = some (f (c w)) := range_get _ hq
      have hag := (Ow.sc hi).2.2
      have rU := Ow.get 1 _ ru rfl rfl
      have rO := Ow.get 0 _ ro rfl rfl
      rw [addOff_ptr, ld1_fld rO rfl, addOff_ptr, ld1_fld rO rfl]
      refine ixS_sl0 (show c w < ((List.range (nxt c up.length)).map f).length by rw [hlen]; exact hq) ?_
      rw [ld1_ptr rU hget hag, hc.ix (by rw [hcl]; exact hbl), ld1_lptr, tInt_int, hg _ hbl]
      refine ⟨by rw [ld1_ptr rU hget hag], by rw [ld1_fld rO rfl], by rw [ld1_fld rO rfl], Ow.app hi (by simp [natI]; omega) (by simp [natI]; omega) fun v2 h2 W2 => ?_⟩
      rw [rowsO_set] at W2
      refine ⟨by rw [ld1_fld (W2.get 0 _ ro rfl rfl) rfl], ixS_sl0 (show c w < ((List.range (nxt c up.length)).map f).length by rw [hlen]; exact hq) ?_⟩
      have hi2 := rowsO_get (f := upd f (c w) v2) (g := upd g (c w) (g (c w) ++ [c (aboveL up w)[j]])) hq (.cell ro (.row 2 [.agg [(.sl ru 1 0 ((List.range (nxt c up.length)).map f).length), vV]])) (.slc 1 (.sl ru 1 0 ((List.range (nxt c up.length)).map f).length) ((List.range (nxt c up.length)).map f)) (.slc 1 vV LV)
      have hsc : sc v2 = true := by
        have := (W2.sc hi2).1
        unfold upd at this
        rwa [if_pos rfl] at this
      refine chk_iff.2 ⟨hsc, st_elem (W2.get 1 _ ru rfl rfl) hget hag (rg_of (by omega) (by omega) (s12l4_go ?_))⟩
      have W3 := W2.putS (i := 1) rfl (l' := ((List.range (nxt c up.length)).map f).set (c w) v2) (by simp)
      rw [map_set] at W3 ⊢
      exact quot_l4 W C hc hw he next d (j + 1) (by omega) _ (upd f (c w) v2) _ _ (G.next W.inR hw hj hne) W3

theorem quot_l3 (S : Small up val) (W : WF up val) (C : IsCls up val c) (hc : Ints cv (cMap up c)) (hO : Intss o (ordUp up)) (hLV : All2 Strs LV (qVal up val c)) {X Y : AVal} (ht : hb rt = some (.row 2 [.agg [X, Y]])) (hsub : ∀ q o, h0 q = some o → q ≠ rt ∧ hb q = some o)
    (good : ∀ vU vV rows, QRows up c rows → Intss vU (tidyUp rows) → Strss vV (qVal up val c) → K (.tuple [.agg [vU, vV], cv, .int .i64 0]) h0) :
    ∀ d w : Nat, w + d = up.length → ∀ vU f g h, QG up c w 0 g → QM hb ro vU vV LV (nxt c up.length) f g h → s12l3 K (d + 1) (.ptr rt 0 0) o cv (.ptr ro 0 0) cv (up.length : Int) (w : Int) h
  | 0, w, hd, vU, f, g, h, G, Ow => by
    obtain rfl : w = up.length := by omega
    have hmax := W.max
    have Q := G.rows
    unfold s12l3
    refine ifT_neg (by simp) ?_
    rw [ldN2 (Ow.get 0 _ ro rfl rfl), tCons_cons, tCons_cons, tNil_nil]
    let Sg : Nat → Prop := fun n => nameOf vU n ∨ nameOf vV n ∨ ∃ k, k < nxt c up.length ∧ nameOf (f k) n
    obtain ⟨l', hl, hR⟩ := lits_rows (g := g) Ow (S := Sg) (List.range (nxt c up.length)) (fun k hk => ⟨_, rowsO_get (List.mem_range.1 hk) _ _ _⟩) (fun k hk n hn => .inr (.inr ⟨k, List.mem_range.1 hk, hn⟩))
    obtain ⟨u', lu, su⟩ := Ow.lit (i := 1) rfl (S := Sg) (fun n h => .inl h) hl
    obtain ⟨v', lv, sv⟩ := Ow.lit (i := 2) rfl (S := Sg) (fun n h => .inr (.inl h)) (Lits.refl LV)
    have hq := nxt_le C.rg up.length (Nat.le_refl _)
    have SS : Small ((List.range (nxt c up.length)).map fun k => natI (g k)) (qVal up val c) := ⟨by simp; omega, by rw [qVal_len]; omega, fun r hr => by
      obtain ⟨k, _, rfl⟩ := List.mem_map.1 hr
      have := G.len k
      simp only [natI, List.length_map]
      omega, (Q.small S W C).names⟩
    refine ⟨Sg, [.agg [u', v']], hb, .cons (.agg (.cons lu (.cons lv .nil))) .nil, Own.toBase Ow Sg (fun n hn => by
      rcases hn with hn | hn | ⟨k, hk, hn⟩
      · exact Ow.new 1 _ n rfl hn
      · exact Ow.new 2 _ n rfl hn
      · exact Ow.new (k + 3) _ n (rowsO_get hk _ _ _) hn), tidied_ok SS ⟨_, su, hR⟩ ⟨_, sv, hLV⟩ (Q.wf W C) fun a b ha hbv => ?_⟩
    simp only [tAgg_agg, tCons_cons, tNil_nil]
    refine st_all ht rfl ?_
    rw [ldN2 (Heap.set_same _ _ _), tCons_cons, tCons_cons, tNil_nil]
    refine retG_drop (fun q o hq => ?_) (good a b _ Q ha hbv)
    rw [Heap.set_ne _ _ (hsub q o hq).1]
    exact (hsub q o hq).2
  | d + 1, w, hd, vU, f, g, h, G, Ow => by
    have hw : w < up.length := by omega
    have hcl : (cMap up c).length = up.length := by simp [cMap, natI]
    obtain ⟨e, he, hie⟩ := hO.ix (i := w) (by rw [ordUp_len]; exact hw)
    rw [ordUp_get hw] at he
    unfold s12l3
    refine ifT_pos (decide_eq_true (by omega)) ?_
    rw [hc.ix (by rw [hcl]; exact hw), ld1_lptr, tInt_int, hie, ld1_lptr, he.len, show (natI (aboveL up w)).length = (aboveL up w).length by simp [natI]]
    have hg : (cMap up c)[w]'(by rw [hcl]; exact hw) = ((c w : Nat) : Int) := by simp [cMap, natI]
    rw [hg]
    refine s12l4_in ((aboveL up w).length + 1) ?_
    exact quot_l4 W C hc hw he (fun vU' f' g' h' G' W' => quot_l3 S W C hc hO hLV ht hsub good d (w + 1) (by omega) vU' f' g' h' G' W') _ 0 (by omega) vU f g h G Ow
end
section
variable {cv o : AVal} {ro rt : Nat}
theorem newNs {hb h : Heap} {os : List Ow} (W : Own hb os h) : ∀ q : Nat, Own hb (os ++ (List.range q).map fun _ => .slc 1 .nilsl []) h
  | 0 => by simpa using W
  | q + 1 => by
    have := (newNs W q).newN 1
    rw [List.append_assoc] at this
    rw [List.range_succ, List.map_append]
    exact this
theorem quot_l1 (S : Small up val) (W : WF up val) (hV : Strss mV val) (C : IsCls up val c) (hc : Ints cv (cMap up c)) (hO : Intss o (ordUp up)) {X Y : AVal} (ht : hb rt = some (.row 2 [.agg [X, Y]])) (hsub : ∀ q o, h0 q = some o → q ≠ rt ∧ hb q = some o)
    (good : ∀ vU vV rows, QRows up c rows → Intss vU (tidyUp rows) → Strss vV (qVal up val c) → K (.tuple [.agg [vU, vV], cv, .int .i64 0]) h0) :
    ∀ d w : Nat, w + d = up.length → ∀ vU vV LV h, All2 Strs LV ((List.range (nxt c w)).map fun k => val.getD (rep c up.length k) []) → Own hb [.cell ro (.row 2 [.agg [vU, vV]]), .slc 1 vU (List.replicate (nxt c w) .nilsl), .slc 1 vV LV] h →
      s12l1 K (d + 1) (.lptr [mU, mV]) (.ptr rt 0 0) o cv (.ptr ro 0 0) cv (up.length : Int) (w : Int) h
  | 0, w, hd, vU, vV, LV, h, hLV, Ow => by
    obtain rfl : w = up.length := by omega
    have hcl : (cMap up c).length = up.length := by simp [cMap, natI]
    unfold s12l1
    refine ifT_neg (by simp) ?_
    rw [hc.len, hcl]
    refine s12l3_in (up.length + 1) (quot_l3 (vV := vV) S W C hc hO hLV ht hsub good up.length 0 (by omega) vU (fun _ => .nilsl) (fun _ => []) h ⟨fun w' b hh _ => ?_, fun k x hx => by simp at hx, fun k => by simp⟩ ?_)
    · rcases hh with ⟨h1, _⟩ | ⟨_, h1⟩
      · omega
      · simp at h1
    · have := newNs Ow (nxt c up.length)
      have e : (List.range (nxt c up.length)).map (fun _ => AVal.nilsl) = List.replicate (nxt c up.length) .nilsl := by
        refine List.ext_getElem (by simp) fun i h1 h2 => ?_
        simp
      unfold QM
      rw [e]
      exact this
  | d + 1, w, hd, vU, vV, LV, h, hLV, Ow => by
    have hw : w < up.length := by omega
    have hwl : w < val.length := by rw [W.len]; exact hw
    have hmax := W.max
    have hcl : (cMap up c).length = up.length := by simp [cMap, natI]
    have hg : (cMap up c)[w]'(by rw [hcl]; exact hw) = ((c w : Nat) : Int) := by simp [cMap, natI]
    have hrg := C.rg w hw
    have hnw := nxt_le C.rg w (by omega)
    obtain ⟨x, hx, hix⟩ := hV.ix hwl
    have hVl := hLV.length
    rw [List.length_map, List.length_range] at hVl
    unfold s12l1
    refine ifT_pos (decide_eq_true (by omega)) ?_
    rw [hc.ix (by rw [hcl]; exact hw), ld1_lptr, tInt_int, hg, addOff_ptr, ld1_fld (Ow.get 0 _ ro rfl rfl) rfl, Ow.len (i := 1) rfl, List.length_replicate]
    by_cases e : c w = nxt c w
    · have en : nxt c (w + 1) = nxt c w + 1 := by simp only [nxt]; omega
      refine ifT_pos (by rw [e]; simp) ?_
      rw [addOff_ptr, ld1_fld (Ow.get 0 _ ro rfl rfl) rfl]
      refine Ow.app (i := 1) rfl (by rw [List.length_replicate]; omega) (by rw [List.length_replicate]; omega) fun v2 h2 W2 => ?_
      refine chk_iff.2 ⟨(W2.sc (i := 1) rfl).1, st_fst (W2.get 0 _ ro rfl rfl) ?_⟩
      have W3 := W2.put (i := 0) rfl (.row 2 [.agg [v2, vV]])
      rw [addOff_ptr, ld1_fld (W3.get 0 _ ro rfl rfl) rfl, addOff_lptr]
      simp only [List.drop_succ_cons, List.drop_zero, ld1_lptr]
      rw [hix, ld1_lptr]
      refine callG_of (cloneS_ok hx ((S.names _ (List.getElem_mem hwl)).1.1) fun cp hcp => ⟨by rw [ld1_fld (W3.get 0 _ ro rfl rfl) rfl], chk_iff.2 ⟨hcp.notAgg.2, ⟨by rw [ld1_fld (W3.get 0 _ ro rfl rfl) rfl], W3.app (i := 2) rfl (by omega) (by omega) fun v3 h3 W4 => ?_⟩⟩⟩)
      refine chk_iff.2 ⟨(W4.sc (i := 2) rfl).1, st_snd (W4.get 0 _ ro rfl rfl) (rg_of (by omega) (by omega) (s12l1_go ?_))⟩
      have W5 := W4.put (i := 0) rfl (.row 2 [.agg [v2, v3]])
      have e2 : List.replicate (nxt c w) AVal.nilsl ++ [.nilsl] = List.replicate (nxt c (w + 1)) .nilsl := by rw [en, List.replicate_succ']
      refine quot_l1 S W hV C hc hO ht hsub good d (w + 1) (by omega) v2 v3 (LV ++ [cp]) _ ?_ (by rw [← e2]; exact W5)
      rw [en, List.range_succ, List.map_append]
      refine hLV.append (.cons ?_ .nil)
      have hs := rep_spec C.rg (nxt_lt (c := c) _ _ hw)
      show Strs cp (val.getD (rep c up.length (nxt c w)) [])
      rw [← e, C.valq hs.1 hw hs.2, getD_val hwl]
      exact hcp
    · have en : nxt c (w + 1) = nxt c w := by simp only [nxt]; omega
      refine ifT_neg (by rw [beq_eq_false_iff_ne]; omega) (rg_of (by omega) (by omega) (s12l1_go ?_))
      exact quot_l1 S W hV C hc hO ht hsub good d (w + 1) (by omega) vU vV LV h (by rw [en]; exact hLV) (by rw [en]; exact Ow)
end
theorem quotient_ok (S : Small up val) (hU : Intss mU up) (hV : Strss mV val) (bad : ¬ WF up val → K (.tuple [.agg [.nilsl, .nilsl], .nilsl, .int .i64 170]) h0)
    (good : WF up val → ∀ c rows vU vV cv, IsCls up val c → QRows up c rows → Intss vU (tidyUp rows) → Strss vV (qVal up val c) → Ints cv (cMap up c) → K (.tuple [.agg [vU, vV], cv, .int .i64 0]) h0) : ACalls prog 12 [.agg [mU, mV]] h0 K := by
  refine s12_ok ?_
  unfold s12
  refine newRow_in fun rt hrt => ?_
  have ht := Heap.set_same h0 rt (.row 2 [.agg [.nilsl, .nilsl]])
  have hsub : ∀ q o, h0 q = some o → q ≠ rt ∧ (h0.set rt (.row 2 [.agg [.nilsl, .nilsl]])) q = some o := fun q o hq => ⟨(fun e => by rw [e, hrt] at hq; cases hq), Heap.set_sub hrt q o hq⟩
  refine callG_of (reckonM_ok S hU hV (fun hW => ?_) (fun W o hO => ?_))
  · simp only [tTup_tuple, tCons_cons, tInt_int, tNil_nil]
    refine ifT_pos rfl (st_all ht rfl ?_)
    rw [Heap.set_set, ldN2 (Heap.set_same _ _ _)]
    simp only [tCons_cons, tNil_nil]
    exact retG_drop (fun q o hq => (hsub q o hq).2) (bad hW)
  · simp only [tTup_tuple, tCons_cons, tInt_int, tNil_nil]
    refine ifT_neg rfl (callG_of (classes_ok S W hV hO fun cv c C hc => ?_))
    rw [← cMap_eq] at hc
    have hcl : (cMap up c).length = up.length := by simp [cMap, natI]
    refine newRow_in fun r1 hr1 => ?_
    rw [hc.len, hcl]
    refine s12l1_in (up.length + 1) ?_
    refine quot_l1 (X := .nilsl) (Y := .nilsl) (hb := h0.set rt (.row 2 [.agg [.nilsl, .nilsl]])) S W hV C hc hO ht hsub (fun vU vV rows Q hU' hV' => good W c rows vU vV cv C Q hU' hV' hc) up.length 0 (by omega) .nilsl .nilsl [] _ .nil ?_
    exact (((Own.start _).newC hr1 (.row 2 [.agg [.nilsl, .nilsl]])).newN 1).newN 1
end Go.Proofs.Ytinficcdpggiaaa

namespace Go.Proofs.Ytinficcdpggiaaa
open Go Go.Sym Go.Proofs.Try

variable {K : AVal → Heap → Prop} {h h0 hb : Heap} {up : List (List Int)} {val : List (List ByteArray)} {mU mV : AVal}

/-- the tree of the ways up, i of its worlds looked at: the ends, the rows -/
noncomputable def ust (up : List (List Int)) (w : Nat) : Nat → List Nat × List (List Nat)
  | 0 => ([w], [])
  | i + 1 => ((ust up w i).1 ++ tidyRow up ((ust up w i).1.getD i 0), (ust up w i).2 ++ [List.range' (ust up w i).1.length (tidyRow up ((ust up w i).1.getD i 0)).length])
theorem ust_len2 (up : List (List Int)) (w : Nat) : ∀ i, (ust up w i).2.length = i
  | 0 => rfl
  | i + 1 => by simp [ust, ust_len2 up w i]
theorem tidyRow_lt {a x : Nat} (h : x ∈ tidyRow up a) : x < up.length := by
  unfold tidyRow at h
  rw [List.mem_filter, List.mem_range] at h
  exact h.1
theorem ust_lt {w : Nat} (hw : w < up.length) : ∀ i, ∀ x ∈ (ust up w i).1, x < up.length
  | 0, x, hx => by simp [ust] at hx; omega
  | i + 1, x, hx => by
    rcases List.mem_append.1 hx with hx | hx
    · exact ust_lt hw i x hx
    · exact tidyRow_lt hx
/-- the first i worlds are looked at, all of them -/
structure UDone (up : List (List Int)) (w i : Nat) : Prop where
  all : (ust up w i).1.length = i
  before : ∀ j, j < i → j < (ust up w j).1.length
  max : i ≤ 512

theorem tidyRow_len {a : Nat} : (tidyRow up a).length ≤ up.length := by
  have := List.length_filter_le (coverB up a) (List.range up.length)
  simpa [tidyRow] using this

theorem unravel_l3 (S : Small up val) (W : WF up val) {tU tV : AVal} (hV : Strss tV val) {rt ro : Nat} {X Y : AVal} (ht : hb rt = some (.row 2 [.agg [X, Y]])) (hsub : ∀ q o, h0 q = some o → q ≠ rt ∧ hb q = some o) {E : List Nat} {i : Nat} (hi : i < E.length) (hE : E.length ≤ 512) (hEl : ∀ x ∈ E, x < up.length) {e : AVal} (he : Ints e (natI (tidyRow up (E.getD i 0))))
    (bad : 512 < E.length + (tidyRow up (E.getD i 0)).length → K (.tuple [.agg [.nilsl, .nilsl], .nilsl, .int .i64 190]) h0) {vU vV : AVal} {LU LV : List AVal} (hLU : LU.length ≤ 512) (hLV : LV.length ≤ 512) {F : AVal → AVal → AVal → AVal → Int → Heap → Prop}
    (next : E.length + (tidyRow up (E.getD i 0)).length ≤ 512 → ∀ vU' vV' ve row' cp h', Ints row' (natI (List.range' E.length (tidyRow up (E.getD i 0)).length)) → Strs cp (val.getD (E.getD i 0) []) →
      Own hb [.cell ro (.row 2 [.agg [vU', vV']]), .slc 1 vU' (LU ++ [row']), .slc 1 vV' (LV ++ [cp]), .slc 1 ve ((natI (E ++ tidyRow up (E.getD i 0))).map (.int .i64))] h' → F (.ptr rt 0 0) (.lptr [tU, tV]) ve (.ptr ro 0 0) ((i : Int) + 1) h') :
    ∀ d j : Nat, j + d = (tidyRow up (E.getD i 0)).length → E.length + j ≤ 512 → ∀ row ve h, Own hb [.cell ro (.row 2 [.agg [vU, vV]]), .slc 1 vU LU, .slc 1 vV LV, .slc 1 ve ((natI (E ++ (tidyRow up (E.getD i 0)).take j)).map (.int .i64)), .slc 1 row ((natI (List.range' E.length j)).map (.int .i64))] h →
      s17l3 K (s17l2_G F) (d + 1) (.ptr rt 0 0) (.lptr [tU, tV]) ve (.ptr ro 0 0) (i : Int) row e ((tidyRow up (E.getD i 0)).length : Int) (j : Int) h
  | 0, j, hd, hj, row, ve, h, Ow => by
    obtain rfl : j = (tidyRow up (E.getD i 0)).length := by omega
    have hEi : E.getD i 0 = E[i] := by simp [List.getD, hi]
    have hvl : E.getD i 0 < val.length := by rw [W.len, hEi]; exact hEl _ (List.getElem_mem hi)
    obtain ⟨c, hc, hic⟩ := hV.ix hvl
    rw [List.take_length] at Ow
    unfold s17l3
    refine ifT_neg (by simp) ?_
    rw [addOff_ptr, ld1_fld (Ow.get 0 _ ro rfl rfl) rfl]
    refine chk_iff.2 ⟨(Ow.sc (i := 4) rfl).1, Ow.app (i := 1) rfl (by omega) (by omega) fun v2 h2 W2 => ?_⟩
    refine chk_iff.2 ⟨(W2.sc (i := 1) rfl).1, st_fst (W2.get 0 _ ro rfl rfl) ?_⟩
    have W3 := W2.put (i := 0) rfl (.row 2 [.agg [v2, vV]])
    rw [addOff_ptr, ld1_fld (W3.get 0 _ ro rfl rfl) rfl, addOff_lptr]
    simp only [List.drop_succ_cons, List.drop_zero, ld1_lptr]
    rcases W3.fit 3 _ rfl with ⟨_, e1⟩ | ⟨re, e1⟩
    · have h5 : 0 < ((natI (E ++ tidyRow up (E.getD i 0))).map (AVal.int .i64)).length := by
        simp only [natI, List.length_map, List.length_append]
        omega
      rw [e1] at h5
      exact absurd h5 (by decide)
    obtain rfl := e1
    have hlen : ((natI (E ++ tidyRow up (E.getD i 0))).map (AVal.int .i64))[i]? = some (.int .i64 ((E.getD i 0 : Nat) : Int)) := by
      simp only [natI, List.map_append, List.map_map]
      rw [List.getElem?_append_left (by simpa using hi)]
      simp [hi]
    refine ixS_sl0 (List.getElem?_eq_some_iff.1 hlen).1 ?_
    rw [ld1_ptr (W3.get 3 _ re rfl rfl) hlen rfl, tInt_int, hic, ld1_lptr]
    refine callG_of (cloneS_ok hc ((S.names _ (List.getElem_mem hvl)).1.1) fun cp hcp => ⟨by rw [ld1_fld (W3.get 0 _ ro rfl rfl) rfl], chk_iff.2 ⟨hcp.notAgg.2, ⟨by rw [ld1_fld (W3.get 0 _ ro rfl rfl) rfl], W3.app (i := 2) rfl (by omega) (by omega) fun v3 h3 W4 => ?_⟩⟩⟩)
    refine chk_iff.2 ⟨(W4.sc (i := 2) rfl).1, st_snd (W4.get 0 _ ro rfl rfl) (rg_of (by omega) (by omega) ?_)⟩
    have W5 : Own hb ([.cell ro (.row 2 [.agg [v2, v3]]), .slc 1 v2 (LU ++ [row]), .slc 1 v3 (LV ++ [cp]), .slc 1 (.sl re 1 0 ((natI (E ++ tidyRow up (E.getD i 0))).map (AVal.int .i64)).length) ((natI (E ++ tidyRow up (E.getD i 0))).map (.int .i64))] ++ [.slc 1 row ((natI (List.range' E.length (tidyRow up (E.getD i 0)).length)).map (.int .i64))]) _ := W4.put (i := 0) rfl (.row 2 [.agg [v2, v3]])
    obtain ⟨Sg, h', row', s1, g, W6⟩ := W5.settleL (i := 1) rfl
    exact ⟨Sg, _, h', Lits.refl _, g, rfl, next hj v2 v3 _ row' cp h' s1 (by rw [getD_val hvl]; exact hcp) W6⟩
  | d + 1, j, hd, hj, row, ve, h, Ow => by
    have hjl : j < (tidyRow up (E.getD i 0)).length := by omega
    have hlen : (natI (E ++ (tidyRow up (E.getD i 0)).take j)).length = E.length + j := by
      simp only [natI, List.length_map, List.length_append, List.length_take]
      omega
    unfold s17l3
    refine ifT_pos (decide_eq_true (by omega)) ?_
    rw [he.ix (i := j) (by simpa [natI] using hjl), ld1_lptr, tInt_int, Ow.len (i := 3) rfl, List.length_map, hlen]
    by_cases hbig : 512 ≤ E.length + j
    · exact ifT_pos (decide_eq_true (by omega)) (fail_ok (Ow.old _ _ ht) (fun q o hq => ⟨(hsub q o hq).1, Ow.old _ _ (hsub q o hq).2⟩) (bad (by omega)))
    · refine ifT_neg (decide_eq_false (by omega)) ?_
      rw [Ow.len (i := 3) rfl, List.length_map, hlen]
      refine Ow.app (i := 4) rfl (by simp [natI]; omega) (by simp [natI]; omega) fun row2 h2 W2 => W2.app (i := 3) rfl (by rw [List.length_map, hlen]; omega) (by rw [List.length_map, hlen]; omega) fun ve2 h3 W3 => rg_of (by omega) (by omega) (s17l3_go ?_)
      refine unravel_l3 (vU := vU) (vV := vV) S W hV ht hsub hi hE hEl he bad hLU hLV next d (j + 1) (by omega) (by omega) row2 ve2 h3 ?_
      have e1 : (natI (E ++ (tidyRow up (E.getD i 0)).take (j + 1))).map (AVal.int .i64) = (natI (E ++ (tidyRow up (E.getD i 0)).take j)).map (.int .i64) ++ [.int .i64 ((natI (tidyRow up (E.getD i 0)))[j]'(by simpa [natI] using hjl))] := by
        rw [List.take_succ_eq_append_getElem hjl]
        simp only [natI, List.map_append, List.map_cons, List.map_nil, List.append_assoc, List.getElem_map]
      have e2 : (natI (List.range' E.length (j + 1))).map (AVal.int .i64) = (natI (List.range' E.length j)).map (.int .i64) ++ [.int .i64 ((E.length + j : Nat) : Int)] := by
        simp [natI, List.range'_concat]
      rw [e1, e2]
      exact W3
end Go.Proofs.Ytinficcdpggiaaa

namespace Go.Proofs.Ytinficcdpggiaaa
open Go Go.Sym Go.Proofs.Try

variable {K : AVal → Heap → Prop} {h h0 hb : Heap} {up : List (List Int)} {val : List (List ByteArray)} {mU mV : AVal}

theorem renum5b {hb h : Heap} {a b c d e : Ow} (W : Own hb [a, b, c, d, e] h) : Own hb [c, d, e, b, a] h :=
  W.renum _ (fun j => if j = 0 then 2 else if j = 1 then 3 else if j = 2 then 4 else if j = 3 then 1 else if j = 4 then 0 else j) (fun j y hj => by
    match j, hj with
    | 0, hj => exact hj
    | 1, hj => exact hj
    | 2, hj => exact hj
    | 3, hj => exact hj
    | 4, hj => exact hj
    | j + 5, hj => simp at hj) (show ∀ j, j < 5 → ∀ k, k < 5 → _ = _ → j = k by decide)
theorem unravel_l2 (S : Small up val) (W : WF up val) {tU tV : AVal} (hU : Intss tU (tidyUp up)) (hV : Strss tV val) {rt ro x : Nat} (hx : x < up.length) {X Y : AVal} (ht : hb rt = some (.row 2 [.agg [X, Y]])) (hsub : ∀ q o, h0 q = some o → q ≠ rt ∧ hb q = some o)
    (bad : ∀ i, (∀ j, j ≤ i → j < (ust up x j).1.length) → 512 < (ust up x (i + 1)).1.length → K (.tuple [.agg [.nilsl, .nilsl], .nilsl, .int .i64 190]) h0)
    (good : ∀ i, UDone up x i → ∀ vU vV ve, Intss vU ((ust up x i).2.map natI) → Strss vV ((ust up x i).1.map fun y => val.getD y []) → Ints ve (natI (ust up x i).1) → K (.tuple [.agg [vU, vV], ve, .int .i64 0]) h0) :
    ∀ d i : Nat, i + d = 512 → i ≤ (ust up x i).1.length → (ust up x i).1.length ≤ 512 → (∀ j, j < i → j < (ust up x j).1.length) → ∀ vU vV ve LU LV h, All2 Ints LU ((ust up x i).2.map natI) → All2 Strs LV (((ust up x i).1.take i).map fun y => val.getD y []) →
      Own hb [.cell ro (.row 2 [.agg [vU, vV]]), .slc 1 vU LU, .slc 1 vV LV, .slc 1 ve ((natI (ust up x i).1).map (.int .i64))] h → s17l2 K (d + 1) (.ptr rt 0 0) (.lptr [tU, tV]) ve (.ptr ro 0 0) (i : Int) h := by
  have fin : ∀ i d, (ust up x i).1.length = i → i ≤ 512 → (∀ j, j < i → j < (ust up x j).1.length) → ∀ vU vV ve LU LV h, All2 Ints LU ((ust up x i).2.map natI) → All2 Strs LV (((ust up x i).1.take i).map fun y => val.getD y []) →
      Own hb [.cell ro (.row 2 [.agg [vU, vV]]), .slc 1 vU LU, .slc 1 vV LV, .slc 1 ve ((natI (ust up x i).1).map (.int .i64))] h → s17l2 K (d + 1) (.ptr rt 0 0) (.lptr [tU, tV]) ve (.ptr ro 0 0) (i : Int) h := by
    intro i d hall hi hbef vU vV ve LU LV h hLU hLV Ow
    unfold s17l2
    rw [Ow.len (i := 3) rfl, List.length_map, show (natI (ust up x i).1).length = i by simp only [natI, List.length_map]; exact hall]
    refine ifT_neg (by simp) ?_
    rw [ldN2 (Ow.get 0 _ ro rfl rfl), tCons_cons, tCons_cons, tNil_nil]
    refine st_all (Ow.old _ _ ht) rfl ?_
    rw [ldN2 (Heap.set_same _ _ _), tCons_cons, tCons_cons, tNil_nil]
    have W2 := Ow.base (x := .row 2 [.agg [vU, vV]]) ht
    let Sg : Nat → Prop := fun n => nameOf vU n ∨ nameOf vV n ∨ nameOf ve n
    obtain ⟨u', lu, su⟩ := W2.lit (i := 1) rfl (S := Sg) (fun n h => .inl h) (Lits.refl LU)
    obtain ⟨v', lv, sv⟩ := W2.lit (i := 2) rfl (S := Sg) (fun n h => .inr (.inl h)) (Lits.refl LV)
    obtain ⟨e', le, se⟩ := W2.lit (i := 3) rfl (S := Sg) (fun n h => .inr (.inr h)) (Lits.refl _)
    rw [List.take_of_length_le (by omega)] at hLV
    refine ⟨Sg, .tuple [.agg [u', v'], e', .int .i64 0], h0, .tuple (.cons (.agg (.cons lu (.cons lv .nil))) (.cons le (.cons (.refl _) .nil))), ⟨fun _ _ => trivial, fun q o hq => ⟨o, ?_, fun hs => ?_, .refl o⟩⟩, good i ⟨hall, hbef, hi⟩ u' v' e' ⟨_, su, hLU⟩ ⟨_, sv, hLV⟩ se⟩
    · rw [Heap.set_ne _ _ (hsub q o hq).1]
      exact Ow.old q o (hsub q o hq).2
    · have h1 := hsub q o hq
      rcases hs with hs | hs | hs
      · rw [Ow.new 1 _ q rfl hs] at h1; cases h1.2
      · rw [Ow.new 2 _ q rfl hs] at h1; cases h1.2
      · rw [Ow.new 3 _ q rfl hs] at h1; cases h1.2
  intro d
  induction d with
  | zero =>
    intro i hd hiE hE hbef vU vV ve LU LV h hLU hLV Ow
    exact fin i 0 (by omega) (by omega) hbef vU vV ve LU LV h hLU hLV Ow
  | succ d ih =>
    intro i hd hiE hE hbef vU vV ve LU LV h hLU hLV Ow
    by_cases hlt : i < (ust up x i).1.length
    · have hEl := ust_lt hx i
      have hgd : (ust up x i).1.getD i 0 = (ust up x i).1[i] := by simp [List.getD, hlt]
      have hgl : (ust up x i).1.getD i 0 < up.length := by rw [hgd]; exact hEl _ (List.getElem_mem hlt)
      have hUl := hLU.length
      have hVl := hLV.length
      rw [List.length_map, ust_len2] at hUl
      rw [List.length_map, List.length_take] at hVl
      obtain ⟨e, he, hie⟩ := hU.ix (i := (ust up x i).1.getD i 0) (by rw [tidyUp_len]; exact hgl)
      have het : (tidyUp up)[(ust up x i).1.getD i 0]'(by rw [tidyUp_len]; exact hgl) = natI (tidyRow up ((ust up x i).1.getD i 0)) := by simp [tidyUp]
      rw [het] at he
      have hnl : (natI (ust up x i).1).length = (ust up x i).1.length := by simp only [natI, List.length_map]
      unfold s17l2
      rw [Ow.len (i := 3) rfl, List.length_map, hnl]
      refine ifT_pos (decide_eq_true (by omega)) ?_
      rw [addOff_lptr]
      simp only [List.drop_zero, ld1_lptr]
      rcases Ow.fit 3 _ rfl with ⟨_, e1⟩ | ⟨re, e1⟩
      · have h5 : 0 < ((natI (ust up x i).1).map (AVal.int .i64)).length := by
          rw [List.length_map, hnl]
          omega
        rw [e1] at h5
        exact absurd h5 (by decide)
      obtain rfl := e1
      have hget : ((natI (ust up x i).1).map (AVal.int .i64))[i]? = some (.int .i64 (((ust up x i).1.getD i 0 : Nat) : Int)) := by
        rw [hgd]
        simp [natI, hlt]
      refine ixS_sl0 (List.getElem?_eq_some_iff.1 hget).1 ?_
      rw [ld1_ptr (Ow.get 3 _ re rfl rfl) hget rfl, tInt_int, hie, ld1_lptr, he.len, show (natI (tidyRow up ((ust up x i).1.getD i 0))).length = (tidyRow up ((ust up x i).1.getD i 0)).length by simp only [natI, List.length_map]]
      refine s17l3_in ((tidyRow up ((ust up x i).1.getD i 0)).length + 1) ?_
      have hsucc : (ust up x (i + 1)).1.length = (ust up x i).1.length + (tidyRow up ((ust up x i).1.getD i 0)).length := by
        simp only [ust, List.length_append]
      refine unravel_l3 (E := (ust up x i).1) (LU := LU) (LV := LV) (vU := vU) (vV := vV) S W hV ht hsub hlt hE hEl he (fun hb2 => bad i (fun j hj => ?_) (by omega)) (by omega) (by omega) (fun hfit vU' vV' ve' row' cp h' hr hc W' => ?_) _ 0 (by omega) (by omega) .nilsl _ h ?_
      · by_cases e2 : j = i
        · subst e2; exact hlt
        · exact hbef j (by omega)
      · refine ih (i + 1) (by omega) (by omega) (by omega) (fun j hj => ?_) vU' vV' ve' _ _ h' ?_ ?_ W'
        · by_cases e2 : j = i
          · subst e2; exact hlt
          · exact hbef j (by omega)
        · simp only [ust, List.map_append, List.map_cons, List.map_nil]
          exact hLU.append (.cons hr .nil)
        · have e3 : (ust up x (i + 1)).1.take (i + 1) = (ust up x i).1.take i ++ [(ust up x i).1.getD i 0] := by
            simp only [ust]
            rw [List.take_append_of_le_length (by omega), List.take_succ_eq_append_getElem hlt, hgd]
          rw [e3, List.map_append]
          exact hLV.append (.cons hc .nil)
      · rw [List.take_zero, List.append_nil]
        exact Ow.newN 1
    · exact fin i (d + 1) (by omega) (by omega) hbef vU vV ve LU LV h hLU hLV Ow

theorem unravel_ok (S : Small up val) (hU : Intss mU up) (hV : Strss mV val) (w : Int) (bad1 : ¬ WF up val → K (.tuple [.agg [.nilsl, .nilsl], .nilsl, .int .i64 170]) h0) (out : WF up val → ¬ (0 ≤ w ∧ w < up.length) → K (.tuple [.agg [.nilsl, .nilsl], .nilsl, .int .i64 2]) h0)
    (bad : WF up val → ∀ x : Nat, w = x → x < up.length → ∀ i, (∀ j, j ≤ i → j < (ust up x j).1.length) → 512 < (ust up x (i + 1)).1.length → K (.tuple [.agg [.nilsl, .nilsl], .nilsl, .int .i64 190]) h0)
    (good : WF up val → ∀ x : Nat, w = x → x < up.length → ∀ i, UDone up x i → ∀ vU vV ve, Intss vU ((ust up x i).2.map natI) → Strss vV ((ust up x i).1.map fun y => val.getD y []) → Ints ve (natI (ust up x i).1) → K (.tuple [.agg [vU, vV], ve, .int .i64 0]) h0) :
    ACalls prog 17 [.agg [mU, mV], .int .i64 w] h0 K := by
  refine s17_ok ?_
  unfold s17
  refine newRow_in fun rt hrt => ?_
  have ht := Heap.set_same h0 rt (.row 2 [.agg [.nilsl, .nilsl]])
  have hsub : ∀ q o, h0 q = some o → q ≠ rt ∧ (h0.set rt (.row 2 [.agg [.nilsl, .nilsl]])) q = some o := fun q o hq => ⟨(fun e => by rw [e, hrt] at hq; cases hq), Heap.set_sub hrt q o hq⟩
  refine callG_of (tidy_ok S hU hV (fun hW => ?_) (fun W tU tV hTU hTV => ?_))
  · simp only [tTup_tuple, tCons_cons, tInt_int, tNil_nil, tAgg_agg]
    refine newRow_in fun r1 hr1 => st_all (Heap.set_same _ _ _) rfl (ifT_pos rfl ?_)
    rw [Heap.set_set]
    exact fail_ok (Heap.set_sub hr1 _ _ ht) (fun q o hq => ⟨(hsub q o hq).1, Heap.set_sub hr1 _ _ (hsub q o hq).2⟩) (bad1 hW)
  · simp only [tTup_tuple, tCons_cons, tInt_int, tNil_nil, tAgg_agg]
    refine newRow_in fun r1 hr1 => st_all (Heap.set_same _ _ _) rfl (ifT_neg rfl ?_)
    rw [Heap.set_set]
    have hbb : ∀ {c : Int}, K (.tuple [.agg [.nilsl, .nilsl], .nilsl, .int .i64 2]) h0 → s17c1 K c (.ptr rt 0 0) (.ptr r1 0 0) true ((h0.set rt (.row 2 [.agg [.nilsl, .nilsl]])).set r1 (.row 2 [.agg [tU, tV]])) := fun hk =>
      ifT_pos rfl (fail_ok (Heap.set_sub hr1 _ _ ht) (fun q o hq => ⟨(hsub q o hq).1, Heap.set_sub hr1 _ _ (hsub q o hq).2⟩) hk)
    by_cases h1 : w < 0
    · exact ifT_pos (decide_eq_true h1) (hbb (out W (by omega)))
    · refine ifT_neg (decide_eq_false h1) ?_
      rw [ld1_fld (Heap.set_same _ _ _) rfl, hTU.len, tidyUp_len]
      by_cases h2 : (up.length : Int) ≤ w
      · rw [decide_eq_true h2]
        exact hbb (out W (by omega))
      · rw [decide_eq_false h2]
        obtain ⟨x, rfl⟩ := Int.eq_ofNat_of_zero_le (by omega : 0 ≤ w)
        have hx : x < up.length := by omega
        refine ifT_neg rfl (newRow_in fun r2 h2 => newRow_in fun r3 h3 => ?_)
        have W1 := (((((Own.start (h0.set rt (.row 2 [.agg [.nilsl, .nilsl]]))).newC hr1 (.row 2 [.agg [tU, tV]])).newS h2 [.int .i64 (x : Int)]).newC h3 (.row 2 [.agg [.nilsl, .nilsl]])).newN 1).newN 1
        obtain ⟨h4, g4, W4, lit⟩ := freezeC (os := [.cell r3 (.row 2 [.agg [.nilsl, .nilsl]]), .slc 1 .nilsl [], .slc 1 .nilsl [], .slc 1 (.sl r2 1 0 1) [.int .i64 (x : Int)]]) (cs := [tU, tV]) (renum5b W1)
        refine ⟨_, [.ptr rt 0 0, .lptr [tU, tV], .sl r2 1 0 1, .ptr r3 0 0, .int .i64 0], h4, .cons (.refl _) (.cons lit (Lits.refl _)), g4, rfl, 513, ?_⟩
        exact unravel_l2 S W hTU hTV hx ht hsub (bad W x rfl hx) (good W x rfl hx) 512 0 (by omega) (by omega) (by simp [ust]) (by intro j hj; omega) .nilsl .nilsl (.sl r2 1 0 1) [] [] h4 .nil .nil W4
end Go.Proofs.Ytinficcdpggiaaa

namespace Go.Proofs.Ytinficcdpggiaaa
open Go Go.Sym Go.Proofs.Try

variable {up : List (List Int)} {val : List (List ByteArray)} {w : Nat}

theorem ust_pre : ∀ (n j : Nat), j ≤ n → ∃ t, (ust up w n).1 = (ust up w j).1 ++ t
  | 0, j, h => by
    obtain rfl : j = 0 := by omega
    exact ⟨[], by simp⟩
  | n + 1, j, h => by
    by_cases e : j = n + 1
    · subst e; exact ⟨[], by simp⟩
    · obtain ⟨t, ht⟩ := ust_pre n j (by omega)
      exact ⟨t ++ tidyRow up ((ust up w n).1.getD n 0), by show (ust up w n).1 ++ _ = _; rw [ht, List.append_assoc]⟩
theorem ust_get {n j k : Nat} (hj : j ≤ n) (hk : k < (ust up w j).1.length) : (ust up w n).1.getD k 0 = (ust up w j).1.getD k 0 := by
  obtain ⟨t, ht⟩ := ust_pre (up := up) (w := w) n j hj
  rw [ht, List.getD_eq_getElem?_getD, List.getElem?_append_left hk, ← List.getD_eq_getElem?_getD]
theorem ust_row : ∀ (n j : Nat), j < n → (ust up w n).2[j]? = some (List.range' (ust up w j).1.length (tidyRow up ((ust up w j).1.getD j 0)).length)
  | 0, j, h => by omega
  | n + 1, j, h => by
    have hl := ust_len2 up w n
    by_cases e : j = n
    · subst e
      show ((ust up w j).2 ++ [_])[j]? = _
      rw [List.getElem?_append_right (by omega)]
      simp [hl]
    · show ((ust up w n).2 ++ [_])[j]? = _
      rw [List.getElem?_append_left (by omega)]
      exact ust_row n j (by omega)
noncomputable def treeUp (up : List (List Int)) (w i : Nat) : List (List Int) := (ust up w i).2.map natI
theorem treeUp_len {i : Nat} : (treeUp up w i).length = i := by simp [treeUp, ust_len2]
theorem ust_succ_len {j : Nat} : (ust up w (j + 1)).1.length = (ust up w j).1.length + (tidyRow up ((ust up w j).1.getD j 0)).length := by simp only [ust, List.length_append]
theorem ust_len_le {n j : Nat} (hj : j ≤ n) : (ust up w j).1.length ≤ (ust up w n).1.length := by
  obtain ⟨t, ht⟩ := ust_pre (up := up) (w := w) n j hj
  rw [ht, List.length_append]; omega
theorem ust_new {j t : Nat} (ht : t < (tidyRow up ((ust up w j).1.getD j 0)).length) : (ust up w (j + 1)).1.getD ((ust up w j).1.length + t) 0 = (tidyRow up ((ust up w j).1.getD j 0))[t] := by
  show ((ust up w j).1 ++ _).getD _ 0 = _
  rw [List.getD_eq_getElem?_getD, List.getElem?_append_right (by omega), Nat.add_sub_cancel_left, List.getElem?_eq_getElem ht]
  rfl
/-- a step in the tree is a step next above -/
theorem tree_step {i : Nat} (D : UDone up w i) {a b : Nat} : Step (treeUp up w i) a b ↔ a < i ∧ ∃ t, ∃ ht : t < (tidyRow up ((ust up w i).1.getD a 0)).length, b = (ust up w a).1.length + t ∧ b < i ∧ a < b ∧ (ust up w i).1.getD b 0 = (tidyRow up ((ust up w i).1.getD a 0))[t] := by
  constructor
  · rintro ⟨r, hr, hb⟩
    have ha : a < i := by
      have := (List.getElem?_eq_some_iff.1 hr).1
      rwa [treeUp_len] at this
    have hg := ust_get (up := up) (w := w) (Nat.le_of_lt ha) (D.before a ha)
    unfold treeUp at hr
    rw [List.getElem?_map, ust_row i a ha] at hr
    simp only [Option.map_some, Option.some.injEq] at hr
    subst hr
    obtain ⟨k, hk, e⟩ := mem_natI.1 hb
    obtain rfl : b = k := by omega
    rw [List.mem_range'_1] at hk
    have hbe := D.before a ha
    have h1 := ust_succ_len (up := up) (w := w) (j := a)
    have h2 := ust_len_le (up := up) (w := w) (n := i) (j := a + 1) (by omega)
    rw [D.all] at h2
    have htt : b - (ust up w a).1.length < (tidyRow up ((ust up w a).1.getD a 0)).length := by omega
    refine ⟨ha, b - (ust up w a).1.length, by rw [hg]; exact htt, by omega, by omega, by omega, ?_⟩
    have h3 := ust_new (up := up) (w := w) (j := a) htt
    rw [show (ust up w a).1.length + (b - (ust up w a).1.length) = b by omega] at h3
    rw [ust_get (n := i) (j := a + 1) (by omega) (by omega), h3]
    simp only [hg]
  · rintro ⟨ha, t, ht, rfl, hbi, _, _⟩
    have hg := ust_get (up := up) (w := w) (Nat.le_of_lt ha) (D.before a ha)
    rw [hg] at ht
    refine ⟨natI (List.range' (ust up w a).1.length (tidyRow up ((ust up w a).1.getD a 0)).length), ?_, mem_natI.2 ⟨_, ?_, rfl⟩⟩
    · unfold treeUp
      rw [List.getElem?_map, ust_row i a ha]
      rfl
    · rw [List.mem_range'_1]; omega
theorem mem_tidyRow (hi : InR up) {a b : Nat} (ha : a < up.length) : b ∈ tidyRow up a ↔ Step (tidyUp up) a b := by
  rw [tidy_step hi]
  unfold tidyRow
  rw [List.mem_filter, List.mem_range]
  exact ⟨fun h => ⟨ha, h.1, h.2⟩, fun h => ⟨h.2.1, h.2.2⟩⟩
theorem end_lt {i : Nat} (hw : w < up.length) (D : UDone up w i) {a : Nat} (ha : a < i) : (ust up w i).1.getD a 0 < up.length := by
  have hl : a < (ust up w i).1.length := by rw [D.all]; exact ha
  rw [List.getD_eq_getElem?_getD, List.getElem?_eq_getElem hl]
  exact ust_lt hw i _ (List.getElem_mem hl)
theorem tree_reach (W : WF up val) (hw : w < up.length) {i : Nat} (D : UDone up w i) {a b : Nat} (ha : a < i) (h : Reach (treeUp up w i) a b) : b < i ∧ a ≤ b ∧ Reach up ((ust up w i).1.getD a 0) ((ust up w i).1.getD b 0) := by
  induction h with
  | refl => exact ⟨ha, Nat.le_refl _, .refl⟩
  | @tail b c _ hs ih =>
    obtain ⟨hb, t, ht, _, hc, hlt, e⟩ := (tree_step D).1 hs
    obtain ⟨_, h2, h3⟩ := ih
    refine ⟨hc, by omega, h3.trans ?_⟩
    have hbl := end_lt hw D hb
    have := (mem_tidyRow W.inR hbl).1 (List.getElem_mem ht)
    rw [← e] at this
    exact (reach_tidy W hbl).1 (.tail .refl this)
theorem tree_back (W : WF up val) (hw : w < up.length) {i : Nat} (D : UDone up w i) {a c : Nat} (ha : a < i) (h : Reach up ((ust up w i).1.getD a 0) c) : ∃ b, Reach (treeUp up w i) a b ∧ (ust up w i).1.getD b 0 = c := by
  have hal := end_lt hw D ha
  have h' := (reach_tidy W hal).2 h
  clear h
  induction h' with
  | refl => exact ⟨a, .refl, rfl⟩
  | @tail b c _ hs ih =>
    obtain ⟨k, hk, rfl⟩ := ih
    have hki := (tree_reach W hw D ha hk).1
    have hkl := end_lt hw D hki
    have hm := (mem_tidyRow W.inR hkl).2 hs
    obtain ⟨t, ht, rfl⟩ := List.mem_iff_getElem.1 hm
    have hg := ust_get (up := up) (w := w) (Nat.le_of_lt hki) (D.before k hki)
    have hbe := D.before k hki
    have h1 := ust_succ_len (up := up) (w := w) (j := k)
    have h2 := ust_len_le (up := up) (w := w) (n := i) (j := k + 1) (by omega)
    rw [D.all] at h2
    rw [← hg] at h1
    have e3 : (ust up w i).1.getD ((ust up w k).1.length + t) 0 = (tidyRow up ((ust up w i).1.getD k 0))[t] := by
      have ht2 := ht
      rw [hg] at ht2
      rw [ust_get (n := i) (j := k + 1) (by omega) (by rw [ust_succ_len, ← hg]; omega), ust_new ht2]
      simp only [hg]
    exact ⟨(ust up w k).1.length + t, hk.tail ((tree_step D).2 ⟨hki, t, ht, rfl, by omega, by omega, e3⟩), e3⟩
end Go.Proofs.Ytinficcdpggiaaa

namespace Go.Proofs.Ytinficcdpggiaaa
open Go Go.Sym Go.Proofs.Try

variable {up : List (List Int)} {val : List (List ByteArray)} {w i : Nat}

noncomputable def treeVal (up : List (List Int)) (val : List (List ByteArray)) (w i : Nat) : List (List ByteArray) := (ust up w i).1.map fun y => val.getD y []
theorem treeVal_len (D : UDone up w i) : (treeVal up val w i).length = i := by unfold treeVal; rw [List.length_map]; exact D.all
theorem treeVal_get (D : UDone up w i) {a : Nat} (ha : a < i) : (treeVal up val w i).getD a [] = val.getD ((ust up w i).1.getD a 0) [] := by
  have hl : a < (ust up w i).1.length := by rw [D.all]; exact ha
  unfold treeVal
  rw [List.getD_eq_getElem?_getD, List.getElem?_map, List.getElem?_eq_getElem hl, List.getD_eq_getElem?_getD (l := (ust up w i).1), List.getElem?_eq_getElem hl]
  rfl
theorem tree_pos (D : UDone up w i) : 1 ≤ i := by
  have := D.all
  by_cases e : i = 0
  · subst e; simp [ust] at this
  · omega
theorem tree_inR (D : UDone up w i) : InR (treeUp up w i) := fun r hr b hb => by
  obtain ⟨a, ha, e⟩ := List.mem_iff_getElem.1 hr
  have hr' : (treeUp up w i)[a]? = some r := by rw [List.getElem?_eq_getElem ha, e]
  have hb0 : 0 ≤ b := by
    unfold treeUp at hr
    obtain ⟨R, _, rfl⟩ := List.mem_map.1 hr
    obtain ⟨k, _, rfl⟩ := mem_natI.1 hb
    omega
  have := (tree_step D (a := a) (b := b.toNat)).1 ⟨r, hr', by rw [Int.toNat_of_nonneg hb0]; exact hb⟩
  obtain ⟨_, _, _, _, hbi, _, _⟩ := this
  rw [treeUp_len]
  omega
theorem tree_wf (W : WF up val) (hw : w < up.length) (D : UDone up w i) : WF (treeUp up w i) (treeVal up val w i) where
  pos := by rw [treeUp_len]; exact tree_pos D
  max := by rw [treeUp_len]; exact D.max
  len := by rw [treeUp_len, treeVal_len D]
  inR := tree_inR D
  fine l hl := by
    unfold treeVal at hl
    obtain ⟨y, hy, rfl⟩ := List.mem_map.1 hl
    have hyl : y < val.length := by rw [W.len]; exact ust_lt hw i y hy
    rw [getD_val hyl]
    exact W.fine _ (List.getElem_mem hyl)
  cond a b ha hb := by
    rw [treeUp_len] at ha hb
    intro h hne
    obtain ⟨_, hab, hR⟩ := tree_reach W hw D ha h
    refine ⟨fun h' => ?_, ?_⟩
    · obtain ⟨_, hba, _⟩ := tree_reach W hw D hb h'
      omega
    · rw [treeVal_get D ha, treeVal_get D hb]
      by_cases e : (ust up w i).1.getD a 0 = (ust up w i).1.getD b 0
      · rw [e]; exact fun s hs => hs
      · exact (W.cond _ _ (end_lt hw D ha) (end_lt hw D hb) hR e).2
theorem tree_fit (hw : w < up.length) (D : UDone up w i) : FitF (treeUp up w i) up (natI (ust up w i).1) where
  len := by rw [treeUp_len]; simp only [natI, List.length_map]; exact D.all
  rng x hx := by
    obtain ⟨k, hk, rfl⟩ := mem_natI.1 hx
    have := ust_lt hw i k hk
    omega
theorem tree_isB (W : WF up val) (hw : w < up.length) (D : UDone up w i) : IsB (treeUp up w i) (treeVal up val w i) up val (natI (ust up w i).1) := by
  intro a ha
  rw [treeUp_len] at ha
  have hl : ∀ b, b < i → gOf (natI (ust up w i).1) b = (ust up w i).1.getD b 0 := fun b hb => gOf_nat (by rw [D.all]; exact hb)
  rw [hl a ha]
  refine ⟨treeVal_get D ha, fun b hb => ?_, fun c hc => ?_⟩
  · obtain ⟨hbi, _, hR⟩ := tree_reach W hw D ha hb
    rw [hl b hbi]
    exact hR
  · obtain ⟨b, hb, e⟩ := tree_back W hw D ha hc
    exact ⟨b, hb, by rw [hl b (tree_reach W hw D ha hb).1]; exact e⟩
theorem tree_small (S : Small up val) (W : WF up val) (hw : w < up.length) (D : UDone up w i) : Small (treeUp up w i) (treeVal up val w i) where
  ups := by have := D.max; rw [treeUp_len]; omega
  vals := by have := D.max; rw [treeVal_len D]; omega
  row r hr := by
    obtain ⟨a, ha, e⟩ := List.mem_iff_getElem.1 hr
    rw [treeUp_len] at ha
    have h1 : (treeUp up w i)[a]? = some (natI (List.range' (ust up w a).1.length (tidyRow up ((ust up w a).1.getD a 0)).length)) := by
      unfold treeUp
      rw [List.getElem?_map, ust_row i a ha]
      rfl
    rw [List.getElem?_eq_getElem (by rw [treeUp_len]; exact ha), e] at h1
    cases h1
    have h2 := tidyRow_len (up := up) (a := (ust up w a).1.getD a 0)
    have h3 := W.max
    simp only [natI, List.length_map, List.length_range']
    omega
  names l hl := by
    unfold treeVal at hl
    obtain ⟨y, hy, rfl⟩ := List.mem_map.1 hl
    have hyl : y < val.length := by rw [W.len]; exact ust_lt hw i y hy
    rw [getD_val hyl]
    exact S.names _ (List.getElem_mem hyl)
end Go.Proofs.Ytinficcdpggiaaa

namespace Go.Proofs.Ytinficcdpggiaaa
open Go Go.Sym Go.Proofs.Try

variable {K : AVal → Heap → Prop} {xs : List Nd} {up up' : List (List Int)} {val val' : List (List ByteArray)} {mU mV nU nV vr t : AVal} {h h' h0 : Heap}

theorem heads_end (HH : runsTrue prog 20 20000 60 = true) (hs : ∀ q o, h0 q = some o → h q = some o) (hk : K (.bool true) h0) :
    callG prog 20 [] h fun v h2 => tBool v fun b => retG (.bool b) h2 K := by
  refine callG_of (heads_ok HH ?_)
  rw [tBool_bool]
  exact retG_drop hs hk
theorem set_sub2 {h0 h : Heap} {r : Nat} {o : AObj} (hs : ∀ q o, h0 q = some o → h q = some o) (hr : h r = none) : ∀ q o', h0 q = some o' → h.set r o q = some o' := fun q o' hq => Heap.set_sub hr q o' (hs q o' hq)

theorem keepsM_c3 (HH : runsTrue prog 20 20000 60 = true) (S : Small up val) (hU : Intss mU up) (hV : Strss mV val) (W : WF up val) (hx : Nodes t xs) (T : TabOK xs) (w : Int) (hk : K (.bool true) h0) (hs : ∀ q o, h0 q = some o → h q = some o) :
    s5c3 K w (.lptr [mU, mV]) t false h := by
  have hmax := W.max
  unfold s5c3
  refine ifT_neg rfl ?_
  rw [ldN_agg2]
  simp only [tCons_cons, tNil_nil]
  refine callG_of (unravel_ok S hU hV w (fun hn => absurd W hn) (fun _ _ => ?_) (fun _ x _ _ i _ _ => ?_) (fun _ x hx' hxl i D vU vV ve hTU hTV hTe => ?_))
  · simp only [tTup_tuple, tCons_cons, tInt_int, tNil_nil, tAgg_agg]
    refine newRow_in fun r hr => st_all (Heap.set_same _ _ _) rfl (ifT_pos rfl ?_)
    rw [Heap.set_set]
    exact heads_end HH (set_sub2 hs hr) hk
  · simp only [tTup_tuple, tCons_cons, tInt_int, tNil_nil, tAgg_agg]
    refine newRow_in fun r hr => st_all (Heap.set_same _ _ _) rfl (ifT_pos rfl ?_)
    rw [Heap.set_set]
    exact heads_end HH (set_sub2 hs hr) hk
  · simp only [tTup_tuple, tCons_cons, tInt_int, tNil_nil, tAgg_agg]
    refine newRow_in fun r hr => st_all (Heap.set_same _ _ _) rfl (ifT_neg rfl ?_)
    rw [Heap.set_set, ldN2 (Heap.set_same _ _ _)]
    simp only [tCons_cons, tNil_nil]
    rw [ldN_agg2]
    simp only [tCons_cons, tNil_nil]
    have WT := tree_wf W hxl D
    have ST := tree_small S W hxl D
    have FT := tree_fit hxl D
    have BT := tree_isB W hxl D
    have hDm := D.max
    have hall := D.all
    refine callG_of (bounded_ok ST hTU hTV S hU hV hTe (by simp [natI]; omega) (fun h => absurd WT h) (fun _ h => absurd W h) (fun _ _ h => absurd FT h) fun _ _ _ => ?_)
    simp only [tTup_tuple, tCons_cons, tBool_bool, tInt_int, tNil_nil]
    refine ifT_pos (by simp [BT]) (ifT_pos rfl ?_)
    rw [ldN2 (Heap.set_same _ _ _)]
    simp only [tCons_cons, tNil_nil]
    rw [ldN_agg2]
    simp only [tCons_cons, tNil_nil]
    refine callG_of (keeps_ok ST hTU hTV S hU hV WT W hTe FT BT hx T ?_)
    rw [tBool_bool]
    exact ifT_pos rfl (heads_end HH (set_sub2 hs hr) hk)

theorem keepsM_c2 (HH : runsTrue prog 20 20000 60 = true) (S : Small up val) (hU : Intss mU up) (hV : Strss mV val) (W : WF up val) (hx : Nodes t xs) (T : TabOK xs) (w : Int) (hk : K (.bool true) h0) (hs : ∀ q o, h0 q = some o → h q = some o) :
    s5c2 K w (.lptr [mU, mV]) t false h := by
  have hmax := W.max
  unfold s5c2
  refine ifT_neg rfl ?_
  rw [ldN_agg2]
  simp only [tCons_cons, tNil_nil]
  refine callG_of (above_ok S hU hV w (fun hn => absurd W hn) (fun _ _ => ?_) (fun _ x _ hxl vU vV vl hAU hAV hAl => ?_))
  · simp only [tTup_tuple, tCons_cons, tInt_int, tNil_nil, tAgg_agg]
    refine newRow_in fun r hr => st_all (Heap.set_same _ _ _) rfl (ifT_pos rfl ?_)
    rw [Heap.set_set]
    exact heads_end HH (set_sub2 hs hr) hk
  · simp only [tTup_tuple, tCons_cons, tInt_int, tNil_nil, tAgg_agg]
    refine newRow_in fun r hr => st_all (Heap.set_same _ _ _) rfl (ifT_neg rfl ?_)
    rw [Heap.set_set, ldN2 (Heap.set_same _ _ _)]
    simp only [tCons_cons, tNil_nil]
    rw [ldN_agg2]
    simp only [tCons_cons, tNil_nil]
    have WA := wf_tidy (above_wf W hxl)
    have SA := above_small S W hxl
    have FA := above_fit W hxl
    have BA := above_isB W hxl
    have hal := above_len (up := up) (a := x)
    refine callG_of (bounded_ok SA hAU hAV S hU hV hAl (by simp [natI]; omega) (fun h => absurd WA h) (fun _ h => absurd W h) (fun _ _ h => absurd FA h) fun _ _ _ => ?_)
    simp only [tTup_tuple, tCons_cons, tBool_bool, tInt_int, tNil_nil]
    refine ifT_neg (by simp [BA]) (ifT_neg rfl ?_)
    rw [ldN2 (Heap.set_same _ _ _)]
    simp only [tCons_cons, tNil_nil]
    rw [ldN_agg2]
    simp only [tCons_cons, tNil_nil]
    refine callG_of (keeps_ok SA hAU hAV S hU hV WA W hAl FA BA hx T ?_)
    rw [tBool_bool]
    exact keepsM_c3 HH S hU hV W hx T w hk (set_sub2 hs hr)

theorem keepsM_c1 (HH : runsTrue prog 20 20000 60 = true) (S : Small up val) (hU : Intss mU up) (hV : Strss mV val) (hx : Nodes t xs) (T : TabOK xs) (w : Int) (hk : K (.bool true) h) :
    s5c1 K w (.lptr [mU, mV]) t false h := by
  unfold s5c1
  refine ifT_neg rfl ?_
  rw [ldN_agg2]
  simp only [tCons_cons, tNil_nil]
  refine callG_of (quotient_ok S hU hV (fun _ => ?_) (fun W c rows vU vV cv C Q hQU hQV hQc => ?_))
  · simp only [tTup_tuple, tCons_cons, tInt_int, tNil_nil, tAgg_agg]
    refine newRow_in fun r hr => st_all (Heap.set_same _ _ _) rfl (ifT_pos rfl ?_)
    rw [Heap.set_set]
    exact heads_end HH (Heap.set_sub hr) hk
  · simp only [tTup_tuple, tCons_cons, tInt_int, tNil_nil, tAgg_agg]
    refine newRow_in fun r hr => st_all (Heap.set_same _ _ _) rfl (ifT_neg rfl ?_)
    rw [Heap.set_set, ldN_agg2]
    simp only [tCons_cons, tNil_nil]
    rw [ldN2 (Heap.set_same _ _ _)]
    simp only [tCons_cons, tNil_nil]
    have WQ := wf_tidy (Q.wf W C)
    have SQ := Q.small S W C
    have FQ := Q.fit
    have BQ := Q.isB W C
    have hmax := W.max
    refine callG_of (bounded_ok S hU hV SQ hQU hQV hQc (by simp [cMap, natI]; omega) (fun h => absurd W h) (fun _ h => absurd WQ h) (fun _ _ h => absurd FQ h) fun _ _ _ => ?_)
    simp only [tTup_tuple, tCons_cons, tBool_bool, tInt_int, tNil_nil]
    refine ifT_neg (by simp [BQ]) (ifT_neg rfl ?_)
    rw [ldN_agg2]
    simp only [tCons_cons, tNil_nil]
    rw [ldN2 (Heap.set_same _ _ _)]
    simp only [tCons_cons, tNil_nil]
    refine callG_of (keeps_ok S hU hV SQ hQU hQV W WQ hQc FQ BQ hx T ?_)
    rw [tBool_bool]
    exact keepsM_c2 HH S hU hV W hx T w hk (Heap.set_sub hr)

theorem keepsM_ok (HH : runsTrue prog 20 20000 60 = true) (S : Small up val) (hU : Intss mU up) (hV : Strss mV val) (S' : Small up' val') (hU' : Intss nU up') (hV' : Strss nV val') {vf : AVal} {f : List Int} (hf : Ints vf f) (hfl : f.length ≤ 1048576) (w : Int) (hr : Nodes vr xs) (hxl : xs.length ≤ 1048576) (hk : K (.bool true) h) :
    ACalls prog 5 [.agg [mU, mV], .agg [nU, nV], vf, .int .i64 w, vr] h K := by
  refine s5_ok ?_
  unfold s5
  refine callG_of (rowsOf_ok hr hxl fun t xs' hx T => ?_)
  have c1 := keepsM_c1 (t := t) (xs := xs') HH S hU hV hx T w hk
  refine callG_of (bounded_ok S hU hV S' hU' hV' hf hfl (fun _ => ?_) (fun _ _ => ?_) (fun _ _ _ => ?_) fun W W' F => ?_)
  · simp only [tTup_tuple, tCons_cons, tBool_bool, tInt_int, tNil_nil]
    exact ifT_neg rfl c1
  · simp only [tTup_tuple, tCons_cons, tBool_bool, tInt_int, tNil_nil]
    exact ifT_neg rfl c1
  · simp only [tTup_tuple, tCons_cons, tBool_bool, tInt_int, tNil_nil]
    exact ifT_neg rfl c1
  · simp only [tTup_tuple, tCons_cons, tBool_bool, tInt_int, tNil_nil]
    refine ifT_pos rfl ?_
    by_cases B : IsB up val up' val' f
    · refine ifT_pos (by simp [B]) (callG_of (keeps_ok S hU hV S' hU' hV' W W' hf F B hx T ?_))
      rw [tBool_bool]
      exact c1
    · exact ifT_neg (by simp [B]) c1
end Go.Proofs.Ytinficcdpggiaaa

namespace Go.Proofs.Ytinficcdpggiaaa
open Go Go.Sym Go.Proofs.Try

variable {K : AVal → Heap → Prop} {up : List (List Int)} {val : List (List ByteArray)} {c : Nat → Nat} {mU mV : AVal} {h h0 : Heap}

/-- the classes of a quotient are its worlds -/
theorem cls_id {rows : List (List Int)} (Q : QRows up c rows) (W : WF up val) (C : IsCls up val c) {d : Nat → Nat} (D : IsCls (tidyUp rows) (qVal up val c) d) : ∀ i, i < nxt c up.length → d i = i := by
  have hl : (tidyUp rows).length = nxt c up.length := by rw [tidyUp_len, Q.len]
  have hid : RG (fun i : Nat => i) (nxt c up.length) := fun i hi => by
    have : ∀ n, nxt (fun i : Nat => i) n = n := fun n => by
      induction n with
      | zero => rfl
      | succ n ih => simp only [nxt]; omega
    rw [this]; exact Nat.le_refl _
  have hd := D.rg
  rw [hl] at hd
  refine hd.uniq hid (fun i j hi hj => ?_) _ (Nat.le_refl _)
  rw [D.eq i j (by omega) (by omega)]
  refine ⟨fun h => qBsm Q W C hi hj h, fun h => ?_⟩
  have e : i = j := h
  subst e
  exact (D.eq i i (by omega) (by omega)).1 rfl
theorem nxt_id {d : Nat → Nat} : ∀ n, (∀ i, i < n → d i = i) → nxt d n = n
  | 0, _ => rfl
  | n + 1, h => by
    simp only [nxt]
    rw [nxt_id n (fun i hi => h i (by omega)), h n (by omega)]
    omega
/-- a quotient's quotient is itself -/
theorem qq_up {rows rows2 : List (List Int)} (Q : QRows up c rows) (W : WF up val) (C : IsCls up val c) {d : Nat → Nat} (D : IsCls (tidyUp rows) (qVal up val c) d) (Q2 : QRows (tidyUp rows) d rows2) : tidyUp rows2 = tidyUp rows := by
  have hid := cls_id Q W C D
  have hl : (tidyUp rows).length = nxt c up.length := by rw [tidyUp_len, Q.len]
  have hn : nxt d (tidyUp rows).length = nxt c up.length := by rw [hl]; exact nxt_id _ hid
  have WQ := Q.wf W C
  have WT := wf_tidy WQ
  refine tidyUp_congr (by rw [Q2.len, hn, Q.len]) fun a b ha hb => ?_
  rw [Q2.len, hn] at ha hb
  have ha' : a < rows.length := by rw [Q.len]; exact ha
  rw [Bool.eq_iff_iff, rb_iff, rb_iff, Q2.reach WT D (by rw [hn]; exact ha)]
  constructor
  · rintro ⟨w, x, hw, e, hx, e2⟩
    rw [hl] at hw
    have hxl := hx.lt WT.inR (by rw [hl]; exact hw)
    rw [hl] at hxl
    rw [hid w hw] at e
    rw [hid x hxl] at e2
    subst e e2
    exact (reach_tidy WQ ha').1 hx
  · intro hx
    exact ⟨a, b, by rw [hl]; exact ha, hid a ha, (reach_tidy WQ ha').2 hx, hid b hb⟩
theorem qq_val {rows : List (List Int)} (Q : QRows up c rows) (W : WF up val) (C : IsCls up val c) {d : Nat → Nat} (D : IsCls (tidyUp rows) (qVal up val c) d) : qVal (tidyUp rows) (qVal up val c) d = qVal up val c := by
  have hid := cls_id Q W C D
  have hl : (tidyUp rows).length = nxt c up.length := by rw [tidyUp_len, Q.len]
  have hn : nxt d (tidyUp rows).length = nxt c up.length := by rw [hl]; exact nxt_id _ hid
  refine List.ext_getElem (by rw [qVal_len, hn, qVal_len]) fun i h1 h2 => ?_
  rw [qVal_len] at h1 h2
  have hi : i < (tidyUp rows).length := by rw [hl]; exact h2
  have e1 := qVal_at D hi
  rw [hid i h2] at e1
  have g1 : ∀ (L : List (List ByteArray)) (h : i < L.length), L[i] = L.getD i [] := fun L h => by simp [List.getD, h]
  rw [g1, g1, e1]

theorem least_l1 (HH : runsTrue prog 20 20000 60 = true) {n : Nat} (hn : n ≤ 512) {cv qU qV pU pV : AVal} {L : List Int} (hL : L.length = n) (hid : ∀ i (hi : i < n), L[i]'(by rw [hL]; exact hi) = (i : Int)) (hc : Ints cv L) {rq rp : Nat} {qu : List (List Int)} {qv : List (List ByteArray)} (SQ : Small qu qv) (hqn : qu.length = n)
    (hqU : Intss qU qu) (hqV : Strss qV qv) (hpU : Intss pU qu) (hpV : Strss pV qv) (hq : h rq = some (.row 2 [.agg [qU, qV]])) (hp : h rp = some (.row 2 [.agg [pU, pV]])) (hs : ∀ q o, h0 q = some o → h q = some o) (hk : K (.bool true) h0) :
    ∀ d i : Nat, i + d = n → s7l1 K (d + 1) (.ptr rq 0 0) cv 0 (.ptr rp 0 0) 0 (i : Int) h
  | 0, i, hd => by
    unfold s7l1
    rw [hc.len, hL]
    refine ifT_neg (decide_eq_false (by omega)) (ifT_pos rfl (ifT_pos rfl ?_))
    rw [ldN2 hp]
    simp only [tCons_cons, tNil_nil]
    rw [ldN2 hq]
    simp only [tCons_cons, tNil_nil]
    refine callG_of (same_ok SQ hpU hpV hqU hqV ?_)
    rw [tBool_bool]
    refine ifT_pos (by simp) ?_
    rw [hc.len, hL, addOff_ptr, ld1_fld hq rfl, hqU.len, hqn]
    exact ifT_pos (by simp) (heads_end HH hs hk)
  | d + 1, i, hd => by
    have hi : i < n := by omega
    unfold s7l1
    rw [hc.len, hL]
    refine ifT_pos (decide_eq_true (by omega)) ?_
    rw [hc.ix (by rw [hL]; exact hi), ld1_lptr, tInt_int, hid i hi]
    exact ifT_neg (by simp) (rg_of (by omega) (by omega) (s7l1_go (least_l1 HH hn hL hid hc SQ hqn hqU hqV hpU hpV hq hp hs hk d (i + 1) (by omega))))

theorem leastM_ok (HH : runsTrue prog 20 20000 60 = true) (S : Small up val) (hU : Intss mU up) (hV : Strss mV val) (hk : K (.bool true) h) : ACalls prog 7 [.agg [mU, mV]] h K := by
  refine s7_ok ?_
  unfold s7
  refine callG_of (quotient_ok S hU hV (fun _ => ?_) (fun W c rows vU vV cv C Q hQU hQV hQc => ?_))
  · simp only [tTup_tuple, tCons_cons, tInt_int, tNil_nil, tAgg_agg]
    refine newRow_in fun r hr => st_all (Heap.set_same _ _ _) rfl (ifT_pos rfl ?_)
    rw [Heap.set_set]
    exact heads_end HH (Heap.set_sub hr) hk
  · simp only [tTup_tuple, tCons_cons, tInt_int, tNil_nil, tAgg_agg]
    refine newRow_in fun r hr => st_all (Heap.set_same _ _ _) rfl (ifT_neg rfl ?_)
    rw [Heap.set_set, ldN2 (Heap.set_same _ _ _)]
    simp only [tCons_cons, tNil_nil]
    have WT := wf_tidy (Q.wf W C)
    have SQ := Q.small S W C
    have hmax := W.max
    have hq := nxt_le C.rg up.length (Nat.le_refl _)
    have hl : (tidyUp rows).length = nxt c up.length := by rw [tidyUp_len, Q.len]
    refine callG_of (classesM_ok SQ hQU hQV (fun hn => absurd WT hn) (fun _ v d D hd => ?_))
    simp only [tTup_tuple, tCons_cons, tInt_int, tNil_nil]
    rw [ldN2 (Heap.set_same _ _ _)]
    simp only [tCons_cons, tNil_nil]
    refine callG_of (quotient_ok SQ hQU hQV (fun hn => absurd WT hn) (fun _ d2 rows2 vU2 vV2 cv2 D2 Q2 hQU2 hQV2 _ => ?_))
    simp only [tTup_tuple, tCons_cons, tInt_int, tNil_nil, tAgg_agg]
    refine newRow_in fun r1 hr1 => st_all (Heap.set_same _ _ _) rfl ?_
    rw [Heap.set_set]
    rw [qq_up Q W C D2 Q2] at hQU2
    rw [qq_val Q W C D2] at hQV2
    have hid := cls_id Q W C D
    have hne : r ≠ r1 := fun e => by rw [e, Heap.set_same] at hr1; cases hr1
    refine s7l1_in (nxt c up.length + 1) (least_l1 (n := nxt c up.length) HH (by omega) (by simp [hl]) (fun i hi => ?_) hd SQ hl hQU hQV hQU2 hQV2 (by rw [Heap.set_ne _ _ hne, Heap.set_same]) (Heap.set_same _ _ _) (set_sub2 (Heap.set_sub hr) hr1) hk _ 0 (by omega))
    simp only [List.getElem_map, List.getElem_range]
    rw [hid i hi]
end Go.Proofs.Ytinficcdpggiaaa

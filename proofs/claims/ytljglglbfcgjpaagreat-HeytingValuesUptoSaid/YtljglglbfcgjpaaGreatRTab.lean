/- Words for contracts: nodes of a table of formulas, and memory that is read as a list of them. No condition. Contracts: tables that are read: has, Find. No condition. Contracts: a table of formulas is owned: a row is put in (the program's and the document's). No condition. Contracts: tables out of rows: From, Both. No condition. Contracts: the program's Node, Below. No condition. Printed by lay.py (this repo, wip/tools): where the library's functions stand in the given program. No condition. Contracts: the program's Below: its answer. No condition. A row of truths in memory. No condition. Contracts: the document's Below, Occurs, Signs. No condition. -/
import Derived.Test.YtljglglbfcgjpaaGreatRWor
import Derived.Test.YtljglglbfcgjpaaGreatM6
import Derived.Shelf.Sort.Plain
import Derived.Test.YtljglglbfcgjpaaGreatProg
import Derived.KernelRfl

set_option linter.unusedVariables false
set_option linter.unusedSimpArgs false

namespace Go.Proofs.YtljglglbfcgjpaaGreat
open Go Go.Sym Go.Proofs.Tryz

variable {K : AVal → Heap → Prop} {h h0 : Heap}

structure Nd where
  k : Int
  s : ByteArray
  l : Int
  r : Int
def nodeC (x : Nd) : List AVal := [.int .i64 x.k, .str x.s, .int .i64 x.l, .int .i64 x.r]
def nodeV (x : Nd) : AVal := .agg (nodeC x)
def Nodes (v : AVal) (xs : List Nd) : Prop := SlOf 4 v (xs.map nodeV)
/-- a right node at place i -/
def NdOK (i : Nat) (x : Nd) : Prop := x.k = 1 ∨ x.k = 2 ∨ ((x.k = 3 ∨ x.k = 4 ∨ x.k = 5) ∧ (0 ≤ x.l ∧ x.l < i) ∧ 0 ≤ x.r ∧ x.r < i)
structure TabOK (xs : List Nd) : Prop where
  len : xs.length ≤ 1024
  ok : ∀ i x, xs[i]? = some x → NdOK i x
theorem Nodes.len {v : AVal} {xs : List Nd} (h : Nodes v xs) (K : Int → Prop) : lenN v K = K xs.length := by rw [lenN_of h]; simp
theorem Nodes.ix {v : AVal} {xs : List Nd} (h : Nodes v xs) {i : Nat} (hi : i < xs.length) (K : AVal → Prop) : ixS 4 v (i : Int) K = K (.lptr (nodeC xs[i])) := by
  rw [ixS_nat h (i := i) (e := nodeV xs[i]) (by simp [hi])]
  rfl
theorem ldN_node (h : Heap) (x : Nd) (K : List AVal → Prop) : ldN 4 h (.lptr (nodeC x)) K = K (nodeC x) := ldN_lptr 4 h _ K (by simp [nodeC])
theorem nilCheck_ptr (r i o : Nat) (K : AVal → Prop) : nilCheckA (.ptr r i o) K = K (.ptr r i o) := rfl
theorem nilCheck_lptr (l : List AVal) (K : AVal → Prop) : nilCheckA (.lptr l) K = K (.lptr l) := rfl
theorem ldN_elem {h : Heap} {r i n es : Nat} {elems cs : List AVal} (hr : h r = some (.row es elems)) (he : elems[i]? = some (.agg cs)) (hn : n = cs.length) (K : List AVal → Prop) : ldN n h (.ptr r i 0) K = K cs := by
  subst hn
  unfold ldN ldCells
  simp only [hr, he, cellsOf_agg, List.drop_zero, List.take_length]
  rw [Nat.ble_eq_true_of_le (Nat.le_refl _)]
  rfl

theorem eqNode (x y : Nd) : eqT prog 8 71 (nodeV x) (nodeV y) = some ((x.k == y.k) && (strEq x.s y.s && ((x.l == y.l) && ((x.r == y.r) && true)))) := by kernel_rfl
theorem eqNodeG : prog.eqGuardType prog.depth 71 = false := by kernel_rfl
theorem eqNodeQ (x y : Nd) {K : Bool → Prop} (hk : ∀ b, K b) : eqQ prog 71 (nodeV x) (nodeV y) K := by
  refine ⟨eqNodeG, ?_⟩
  rw [eqNode]
  exact hk _


theorem nilPp (r i o : Nat) (X : Bool → Prop) : nilP (.ptr r i o) X = X false := rfl
theorem nilPn (X : Bool → Prop) : nilP .nilptr X = X true := rfl
theorem nilMr (r : Nat) (X : Bool → Prop) : nilM (.mapr r) X = X false := rfl
theorem nilSn (X : Bool → Prop) : nilS .nilsl X = X true := rfl
theorem nilSs (r es o n : Nat) (X : Bool → Prop) : nilS (.sl r es o n) X = X false := rfl
theorem nilSl (es : Nat) (l : List AVal) (X : Bool → Prop) : nilS (.lsl es l) X = X false := rfl
/-- the same node? -/
def ndB (x y : Nd) : Bool := (x.k == y.k) && (strEq x.s y.s && ((x.l == y.l) && ((x.r == y.r) && true)))
theorem ndB_iff {x y : Nd} : ndB x y = true ↔ x = y := by
  unfold ndB
  rw [strEq_dec]
  obtain ⟨a, b, c, d⟩ := x
  obtain ⟨a', b', c', d'⟩ := y
  simp
theorem ndB_self (x : Nd) : ndB x x = true := ndB_iff.2 rfl
theorem eqNodeX {x y : Nd} {K : Bool → Prop} (hk : K (ndB x y)) : eqQ prog 71 (nodeV x) (nodeV y) K := by
  refine ⟨eqNodeG, ?_⟩
  rw [eqNode]
  exact hk
/-- where a node stands -/
def ndIx (y : Nd) (xs : List Nd) : Option Nat := xs.findIdx? fun x => ndB x y
theorem ndIx_some {y : Nd} {xs : List Nd} {i : Nat} (h : ndIx y xs = some i) : xs[i]? = some y := by
  unfold ndIx at h
  obtain ⟨h1, h2, _⟩ := List.findIdx?_eq_some_iff_getElem.1 h
  rw [List.getElem?_eq_getElem h1]
  exact congrArg some (ndB_iff.1 h2)

/-- a slice that is read as these nodes -/
def RdN (h : Heap) (v : AVal) (xs : List Nd) : Prop := (v = .nilsl ∧ xs = []) ∨ (∃ (r : Nat) (L : List AVal), v = .sl r 4 0 xs.length ∧ h r = some (.row 4 L) ∧ ∀ (i : Nat) (x : Nd), xs[i]? = some x → L[i]? = some (nodeV x)) ∨ Nodes v xs
theorem RdN.len {v : AVal} {xs : List Nd} (R : RdN h v xs) (K : Int → Prop) : lenN v K = K xs.length := by
  rcases R with ⟨rfl, rfl⟩ | ⟨r, L, rfl, _, _⟩ | R
  · rfl
  · rfl
  · exact R.len K
theorem RdN.ext {h h' : Heap} {v : AVal} {xs : List Nd} (R : RdN h v xs) (e : ∀ q o, h q = some o → h' q = some o) : RdN h' v xs := by
  rcases R with R | ⟨r, L, e1, e2, e3⟩ | R
  · exact .inl R
  · exact .inr (.inl ⟨r, L, e1, e _ _ e2, e3⟩)
  · exact .inr (.inr R)
theorem RdN.ix {v : AVal} {xs : List Nd} (R : RdN h v xs) {i : Nat} {x : Nd} (hi : xs[i]? = some x) {K : List AVal → Prop} (hk : K (nodeC x)) : ixS 4 v (i : Int) fun p => ldN 4 h p K := by
  have hlt := (List.getElem?_eq_some_iff.1 hi).1
  rcases R with ⟨rfl, rfl⟩ | ⟨r, L, rfl, hr, hL⟩ | R
  · simp at hlt
  · refine ixS_sl0 hlt ?_
    rw [ldN_elem (n := 4) hr (hL i x hi) rfl]
    exact hk
  · rw [R.ix hlt, ldN_node, (List.getElem?_eq_some_iff.1 hi).2]
    exact hk
theorem RdN.fld {v : AVal} {xs : List Nd} (R : RdN h v xs) {i o : Nat} {x : Nd} {c : AVal} (hi : xs[i]? = some x) (ho : (nodeC x)[o]? = some c) {K : AVal → Prop} (hk : K c) : ixS 4 v (i : Int) fun p => addOff p o fun p => ld1 h p K := by
  have hlt := (List.getElem?_eq_some_iff.1 hi).1
  have hol := (List.getElem?_eq_some_iff.1 ho).1
  rcases R with ⟨rfl, rfl⟩ | ⟨r, L, rfl, hr, hL⟩ | R
  · simp at hlt
  · refine ixS_sl0 hlt ?_
    rw [addOff_ptr]
    unfold ld1 ldCells
    simp only [hr, hL i x hi, nodeV, cellsOf_agg, Nat.zero_add]
    rw [List.drop_eq_getElem_cons hol]
    simp only
    rw [(List.getElem?_eq_some_iff.1 ho).2]
    exact hk
  · rw [R.ix hlt, (List.getElem?_eq_some_iff.1 hi).2, addOff_lptr, List.drop_eq_getElem_cons hol, (List.getElem?_eq_some_iff.1 ho).2, ld1_lptr]
    exact hk

/-- a program's table is read as these rows -/
def PRd (h : Heap) (t : AVal) (xs : List Nd) : Prop := ∃ rt vN q es, t = .ptr rt 0 0 ∧ h rt = some (.row 2 [.agg [vN, .mapr q]]) ∧ h q = some (.map es) ∧ RdN h vN xs
/-- a document's table is read as these rows -/
def DRd (h : Heap) (t : AVal) (xs : List Nd) : Prop := ∃ rt vN, t = .ptr rt 0 0 ∧ h rt = some (.row 1 [.agg [vN]]) ∧ RdN h vN xs
theorem PRd.ext {h h' : Heap} {t : AVal} {xs : List Nd} (R : PRd h t xs) (e : ∀ q o, h q = some o → h' q = some o) : PRd h' t xs := by
  obtain ⟨rt, vN, q, es, h1, h2, h3, h4⟩ := R
  exact ⟨rt, vN, q, es, h1, e _ _ h2, e _ _ h3, h4.ext e⟩
theorem DRd.ext {h h' : Heap} {t : AVal} {xs : List Nd} (R : DRd h t xs) (e : ∀ q o, h q = some o → h' q = some o) : DRd h' t xs := by
  obtain ⟨rt, vN, h1, h2, h3⟩ := R
  exact ⟨rt, vN, h1, e _ _ h2, h3.ext e⟩
/-- the rows of a program's table -/
theorem PRd.ld {t : AVal} {xs : List Nd} (R : PRd h t xs) : ∃ vN, RdN h vN xs ∧ ∀ K : AVal → Prop, (nilCheckA t fun p => addOff p 0 fun p => ld1 h p K) = K vN := by
  obtain ⟨rt, vN, q, es, rfl, h2, h3, h4⟩ := R
  exact ⟨vN, h4, fun K => by rw [nilCheck_ptr, addOff_ptr, ld1_fld h2 rfl]⟩
theorem DRd.ld {t : AVal} {xs : List Nd} (R : DRd h t xs) : ∃ vN, RdN h vN xs ∧ ∀ K : AVal → Prop, (nilCheckA t fun p => addOff p 0 fun p => ld1 h p K) = K vN := by
  obtain ⟨rt, vN, rfl, h2, h3⟩ := R
  exact ⟨vN, h3, fun K => by rw [nilCheck_ptr, addOff_ptr, ld1_fld h2 rfl]⟩
end Go.Proofs.YtljglglbfcgjpaaGreat

namespace Go.Proofs.YtljglglbfcgjpaaGreat
open Go Go.Sym Go.Proofs.Tryz

variable {K : AVal → Heap → Prop} {h h0 hb : Heap}

theorem ndB_comm (x y : Nd) : ndB x y = ndB y x := by
  rw [Bool.eq_iff_iff, ndB_iff, ndB_iff]
  exact eq_comm
/-- is there a row of this number? -/
def hasN (n : Nat) (i : Int) : Bool := decide (0 ≤ i) && decide (i < n)
theorem aliveP_ok {t : AVal} {xs : List Nd} (R : PRd h t xs) (hk : K (.bool true) h) : ACalls prog 91 [t] h K := by
  obtain ⟨rt, vN, q, es, rfl, h2, h3, h4⟩ := R
  refine s91_ok ?_
  unfold s91
  rw [nilPp]
  refine ifT_pos rfl ?_
  rw [nilCheck_ptr, addOff_ptr, ld1_fld h2 rfl, nilMr]
  exact retG_of hk
theorem hasP_ok {t : AVal} {xs : List Nd} (R : PRd h t xs) (i : Int) (hk : K (.bool (hasN xs.length i)) h) : ACalls prog 92 [t, .int .i64 i] h K := by
  obtain ⟨vN, h4, hl⟩ := R.ld
  refine s92_ok ?_
  unfold s92
  unfold hasN at hk
  by_cases h0 : 0 ≤ i
  · refine ifT_pos (decide_eq_true h0) ?_
    rw [hl, h4.len]
    exact retG_of (by simpa [h0] using hk)
  · exact ifT_neg (decide_eq_false h0) (retG_of (by simpa [h0] using hk))
theorem hasT_ok {t : AVal} {xs : List Nd} (R : DRd h t xs) (i : Int) (hk : K (.bool (hasN xs.length i)) h) : ACalls prog 24 [t, .int .i64 i] h K := by
  obtain ⟨vN, h4, hl⟩ := R.ld
  refine s24_ok ?_
  unfold s24
  unfold hasN at hk
  by_cases h0 : 0 ≤ i
  · refine ifT_pos (decide_eq_true h0) ?_
    rw [hl, h4.len]
    exact retG_of (by simpa [h0] using hk)
  · exact ifT_neg (decide_eq_false h0) (retG_of (by simpa [h0] using hk))
/-- where a node stands -/
theorem findT_l1 {t : AVal} {xs : List Nd} (R : DRd h t xs) (hx : xs.length ≤ 1048576) (y : Nd) (yes : ∀ i : Nat, ndIx y xs = some i → K (.tuple [.int .i64 i, .bool true]) h) (no : ndIx y xs = none → K (.tuple [.int .i64 0, .bool false]) h) :
    ∀ d i : Nat, i + d = xs.length → (∀ j x, j < i → xs[j]? = some x → ndB x y = false) → s119l1 K (d + 1) t (.lptr (nodeC y)) (i : Int) h
  | 0, i, hd, hi => by
    obtain ⟨vN, h4, hl⟩ := R.ld
    unfold s119l1
    rw [hl, h4.len]
    refine ifT_neg (by simp; omega) (retG_of (no ?_))
    unfold ndIx
    rw [List.findIdx?_eq_none_iff]
    intro x hx
    obtain ⟨j, hj, e⟩ := List.mem_iff_getElem.1 hx
    exact hi j x (by omega) (by rw [List.getElem?_eq_getElem hj, e])
  | d + 1, i, hd, hi => by
    have hil : i < xs.length := by omega
    obtain ⟨vN, h4, hl⟩ := R.ld
    unfold s119l1
    rw [hl, h4.len]
    refine ifT_pos (by simp; omega) ?_
    rw [hl]
    refine h4.ix (List.getElem?_eq_getElem hil) ?_
    rw [nodeC, tCons_cons, tInt_int, tCons_cons, tStr_str, tCons_cons, tInt_int, tCons_cons, tInt_int, tNil_nil]
    have e1 := ldN_node h y
    rw [e1]
    rw [nodeC, tCons_cons, tInt_int, tCons_cons, tStr_str, tCons_cons, tInt_int, tCons_cons, tInt_int, tNil_nil]
    refine eqNodeX (x := xs[i]) (y := y) ?_
    cases e : ndB xs[i] y with
    | true =>
      refine ifT_pos rfl (retG_of (yes i ?_))
      unfold ndIx
      rw [List.findIdx?_eq_some_iff_getElem]
      refine ⟨hil, e, fun j hj => ?_⟩
      have := hi j (xs[j]'(by omega)) hj (by rw [List.getElem?_eq_getElem])
      simp [this]
    | false =>
      refine ifT_neg rfl (rg_of (by omega) (by omega) (s119l1_go (findT_l1 R hx y yes no d (i + 1) (by omega) fun j x hj hx => ?_)))
      rcases Nat.lt_or_ge j i with h1 | h1
      · exact hi j x h1 hx
      · obtain rfl : j = i := by omega
        rw [List.getElem?_eq_getElem hil] at hx
        cases hx
        exact e
theorem findT_ok {t : AVal} {xs : List Nd} (R : DRd h t xs) (hx : xs.length ≤ 1048576) (y : Nd) (yes : ∀ i : Nat, ndIx y xs = some i → K (.tuple [.int .i64 i, .bool true]) h) (no : ndIx y xs = none → K (.tuple [.int .i64 0, .bool false]) h) :
    ACalls prog 119 [t, nodeV y] h K :=
  s119_ok (s119l1_in (xs.length + 1) (findT_l1 R hx y yes no xs.length 0 (by omega) fun j x hj => by omega))

theorem elems_rdN {v : AVal} {xs : List Nd} (R : RdN h v xs) : elemsA 4 h v = some (xs.map nodeV) := by
  rcases R with ⟨rfl, rfl⟩ | ⟨r, L, rfl, hr, hL⟩ | R
  · rfl
  · unfold elemsA
    simp only [Nat.beq_refl, hr, List.drop_zero]
    have hlen : xs.length ≤ L.length := by
      rcases Nat.lt_or_ge L.length xs.length with e | e
      · have h1 := hL L.length xs[L.length] (List.getElem?_eq_getElem e)
        simp at h1
      · exact e
    have e : L.take xs.length = xs.map nodeV := by
      apply List.ext_getElem?
      intro i
      rw [List.getElem?_take, List.getElem?_map]
      by_cases hi : i < xs.length
      · rw [if_pos hi, List.getElem?_eq_getElem hi]
        exact hL i _ (List.getElem?_eq_getElem hi)
      · rw [if_neg hi, List.getElem?_eq_none (by omega)]
        rfl
    simp [e, hlen]
  · exact elemsA_of R
theorem rd_grow {h h' : Heap} {v : AVal} {xs : List Nd} (g : Grow 4 h v (xs.map nodeV) h') : RdN h' v xs := by
  generalize e : xs.map nodeV = l at g
  cases g with
  | nil => exact .inl ⟨rfl, List.map_eq_nil_iff.1 e⟩
  | @own r _ hr =>
    subst e
    refine .inr (.inl ⟨r, xs.map nodeV, by rw [List.length_map], Heap.set_same _ _ _, fun i x hi => ?_⟩)
    rw [List.getElem?_map, hi]
    rfl
end Go.Proofs.YtljglglbfcgjpaaGreat

namespace Go.Proofs.YtljglglbfcgjpaaGreat
open Go Go.Sym Go.Proofs.Tryz

variable {K : AVal → Heap → Prop} {h h0 hb : Heap}

/-- the map from nodes to numbers -/
def ents : Nat → List Nd → List (AVal × AVal)
  | _, [] => []
  | s, x :: xs => (nodeV x, .int .i64 (s : Int)) :: ents (s + 1) xs
theorem ents_snoc (y : Nd) : ∀ (xs : List Nd) (s : Nat), ents s (xs ++ [y]) = ents s xs ++ [(nodeV y, .int .i64 ((s + xs.length : Nat) : Int))]
  | [], s => rfl
  | x :: xs, s => by
    simp only [List.cons_append, ents, ents_snoc y xs (s + 1), List.length_cons]
    rw [show s + 1 + xs.length = s + (xs.length + 1) by omega]
theorem keyEq_node (y x : Nd) : keyEq (nodeV y) (nodeV x) = some (ndB y x) := rfl
theorem findM_ents (y : Nd) : ∀ (xs : List Nd) (s p : Nat), findM (nodeV y) (ents s xs) p = some ((ndIx y xs).map fun i => (p + i, .int .i64 ((s + i : Nat) : Int)))
  | [], s, p => rfl
  | x :: xs, s, p => by
    unfold ents findM
    rw [keyEq_node, ndB_comm]
    unfold ndIx
    rw [List.findIdx?_cons]
    cases e : ndB x y with
    | true => simp
    | false =>
      simp only [Bool.false_eq_true, if_false]
      rw [findM_ents y xs (s + 1) (p + 1)]
      unfold ndIx
      cases List.findIdx? (fun x => ndB x y) xs with
      | none => rfl
      | some i =>
        simp only [Option.map_some]
        rw [show p + 1 + i = p + (i + 1) by omega, show s + 1 + i = s + (i + 1) by omega]
theorem putM_ents {y : Nd} {xs : List Nd} (hy : ndIx y xs = none) : putM (nodeV y) (.int .i64 (xs.length : Int)) (ents 0 xs) = some (ents 0 (xs ++ [y])) := by
  unfold putM
  rw [findM_ents, hy, ents_snoc]
  simp

/-- a program's table, and other things -/
def PP (hb : Heap) (rt : Nat) (xs : List Nd) (R : List Ow) (h : Heap) : Prop := ∃ vN q, Own hb ([.slc 4 vN (xs.map nodeV), .cell rt (.row 2 [.agg [vN, .mapr q]]), .cell q (.map (ents 0 xs))] ++ R) h
/-- a document's table, and other things -/
def DD (hb : Heap) (rd : Nat) (ys : List Nd) (R : List Ow) (h : Heap) : Prop := ∃ vM, Own hb ([.slc 4 vM (ys.map nodeV), .cell rd (.row 1 [.agg [vM]])] ++ R) h
theorem rd_own {os : List Ow} {i : Nat} {v : AVal} {xs : List Nd} (W : Own hb os h) (hi : os[i]? = some (.slc 4 v (xs.map nodeV))) : RdN h v xs := by
  rcases W.fit i _ hi with ⟨rfl, e⟩ | ⟨r, rfl⟩
  · exact .inl ⟨rfl, List.map_eq_nil_iff.1 e⟩
  · refine .inr (.inl ⟨r, xs.map nodeV, by rw [List.length_map], W.get i _ r hi rfl, fun j x hj => ?_⟩)
    rw [List.getElem?_map, hj]
    rfl
theorem PP.prd {rt : Nat} {xs : List Nd} {R : List Ow} (W : PP hb rt xs R h) : PRd h (.ptr rt 0 0) xs := by
  obtain ⟨vN, q, W⟩ := W
  exact ⟨rt, vN, q, _, rfl, W.get 1 _ rt rfl rfl, W.get 2 _ q rfl rfl, rd_own W (i := 0) rfl⟩
theorem DD.drd {rd : Nat} {ys : List Nd} {R : List Ow} (W : DD hb rd ys R h) : DRd h (.ptr rd 0 0) ys := by
  obtain ⟨vM, W⟩ := W
  exact ⟨rd, vM, rfl, W.get 1 _ rd rfl rfl, rd_own W (i := 0) rfl⟩
theorem Own.rot {A B R : List Ow} (W : Own hb (A ++ (B ++ R)) h) : Own hb (B ++ (A ++ R)) h := by
  refine W.renum _ (fun j => if j < B.length then A.length + j else if j < A.length + B.length then j - B.length else j) (fun j y hj => ?_) (fun j hj k hk e => ?_)
  · by_cases h1 : j < B.length
    · rw [if_pos h1]
      rw [List.getElem?_append_left h1] at hj
      rw [List.getElem?_append_right (by omega), Nat.add_sub_cancel_left, List.getElem?_append_left h1]
      exact hj
    · rw [if_neg h1]
      rw [List.getElem?_append_right (by omega)] at hj
      by_cases h2 : j < A.length + B.length
      · rw [if_pos h2]
        rw [List.getElem?_append_left (by omega)] at hj
        rw [List.getElem?_append_left (by omega)]
        exact hj
      · rw [if_neg h2]
        rw [List.getElem?_append_right (by omega)] at hj
        rw [List.getElem?_append_right (by omega), List.getElem?_append_right (by omega)]
        rw [show j - A.length - B.length = j - B.length - A.length by omega]
        exact hj
  · split at e <;> split at e <;> (try split at e) <;> (try split at e) <;> omega

/-- may a node be put behind n others? -/
def fitE (n : Nat) (y : Nd) : Int :=
  if y.k = 1 then (if y.l = 0 ∧ y.r = 0 then (if wordB y.s = true then 0 else 32) else 31)
  else if y.k = 2 then (if ndB y ⟨2, ByteArray.mk #[], 0, 0⟩ = true then 0 else 31)
  else if y.k = 3 ∨ y.k = 4 ∨ y.k = 5 then (if strEq y.s (ByteArray.mk #[]) = true ∧ hasN n y.l = true ∧ hasN n y.r = true then 0 else 31)
  else 31
def putE (xs : List Nd) (y : Nd) : Int := if fitE xs.length y ≠ 0 then fitE xs.length y else match ndIx y xs with
  | some _ => 0
  | none => if 1024 ≤ xs.length then 30 else 0
def putI (xs : List Nd) (y : Nd) : Int := if fitE xs.length y ≠ 0 then 0 else match ndIx y xs with
  | some i => (i : Int)
  | none => if 1024 ≤ xs.length then 0 else (xs.length : Int)
def putR (xs : List Nd) (y : Nd) : List Nd := if fitE xs.length y ≠ 0 then xs else match ndIx y xs with
  | some _ => xs
  | none => if 1024 ≤ xs.length then xs else xs ++ [y]
theorem putR_len {xs : List Nd} (h : xs.length ≤ 1024) (y : Nd) : (putR xs y).length ≤ 1024 := by
  unfold putR
  split
  · exact h
  · split
    · exact h
    · split
      · exact h
      · simp; omega


theorem DD.app {rd : Nat} {ys : List Nd} {R : List Ow} {vM : AVal} (W : Own hb ([.slc 4 vM (ys.map nodeV), .cell rd (.row 1 [.agg [vM]])] ++ R) h) (hl : ys.length < 1048576) {y : Nd} {K : AVal → Heap → Prop}
    (hk : ∀ v' h', Own hb ([.slc 4 v' ((ys ++ [y]).map nodeV), .cell rd (.row 1 [.agg [vM]])] ++ R) h' → K v' h') : appC 4 40 h vM (.lsl 4 [nodeV y]) K := by
  refine W.app (i := 0) rfl (by simp; omega) (by simp; omega) fun v' h' W2 => hk v' h' ?_
  rw [List.map_append]
  exact W2
theorem putT_c1 {rd : Nat} {ys : List Nd} {R : List Ow} (W : DD hb rd ys R h) (hx : ys.length ≤ 1024) {y : Nd} (hf : fitE ys.length y = 0)
    (hk : ∀ h', DD hb rd (putR ys y) R h' → K (.tuple [.int .i64 (putI ys y), .int .i64 (putE ys y)]) h') : s88c1 K (.ptr rd 0 0) (.lptr (nodeC y)) h := by
  have hp : ¬ fitE ys.length y ≠ 0 := fun h => h hf
  unfold putR putI putE at hk
  rw [if_neg hp, if_neg hp, if_neg hp] at hk
  unfold s88c1
  rw [ldN_node, nodeC, tCons_cons, tInt_int, tCons_cons, tStr_str, tCons_cons, tInt_int, tCons_cons, tInt_int, tNil_nil]
  refine callG_of (findT_ok W.drd (by omega) y (fun i hi => ?_) (fun hi => ?_))
  · rw [hi] at hk
    rw [tTup_tuple, tCons_cons, tInt_int, tCons_cons, tBool_bool, tNil_nil]
    exact ifT_pos rfl (retG_of (hk h W))
  · rw [hi] at hk
    simp only at hk
    rw [tTup_tuple, tCons_cons, tInt_int, tCons_cons, tBool_bool, tNil_nil]
    refine ifT_neg rfl ?_
    obtain ⟨vM, O⟩ := W
    have rc := O.get 1 _ rd rfl rfl
    rw [nilCheck_ptr, addOff_ptr, ld1_fld rc rfl, O.len (i := 0) rfl, List.length_map]
    by_cases hl : ys.length < 1024
    · rw [if_neg (by omega), if_neg (by omega), if_neg (by omega)] at hk
      refine ifT_neg (decide_eq_false (by omega)) ?_
      rw [nilCheck_ptr, addOff_ptr, ld1_fld rc rfl]
      have e0 := ldN_node h y
      rw [nodeC] at e0
      rw [e0, tCons_cons, tInt_int, tCons_cons, tStr_str, tCons_cons, tInt_int, tCons_cons, tInt_int, tNil_nil]
      refine ⟨by rw [ld1_fld rc rfl], DD.app (y := y) O (by omega) fun v' h' W2 => ?_⟩
      rw [nilCheck_ptr, addOff_ptr]
      refine chk_iff.2 ⟨(W2.sc (i := 0) rfl).1, st_fld (W2.get 1 _ rd rfl rfl) (by simp) ?_⟩
      have W3 := W2.put (i := 1) rfl (.row 1 [.agg [v']])
      rw [nilCheck_ptr, addOff_ptr]
      have r3 := W3.get 1 _ rd rfl rfl
      refine Eq.mpr (ld1_fld r3 rfl _) ?_
      rw [W3.len (i := 0) rfl]
      simp only [List.length_map, List.length_append, List.length_singleton]
      refine rg_of (by omega) (by omega) (retG_of ?_)
      rw [show ((ys.length + 1 : Nat) : Int) - 1 = (ys.length : Int) by omega]
      exact hk _ ⟨v', W3⟩
    · rw [if_pos (by omega), if_pos (by omega), if_pos (by omega)] at hk
      exact ifT_pos (decide_eq_true (by omega)) (retG_of (hk h ⟨vM, O⟩))

theorem hasN_iff {n : Nat} {i : Int} : hasN n i = true ↔ 0 ≤ i ∧ i < n := by unfold hasN; simp
theorem putT_ok {rd : Nat} {ys : List Nd} {R : List Ow} (W : DD hb rd ys R h) (hx : ys.length ≤ 1024) (y : Nd)
    (hk : ∀ h', DD hb rd (putR ys y) R h' → K (.tuple [.int .i64 (putI ys y), .int .i64 (putE ys y)]) h') : ACalls prog 88 [.ptr rd 0 0, nodeV y] h K := by
  have bad : ∀ e : Int, e ≠ 0 → fitE ys.length y = e → retG (.tuple [.int .i64 0, .int .i64 e]) h K := fun e he hf => by
    have hp : fitE ys.length y ≠ 0 := by rw [hf]; exact he
    unfold putR putI putE at hk
    rw [if_pos hp, if_pos hp, if_pos hp, hf] at hk
    exact retG_of (hk h W)
  have good : fitE ys.length y = 0 → s88c1 K (.ptr rd 0 0) (.lptr (nodeC y)) h := fun hf => putT_c1 W hx hf hk
  clear hk
  obtain ⟨k, s, l, r⟩ := y
  refine s88_ok ?_
  unfold s88
  unfold fitE at bad good
  by_cases k1 : k = 1
  · subst k1
    simp only [if_true] at bad good
    have c2 : ∀ t : Bool, (t = true ↔ ¬ (l = 0 ∧ r = 0)) → s88c2 K (.ptr rd 0 0) (.lptr (nodeC ⟨1, s, l, r⟩)) t h := by
      intro t ht
      cases t with
      | true => exact ifT_pos rfl (bad 31 (by decide) (by rw [if_neg (ht.1 rfl)]))
      | false =>
        have hlr : l = 0 ∧ r = 0 := Decidable.not_not.1 fun h => by have := ht.2 h; cases this
        rw [if_pos hlr] at bad good
        refine ifT_neg rfl ?_
        simp only [nodeC, addOff_lptr, List.drop_succ_cons, List.drop_zero, ld1_lptr, tStr_str]
        refine callG_of (word3_ok _ ?_)
        rw [tBool_bool]
        cases hw : wordB s with
        | false => exact ifT_pos rfl (bad 32 (by decide) (by rw [hw, if_neg (by decide)]))
        | true => exact ifT_neg rfl (good (by rw [hw, if_pos rfl]))
    refine ifT_pos rfl ?_
    by_cases hl : l = 0
    · exact ifT_neg (by simp [hl]) (c2 _ (by simp [hl]))
    · exact ifT_pos (by simpa using hl) (c2 _ (by simp [hl]))
  · refine ifT_neg (by simpa using k1) ?_
    simp only [k1, if_false] at bad good
    by_cases k2 : k = 2
    · subst k2
      simp only [if_true] at bad good
      have c3 : ∀ t : Bool, (t = true ↔ ¬ (ndB ⟨2, s, l, r⟩ ⟨2, ByteArray.mk #[], 0, 0⟩ = true)) → s88c3 K (.ptr rd 0 0) (.lptr (nodeC ⟨2, s, l, r⟩)) t h := by
        intro t ht
        cases t with
        | true => exact ifT_pos rfl (bad 31 (by decide) (by rw [if_neg (ht.1 rfl)]))
        | false =>
          have hlr := Decidable.not_not.1 fun h => by have := ht.2 h; cases this
          exact ifT_neg rfl (good (by rw [if_pos hlr]))
      refine ifT_pos rfl ?_
      unfold ndB at c3
      cases hs : strEq s (ByteArray.mk #[]) with
      | false => exact ifT_pos rfl (c3 _ (by simp [hs]))
      | true =>
        refine ifT_neg rfl ?_
        by_cases hl : l = 0
        · exact ifT_neg (by simp [hl]) (c3 _ (by simp [hs, hl]))
        · exact ifT_pos (by simpa using hl) (c3 _ (by simp [hl]))
    · refine ifT_neg (by simpa using k2) ?_
      simp only [k2, if_false] at bad good
      have c5 : (k = 3 ∨ k = 4 ∨ k = 5) → ∀ t : Bool, (t = true ↔ ¬ (strEq s (ByteArray.mk #[]) = true ∧ hasN ys.length l = true ∧ hasN ys.length r = true)) → s88c5 K (.ptr rd 0 0) (.lptr (nodeC ⟨k, s, l, r⟩)) t h := by
        intro hk3 t ht
        rw [if_pos hk3] at bad good
        cases t with
        | true => exact ifT_pos rfl (bad 31 (by decide) (by rw [if_neg (ht.1 rfl)]))
        | false =>
          have hlr := Decidable.not_not.1 fun h => by have := ht.2 h; cases this
          exact ifT_neg rfl (good (by rw [if_pos hlr]))
      have c4 : (k = 3 ∨ k = 4 ∨ k = 5) → s88c4 K (.ptr rd 0 0) (.lptr (nodeC ⟨k, s, l, r⟩)) true h := by
        intro hk3
        have c5 := c5 hk3
        refine ifT_pos rfl ?_
        simp only [nodeC, addOff_lptr, List.drop_succ_cons, List.drop_zero, ld1_lptr, tStr_str, tInt_int]
        cases hs : strEq s (ByteArray.mk #[]) with
        | false => exact ifT_pos rfl (c5 true (by simp [hs]))
        | true =>
          refine ifT_neg rfl (callG_of (hasT_ok W.drd l ?_))
          rw [tBool_bool]
          cases hl : hasN ys.length l with
          | false => exact ifT_pos rfl (c5 true (by simp [hl]))
          | true =>
            refine ifT_neg rfl (callG_of (hasT_ok W.drd r ?_))
            rw [tBool_bool]
            exact c5 _ (by simp [hs, hl])
      by_cases k3 : k = 3
      · refine ifT_pos (by simpa using k3) ?_
        rw [show (k == 3) = true by simpa using k3]
        exact c4 (.inl k3)
      · refine ifT_neg (by simpa using k3) ?_
        by_cases k4 : k = 4
        · refine ifT_pos (by simpa using k4) ?_
          rw [show (k == 4) = true by simpa using k4]
          exact c4 (.inr (.inl k4))
        · refine ifT_neg (by simpa using k4) ?_
          by_cases k5 : k = 5
          · rw [show (k == 5) = true by simpa using k5]
            exact c4 (.inr (.inr k5))
          · rw [show (k == 5) = false by simpa using k5]
            exact ifT_neg rfl (bad 31 (by decide) (by rw [if_neg (by omega)]))

theorem fitsP_ok {t : AVal} {xs : List Nd} (P : PRd h t xs) (y : Nd) (hs : y.s.size ≤ 1073741824) (hk : K (.int .i64 (fitE xs.length y)) h) : ACalls prog 120 [t, nodeV y] h K := by
  obtain ⟨k, s, l, r⟩ := y
  refine s120_ok ?_
  unfold s120
  unfold fitE at hk
  have c1 : K (.int .i64 0) h → s120c1 K h := fun hk => retG_of hk
  by_cases k1 : k = 1
  · subst k1
    simp only [if_true] at hk
    have c2 : ∀ t : Bool, (t = true ↔ ¬ (l = 0 ∧ r = 0)) → s120c2 K (.lptr (nodeC ⟨1, s, l, r⟩)) t h := by
      intro t ht
      cases t with
      | true => exact ifT_pos rfl (retG_of (by rwa [if_neg (ht.1 rfl)] at hk))
      | false =>
        have hlr : l = 0 ∧ r = 0 := Decidable.not_not.1 fun h => by have := ht.2 h; cases this
        rw [if_pos hlr] at hk
        refine ifT_neg rfl ?_
        simp only [nodeC, addOff_lptr, List.drop_succ_cons, List.drop_zero, ld1_lptr, tStr_str]
        refine callG_of (word_ok _ hs ?_)
        rw [tBool_bool]
        cases hw : wordB s with
        | false => exact ifT_pos rfl (retG_of (by rwa [hw, if_neg (by decide)] at hk))
        | true => exact ifT_neg rfl (c1 (by rwa [hw, if_pos rfl] at hk))
    refine ifT_pos rfl ?_
    by_cases hl : l = 0
    · exact ifT_neg (by simp [hl]) (c2 _ (by simp [hl]))
    · exact ifT_pos (by simpa using hl) (c2 _ (by simp [hl]))
  · refine ifT_neg (by simpa using k1) ?_
    simp only [k1, if_false] at hk
    by_cases k2 : k = 2
    · subst k2
      simp only [if_true] at hk
      refine ifT_pos rfl (eqNodeX (x := ⟨2, s, l, r⟩) (y := ⟨2, ByteArray.mk #[], 0, 0⟩) ?_)
      cases e : ndB ⟨2, s, l, r⟩ ⟨2, ByteArray.mk #[], 0, 0⟩ with
      | true => exact ifT_neg rfl (c1 (by rwa [e, if_pos rfl] at hk))
      | false => exact ifT_pos rfl (retG_of (by rwa [e, if_neg (by decide)] at hk))
    · refine ifT_neg (by simpa using k2) ?_
      simp only [k2, if_false] at hk
      have c4 : (k = 3 ∨ k = 4 ∨ k = 5) → ∀ b : Bool, (b = true ↔ ¬ (strEq s (ByteArray.mk #[]) = true ∧ hasN xs.length l = true ∧ hasN xs.length r = true)) → s120c4 K b h := by
        intro hk3 b hb
        rw [if_pos hk3] at hk
        cases b with
        | true => exact ifT_pos rfl (retG_of (by rwa [if_neg (hb.1 rfl)] at hk))
        | false =>
          have hlr := Decidable.not_not.1 fun h => by have := hb.2 h; cases this
          exact ifT_neg rfl (c1 (by rwa [if_pos hlr] at hk))
      have c3 : (k = 3 ∨ k = 4 ∨ k = 5) → s120c3 K t (.lptr (nodeC ⟨k, s, l, r⟩)) true h := by
        intro hk3
        have c4 := c4 hk3
        refine ifT_pos rfl ?_
        simp only [nodeC, addOff_lptr, List.drop_succ_cons, List.drop_zero, ld1_lptr, tStr_str, tInt_int]
        cases hs : strEq s (ByteArray.mk #[]) with
        | false => exact ifT_pos rfl (c4 true (by simp [hs]))
        | true =>
          refine ifT_neg rfl (callG_of (hasP_ok P l ?_))
          rw [tBool_bool]
          cases hl : hasN xs.length l with
          | false => exact ifT_pos rfl (c4 true (by simp [hl]))
          | true =>
            refine ifT_neg rfl (callG_of (hasP_ok P r ?_))
            rw [tBool_bool]
            exact c4 _ (by simp [hs, hl])
      by_cases k3 : k = 3
      · refine ifT_pos (by simpa using k3) ?_
        rw [show (k == 3) = true by simpa using k3]
        exact c3 (.inl k3)
      · refine ifT_neg (by simpa using k3) ?_
        by_cases k4 : k = 4
        · refine ifT_pos (by simpa using k4) ?_
          rw [show (k == 4) = true by simpa using k4]
          exact c3 (.inr (.inl k4))
        · refine ifT_neg (by simpa using k4) ?_
          by_cases k5 : k = 5
          · rw [show (k == 5) = true by simpa using k5]
            exact c3 (.inr (.inr k5))
          · rw [show (k == 5) = false by simpa using k5]
            exact ifT_neg rfl (retG_of (by rwa [if_neg (by omega)] at hk))

theorem mapGet_ents {h : Heap} {q : Nat} {xs : List Nd} (hq : h q = some (.map (ents 0 xs))) (y : Nd) (K : AVal → Bool → Prop) :
    mapGet (.int .i64 0) h (.mapr q) (nodeV y) K = match ndIx y xs with
      | some i => K (.int .i64 (i : Int)) true
      | none => K (.int .i64 0) false := by
  unfold mapGet mapGetR entsA
  simp only [hq, findM_ents]
  cases ndIx y xs with
  | none => rfl
  | some i => simp
theorem mapPut_map {h : Heap} {q : Nat} {l l' : List (AVal × AVal)} {k v : AVal} (hq : h q = some (.map l)) (hl : putM k v l = some l') (K : Heap → Prop) : mapPut h (.mapr q) k v K = K (h.set q (.map l')) := by
  unfold mapPut mapPutR
  simp only [hq, hl]
theorem putP_ok {rt : Nat} {xs : List Nd} {R : List Ow} (W : PP hb rt xs R h) (hx : xs.length ≤ 1024) (y : Nd) (hs : y.s.size ≤ 1073741824)
    (hk : ∀ h', PP hb rt (putR xs y) R h' → K (.tuple [.int .i64 (putI xs y), .int .i64 (putE xs y)]) h') : ACalls prog 90 [.ptr rt 0 0, nodeV y] h K := by
  obtain ⟨k, s, l, r⟩ := y
  refine s90_ok ?_
  unfold s90
  refine callG_of (aliveP_ok W.prd ?_)
  rw [tBool_bool]
  refine ifT_neg rfl (callG_of (fitsP_ok W.prd ⟨k, s, l, r⟩ hs ?_))
  rw [tInt_int]
  unfold putR putI putE at hk
  by_cases hf : fitE xs.length ⟨k, s, l, r⟩ = 0
  · have hp : ¬ fitE xs.length ⟨k, s, l, r⟩ ≠ 0 := fun h => h hf
    rw [if_neg hp, if_neg hp, if_neg hp] at hk
    refine ifT_neg (by simpa using hf) ?_
    obtain ⟨vN, q, O⟩ := W
    have rc := O.get 1 _ rt rfl rfl
    have rq := O.get 2 _ q rfl rfl
    rw [nilCheck_ptr, addOff_ptr, ld1_fld rc rfl]
    refine Eq.mpr (mapGet_ents rq ⟨k, s, l, r⟩ _) ?_
    cases hi : ndIx ⟨k, s, l, r⟩ xs with
    | some i =>
      rw [hi] at hk
      simp only
      rw [tInt_int]
      exact ifT_pos rfl (retG_of (hk h ⟨vN, q, O⟩))
    | none =>
      rw [hi] at hk
      simp only at hk ⊢
      rw [tInt_int]
      refine ifT_neg rfl ?_
      rw [nilCheck_ptr, addOff_ptr, ld1_fld rc rfl, O.len (i := 0) rfl, List.length_map]
      by_cases hl : xs.length < 1024
      · rw [if_neg (by omega), if_neg (by omega), if_neg (by omega)] at hk
        refine ifT_neg (decide_eq_false (by omega)) ?_
        rw [nilCheck_ptr, addOff_ptr, ld1_fld rc rfl]
        refine ⟨by rw [ld1_fld rc rfl], O.app (i := 0) rfl (by simp; omega) (by simp; omega) fun v' h' W2 => ?_⟩
        rw [nilCheck_ptr, addOff_ptr]
        refine chk_iff.2 ⟨(W2.sc (i := 0) rfl).1, st_fld (W2.get 1 _ rt rfl rfl) (by simp) ?_⟩
        have W3 := W2.put (i := 1) rfl (.row 2 [.agg [v', .mapr q]])
        have r3 := W3.get 1 _ rt rfl rfl
        rw [nilCheck_ptr, addOff_ptr]
        refine Eq.mpr (ld1_fld r3 rfl _) ?_
        have q3 := W3.get 2 _ q rfl rfl
        have hput := putM_ents hi
        refine Eq.mpr (mapPut_map q3 hput _) ?_
        refine retG_of (hk _ ⟨v', q, ?_⟩)
        have W4 := W3.put (i := 2) rfl (.map (ents 0 (xs ++ [⟨k, s, l, r⟩])))
        rw [List.map_append]
        exact W4
      · rw [if_pos (by omega), if_pos (by omega), if_pos (by omega)] at hk
        exact ifT_pos (decide_eq_true (by omega)) (retG_of (hk h ⟨vN, q, O⟩))
  · rw [if_pos hf, if_pos hf, if_pos hf] at hk
    exact ifT_pos (by simpa using hf) (retG_of (hk h W))
end Go.Proofs.YtljglglbfcgjpaaGreat

namespace Go.Proofs.YtljglglbfcgjpaaGreat
open Go Go.Sym Go.Proofs.Tryz

variable {K : AVal → Heap → Prop} {h h0 hb : Heap}

theorem size0 : (ByteArray.mk #[]).size ≤ 1073741824 := by decide
def okTab (xs : List Nd) : Prop := ∀ (i : Nat) (x : Nd), xs[i]? = some x → putE (xs.take i) x = 0 ∧ putI (xs.take i) x = (i : Int)
theorem put_next {xs : List Nd} {y : Nd} (he : putE xs y = 0) (hi : putI xs y = (xs.length : Int)) : putR xs y = xs ++ [y] ∧ xs.length < 1024 := by
  unfold putE at he
  unfold putI at hi
  unfold putR
  by_cases hf : fitE xs.length y ≠ 0
  · rw [if_pos hf] at he
    exact absurd he hf
  · rw [if_neg hf] at he hi ⊢
    cases h : ndIx y xs with
    | some i =>
      rw [h] at hi
      simp only at hi
      have := (List.getElem?_eq_some_iff.1 (ndIx_some h)).1
      omega
    | none =>
      rw [h] at he hi
      simp only at he hi ⊢
      by_cases hl : 1024 ≤ xs.length
      · rw [if_pos hl] at he
        cases he
      · rw [if_neg hl]
        exact ⟨rfl, by omega⟩
theorem fromT_l1 {rd : Nat} {v : AVal} {xs : List Nd} (hv : Nodes v xs) (hxs : xs.length ≤ 1048576) (bad : ¬ okTab xs → ∀ e : Int, e ≠ 0 → K (.tuple [.nilptr, .int .i64 e]) h0) (good : okTab xs → xs.length ≤ 1024 → ∀ h', DD h0 rd xs [] h' → K (.tuple [.ptr rd 0 0, .int .i64 0]) h') :
    ∀ d i : Nat, i + d = xs.length → i ≤ 1024 → (∀ (j : Nat) (x : Nd), j < i → xs[j]? = some x → putE (xs.take j) x = 0 ∧ putI (xs.take j) x = (j : Int)) → ∀ h, DD h0 rd (xs.take i) [] h → s46l1 K (d + 1) v (.ptr rd 0 0) (i : Int) h
  | 0, i, hd, hi, hok, h, W => by
    unfold s46l1
    rw [hv.len]
    refine ifT_neg (by simp; omega) (retG_of ?_)
    rw [List.take_of_length_le (by omega)] at W
    refine good (fun j x hj => hok j x ?_ hj) (by omega) h W
    have := (List.getElem?_eq_some_iff.1 hj).1
    omega
  | d + 1, i, hd, hi, hok, h, W => by
    have hil : i < xs.length := by omega
    have htl : (xs.take i).length = i := by rw [List.length_take]; omega
    unfold s46l1
    rw [hv.len]
    refine ifT_pos (by simp; omega) ?_
    rw [hv.ix hil, ldN_node, nodeC, tCons_cons, tInt_int, tCons_cons, tStr_str, tCons_cons, tInt_int, tCons_cons, tInt_int, tNil_nil]
    have drop : ∀ h', DD h0 rd (putR (xs.take i) xs[i]) [] h' → ∀ q o, h0 q = some o → h' q = some o := fun h' ⟨_, O⟩ => O.old
    refine callG_of (putT_ok W (by omega) xs[i] fun h' W2 => ?_)
    rw [tTup_tuple, tCons_cons, tInt_int, tCons_cons, tInt_int, tNil_nil]
    by_cases he : putE (xs.take i) xs[i] = 0
    · refine ifT_neg (by simpa using he) ?_
      by_cases hI : putI (xs.take i) xs[i] = (i : Int)
      · refine ifT_neg (by simpa using hI) (rg_of (by omega) (by omega) (s46l1_go ?_))
        obtain ⟨e1, e2⟩ := put_next he (by rw [htl]; exact hI)
        rw [e1, ← List.take_succ_eq_append_getElem hil] at W2
        rw [htl] at e2
        refine fromT_l1 hv hxs bad good d (i + 1) (by omega) (by omega) (fun j x hj hx => ?_) h' W2
        rcases Nat.lt_or_ge j i with h1 | h1
        · exact hok j x h1 hx
        · obtain rfl : j = i := by omega
          rw [List.getElem?_eq_getElem hil] at hx
          cases hx
          exact ⟨he, hI⟩
      · refine ifT_pos (by simpa using hI) (retG_drop (drop h' W2) (bad (fun ok => hI (ok i _ (List.getElem?_eq_getElem hil)).2) 31 (by decide)))
    · exact ifT_pos (by simpa using he) (retG_drop (drop h' W2) (bad (fun ok => he (ok i _ (List.getElem?_eq_getElem hil)).1) _ he))
theorem fromT_ok {v : AVal} {xs : List Nd} (hv : Nodes v xs) (hxs : xs.length ≤ 1048576) (bad : ¬ okTab xs → ∀ e : Int, e ≠ 0 → K (.tuple [.nilptr, .int .i64 e]) h0) (good : okTab xs → xs.length ≤ 1024 → ∀ rd h', DD h0 rd xs [] h' → K (.tuple [.ptr rd 0 0, .int .i64 0]) h') :
    ACalls prog 46 [v] h0 K := by
  refine s46_ok (newRow_in fun rd hrd => s46l1_in (xs.length + 1) (fromT_l1 hv hxs bad (fun ok hl h' W => good ok hl rd h' W) xs.length 0 (by omega) (by omega) (fun j x hj => by omega) _ ⟨.nilsl, ?_⟩))
  exact ((Own.start h0).newN 4).newC hrd (.row 1 [.agg [.nilsl]])

theorem Own.swap13 {a b c : Ow} {R : List Ow} (W : Own hb ([a, b, c] ++ R) h) : Own hb ([c, b, a] ++ R) h := by
  refine W.renum _ (fun j => if j = 0 then 2 else if j = 2 then 0 else j) (fun j y hj => ?_) (fun j _ k _ e => ?_)
  · match j, hj with
    | 0, hj => exact hj
    | 1, hj => exact hj
    | 2, hj => exact hj
    | j + 3, hj => exact hj
  · split at e <;> split at e <;> (try split at e) <;> (try split at e) <;> omega
theorem newP_ok {R : List Ow} (W : Own hb R h) (hk : ∀ rt h', PP hb rt [] R h' → K (.ptr rt 0 0) h') : ACalls prog 89 [] h K := by
  refine s89_ok ?_
  unfold s89
  intro q hq _
  refine newRow_in fun rt hrt => retG_of (hk rt _ ⟨.nilsl, q, ?_⟩)
  have W1 := ((W.newC hq (.map [])).newC hrt (.row 2 [.agg [.nilsl, .mapr q]])).newN 4
  rw [List.append_assoc, List.append_assoc] at W1
  have W2 := Own.rot (A := R) (B := [.cell q (.map [])] ++ ([.cell rt (.row 2 [.agg [.nilsl, .mapr q]])] ++ [.slc 4 .nilsl []])) (R := []) (by rw [List.append_nil]; exact W1)
  rw [List.append_nil] at W2
  exact Own.swap13 W2
theorem Own.skip {os : List Ow} (W : Own hb os h) {r : Nat} (hr : h r = none) (o : AObj) : Own hb os (h.set r o) := (W.newC hr o).pop
theorem PP.skip {rt : Nat} {xs : List Nd} {R : List Ow} (W : PP hb rt xs R h) {r : Nat} (hr : h r = none) (o : AObj) : PP hb rt xs R (h.set r o) := by
  obtain ⟨vN, q, O⟩ := W
  exact ⟨vN, q, Own.skip O hr o⟩
theorem st4 {H : Heap} {r : Nat} {cs ds : List AVal} (hr : H r = some (.row 4 [.agg cs])) (hc : cs.length = 4) (hd : ds.length = 4) {X : Heap → Prop} (hx : X (H.set r (.row 4 [.agg ds]))) : st false H (.ptr r 0 0) ds X := st_all hr (by omega) hx

theorem fromP_l1 {rt : Nat} {R : List Ow} {v : AVal} {xs : List Nd} (hv : Nodes v xs) (ok : okTab xs) (hl : xs.length ≤ 1024) (hs : ∀ x ∈ xs, x.s.size ≤ 1073741824) (good : ∀ h', PP hb rt xs R h' → K (.tuple [.ptr rt 0 0, .int .i64 0]) h') :
    ∀ d i : Nat, i + d = xs.length → ∀ h, PP hb rt (xs.take i) R h → s47l1 K (d + 1) (.ptr rt 0 0) v (xs.length : Int) (i : Int) h
  | 0, i, hd, h, W => by
    unfold s47l1
    refine ifT_neg (by simp; omega) (retG_of ?_)
    rw [List.take_of_length_le (by omega)] at W
    exact good h W
  | d + 1, i, hd, h, W => by
    have hil : i < xs.length := by omega
    have htl : (xs.take i).length = i := by rw [List.length_take]; omega
    unfold s47l1
    refine ifT_pos (by simp; omega) ?_
    rw [hv.ix hil, ldN_node, nodeC, tCons_cons, tInt_int, tCons_cons, tStr_str, tCons_cons, tInt_int, tCons_cons, tInt_int, tNil_nil]
    refine newRow_in fun r hr => st4 (Heap.set_same _ _ _) rfl rfl ?_
    rw [Heap.set_set, ldN_elem (n := 4) (i := 0) (cs := nodeC xs[i]) (Heap.set_same _ _ _) rfl rfl]
    rw [nodeC, tCons_cons, tInt_int, tCons_cons, tStr_str, tCons_cons, tInt_int, tCons_cons, tInt_int, tNil_nil]
    refine callG_of (putP_ok (W.skip hr _) (by omega) xs[i] (hs _ (List.getElem_mem hil)) fun h' W2 => ?_)
    rw [tTup_tuple, tCons_cons, tInt_int, tCons_cons, tInt_int, tNil_nil]
    obtain ⟨he, hI⟩ := ok i _ (List.getElem?_eq_getElem hil)
    obtain ⟨e1, e2⟩ := put_next he (by rw [htl]; exact hI)
    rw [e1, ← List.take_succ_eq_append_getElem hil] at W2
    rw [he, hI]
    refine ifT_pos rfl ?_
    unfold s47c3
    refine ifT_neg (by simp) ?_
    unfold s47c2
    refine ifT_neg rfl (rg_of (by omega) (by omega) (s47l1_go ?_))
    exact fromP_l1 hv ok hl hs good d (i + 1) (by omega) h' W2
theorem fromP_ok {R : List Ow} (W : Own hb R h) {v : AVal} {xs : List Nd} (hv : Nodes v xs) (ok : okTab xs) (hl : xs.length ≤ 1024) (hs : ∀ x ∈ xs, x.s.size ≤ 1073741824) (good : ∀ rt h', PP hb rt xs R h' → K (.tuple [.ptr rt 0 0, .int .i64 0]) h') :
    ACalls prog 47 [v] h K := by
  refine s47_ok ?_
  unfold s47
  refine callG_of (newP_ok W fun rt h' W' => ?_)
  rw [hv.len]
  exact s47l1_in (xs.length + 1) (fromP_l1 hv ok hl hs (good rt) xs.length 0 (by omega) h' (by simpa using W'))

/-- both tables -/
def TT (hb : Heap) (rt rd : Nat) (xs ys : List Nd) (R : List Ow) (h : Heap) : Prop := ∃ vM, PP hb rt xs ([.slc 4 vM (ys.map nodeV), .cell rd (.row 1 [.agg [vM]])] ++ R) h
theorem both_ok {v : AVal} {xs : List Nd} (hv : Nodes v xs) (hxs : xs.length ≤ 1048576) (hs : ∀ x ∈ xs, x.s.size ≤ 1073741824) (bad : ¬ okTab xs → K (.tuple [.nilptr, .nilptr, .bool false]) h0)
    (good : okTab xs → xs.length ≤ 1024 → ∀ rt rd h', TT h0 rt rd xs xs [] h' → K (.tuple [.ptr rt 0 0, .ptr rd 0 0, .bool true]) h') : ACalls prog 20 [v] h0 K := by
  refine s20_ok ?_
  unfold s20
  refine newRow_in fun r hr => appC_copy hr (elemsA_of hv) (by simp; omega) (by simp; omega) fun v' h' g => ?_
  obtain ⟨S, w, hl, hsl, gs⟩ := g.freeze
  refine ⟨S, w, h0, hl, gs, callG_of (fromT_ok hv hxs (fun nok e he => ?_) (fun ok hlen rd h2 W => ?_))⟩
  · rw [tTup_tuple, tCons_cons, tCons_cons, tInt_int, tNil_nil]
    exact ifT_pos (by simpa using he) (retG_of (bad nok))
  · rw [tTup_tuple, tCons_cons, tCons_cons, tInt_int, tNil_nil]
    obtain ⟨vM, O⟩ := W
    refine ifT_neg rfl (callG_of (fromP_ok O hsl ok hlen hs fun rt h3 W3 => ?_))
    rw [tTup_tuple, tCons_cons, tCons_cons, tInt_int, tNil_nil]
    exact retG_of (good ok hlen rt rd h3 ⟨vM, W3⟩)
theorem okTab_nil : okTab [] := fun i x hx => by simp at hx
theorem TT.reads {rt rd : Nat} {xs ys : List Nd} {R : List Ow} (W : TT hb rt rd xs ys R h) : PRd h (.ptr rt 0 0) xs ∧ DRd h (.ptr rd 0 0) ys := by
  obtain ⟨vM, W⟩ := W
  refine ⟨W.prd, ?_⟩
  obtain ⟨vN, q, O⟩ := W
  have O2 := Own.rot (A := [.slc 4 vN (xs.map nodeV), .cell rt (.row 2 [.agg [vN, .mapr q]]), .cell q (.map (ents 0 xs))]) (B := [.slc 4 vM (ys.map nodeV), .cell rd (.row 1 [.agg [vM]])]) O
  exact DD.drd ⟨vM, O2⟩
end Go.Proofs.YtljglglbfcgjpaaGreat

namespace Go.Proofs.YtljglglbfcgjpaaGreat
open Go Go.Sym Go.Proofs.Tryz

variable {K : AVal → Heap → Prop} {h h0 hb : Heap}

def ndZ : Nd := ⟨0, ByteArray.mk #[], 0, 0⟩
theorem Own.ext {h' : Heap} {os : List Ow} (W : Own hb os h) (x : Ext h h') : Own hb os h' :=
  ⟨W.fit, fun i y n e e1 => x _ _ (W.get i y n e e1), W.new, W.one, fun q o e => x _ _ (W.old q o e)⟩
theorem hasN_get {xs : List Nd} {i : Int} (h : hasN xs.length i = true) : ∃ (j : Nat) (x : Nd), i = (j : Int) ∧ xs[j]? = some x := by
  obtain ⟨h1, h2⟩ := hasN_iff.1 h
  obtain ⟨j, rfl⟩ := Int.eq_ofNat_of_zero_le h1
  have : j < xs.length := by omega
  exact ⟨j, xs[j], rfl, List.getElem?_eq_getElem this⟩
theorem nodeP_ok {t : AVal} {xs : List Nd} (P : PRd h t xs) (i : Int) (yes : ∀ (j : Nat) (x : Nd), i = (j : Int) → xs[j]? = some x → K (.tuple [nodeV x, .bool true]) h) (no : hasN xs.length i = false → K (.tuple [nodeV ndZ, .bool false]) h) :
    ACalls prog 49 [t, .int .i64 i] h K := by
  refine s49_ok ?_
  unfold s49
  refine newRow_in fun r hr => ?_
  have P2 := P.ext (h' := h.set r (.row 4 [nodeV ndZ])) (Heap.set_sub hr)
  refine callG_of (aliveP_ok P2 ?_)
  rw [tBool_bool]
  refine ifT_neg rfl (callG_of (hasP_ok P2 i ?_))
  rw [tBool_bool]
  unfold s49c1
  cases e : hasN xs.length i with
  | false =>
    refine ifT_pos rfl (st4 (Heap.set_same _ _ _) rfl rfl ?_)
    rw [Heap.set_set, ldN_elem (n := 4) (i := 0) (cs := nodeC ndZ) (Heap.set_same _ _ _) rfl rfl]
    rw [nodeC, tCons_cons, tInt_int, tCons_cons, tStr_str, tCons_cons, tInt_int, tCons_cons, tInt_int, tNil_nil]
    exact retG_drop (Heap.set_sub hr) (no e)
  | true =>
    obtain ⟨j, x, rfl, hx⟩ := hasN_get e
    refine ifT_neg rfl ?_
    obtain ⟨vN, R, hl⟩ := P2.ld
    rw [hl]
    refine R.ix hx ?_
    rw [nodeC, tCons_cons, tInt_int, tCons_cons, tStr_str, tCons_cons, tInt_int, tCons_cons, tInt_int, tNil_nil]
    refine st4 (Heap.set_same _ _ _) rfl rfl ?_
    rw [Heap.set_set, ldN_elem (n := 4) (i := 0) (cs := nodeC x) (Heap.set_same _ _ _) rfl rfl]
    rw [nodeC, tCons_cons, tInt_int, tCons_cons, tStr_str, tCons_cons, tInt_int, tCons_cons, tInt_int, tNil_nil]
    exact retG_drop (Heap.set_sub hr) (yes j x rfl hx)
def GoodT (xs : List Nd) : Prop := ∀ (i : Nat) (x : Nd), xs[i]? = some x → NdOK i x
theorem okTab_good {xs : List Nd} (ok : okTab xs) : GoodT xs := fun i x hx => by
  have he := (ok i x hx).1
  have hil := (List.getElem?_eq_some_iff.1 hx).1
  have htl : (xs.take i).length = i := by rw [List.length_take]; omega
  unfold putE at he
  rw [htl] at he
  by_cases hf : fitE i x ≠ 0
  · rw [if_pos hf] at he
    exact absurd he hf
  · have hf := Decidable.not_not.1 hf
    unfold fitE at hf
    by_cases k1 : x.k = 1
    · exact .inl k1
    · rw [if_neg k1] at hf
      by_cases k2 : x.k = 2
      · exact .inr (.inl k2)
      · rw [if_neg k2] at hf
        by_cases k3 : x.k = 3 ∨ x.k = 4 ∨ x.k = 5
        · rw [if_pos k3] at hf
          split at hf
          · rename_i hh
            exact .inr (.inr ⟨k3, hasN_iff.1 hh.2.1, hasN_iff.1 hh.2.2⟩)
          · cases hf
        · rw [if_neg k3] at hf
          cases hf
/-- j stands right under i -/
def Kid (xs : List Nd) (i j : Nat) : Prop := ∃ x, xs[i]? = some x ∧ 3 ≤ x.k ∧ (x.l = (j : Int) ∨ x.r = (j : Int))
inductive Sub (xs : List Nd) : Nat → Nat → Prop
  | refl (i : Nat) : Sub xs i i
  | step {i j k : Nat} (h : Kid xs i j) (s : Sub xs j k) : Sub xs i k
theorem Kid.lt {xs : List Nd} (G : GoodT xs) {i j : Nat} (h : Kid xs i j) : j < i := by
  obtain ⟨x, h1, h2, h3⟩ := h
  rcases G i x h1 with e | e | ⟨_, e1, e2⟩
  · omega
  · omega
  · omega
theorem Sub.le {xs : List Nd} (G : GoodT xs) {i j : Nat} (h : Sub xs i j) : j ≤ i := by
  induction h with
  | refl => omega
  | step h _ ih => have := h.lt G; omega
theorem Sub.trans {xs : List Nd} {i j k : Nat} (h : Sub xs i j) (s : Sub xs j k) : Sub xs i k := by
  induction h with
  | refl => exact s
  | step h _ ih => exact .step h (ih s)
noncomputable def subL (xs : List Nd) (i : Nat) : List Nat := (List.range (i + 1)).filter fun j => @decide (Sub xs i j) (Classical.propDecidable _)
theorem mem_subL {xs : List Nd} (G : GoodT xs) {i j : Nat} : j ∈ subL xs i ↔ Sub xs i j := by
  unfold subL
  rw [List.mem_filter, List.mem_range]
  exact ⟨fun h => @of_decide_eq_true _ (Classical.propDecidable _) h.2, fun h => ⟨by have := h.le G; omega, @decide_eq_true _ (Classical.propDecidable _) h⟩⟩
theorem natI_sorted {l : List Nat} (h : l.Pairwise (· ≤ ·)) : (natI l).Pairwise (· ≤ ·) := by
  unfold natI
  rw [List.pairwise_map]
  exact h.imp fun h => by omega
theorem subL_sorted (xs : List Nd) (i : Nat) : (subL xs i).Pairwise (· ≤ ·) :=
  (List.pairwise_lt_range.imp Nat.le_of_lt).sublist List.filter_sublist
theorem subL_nodup (xs : List Nd) (i : Nat) : (subL xs i).Nodup := List.nodup_range.sublist List.filter_sublist

/- ---- the walk down ---- -/
def marks (L : List Nat) : List (AVal × AVal) := L.map fun (j : Nat) => (.int .i64 (j : Int), .int .i64 1)
theorem findM_marks (i : Nat) : ∀ (L : List Nat) (p : Nat), findM (.int .i64 (i : Int)) (marks L) p = some (if i ∈ L then some (p + L.idxOf i, .int .i64 1) else none)
  | [], p => by simp [marks, findM]
  | j :: L, p => by
    show findM _ ((.int .i64 (j : Int), .int .i64 1) :: marks L) p = _
    unfold findM
    have e : keyEq (.int .i64 (i : Int)) (.int .i64 (j : Int)) = some ((i : Int) == (j : Int)) := rfl
    rw [e]
    by_cases hij : i = j
    · subst hij
      simp
    · rw [show ((i : Int) == (j : Int)) = false by simp; omega]
      simp only
      rw [findM_marks i L (p + 1)]
      by_cases hm : i ∈ L
      · rw [if_pos hm, if_pos (List.mem_cons_of_mem _ hm), List.idxOf_cons]
        rw [show (j == i) = false by simp; omega]
        simp only [cond_false]
        rw [show p + 1 + L.idxOf i = p + (L.idxOf i + 1) by omega]
      · rw [if_neg hm, if_neg (fun h => (List.mem_cons.1 h).elim hij hm)]
abbrev DS (hb : Heap) (r r1 r2 : Nat) (t : AVal) (L : List Nat) (R : List Ow) (h : Heap) : Prop :=
  Own hb ([.cell r (.map (marks L)), .cell r1 (.row 1 [.mapr r]), .cell r2 (.row 1 [.func (.func 93) [] [(.ptr r1 0 0), (.lptr [t]), (.ptr r2 0 0)]])] ++ R) h
theorem down_ok {t : AVal} {xs : List Nd} (P : PRd hb t xs) (G : GoodT xs) {r r1 r2 : Nat} : ∀ (i : Nat) (L : List Nat) (R : List Ow) (h : Heap) (K : AVal → Heap → Prop), i < xs.length → DS hb r r1 r2 t L R h →
    (∀ L' h', (∀ j ∈ L, j ∈ L') → (L.Nodup → L'.Nodup) → i ∈ L' → (∀ j ∈ L', j ∉ L → Sub xs i j ∧ ∀ c, Kid xs j c → c ∈ L') → DS hb r r1 r2 t L' R h' → K (.tuple []) h') →
    ACalls prog 93 [.int .i64 (i : Int), .ptr r1 0 0, .lptr [t], .ptr r2 0 0] h K := by
  intro i
  induction i using Nat.strongRecOn with
  | _ i ih =>
  intro L R h K hi O hk
  refine s93_ok ?_
  unfold s93
  rw [ld1_one (O.get 1 _ r1 rfl rfl) rfl]
  unfold mapGet mapGetR entsA
  simp only [O.get 0 _ r rfl rfl, Ow.obj, findM_marks]
  by_cases hm : i ∈ L
  · simp only [if_pos hm, tInt_int]
    exact ifT_pos rfl (retG_of (hk L h (fun _ h => h) (fun h => h) hm (fun j h1 h2 => absurd h1 h2) O))
  · simp only [if_neg hm, tInt_int]
    refine ifT_neg rfl ?_
    rw [ld1_one (O.get 1 _ r1 rfl rfl) rfl]
    have hput : putM (.int .i64 (i : Int)) (.int .i64 1) (marks L) = some (marks (L ++ [i])) := by
      unfold putM
      rw [findM_marks, if_neg hm]
      simp [marks]
    refine Eq.mpr (mapPut_map (O.get 0 _ r rfl rfl) hput _) ?_
    have O1 : DS hb r r1 r2 t (L ++ [i]) R _ := O.put (i := 0) rfl (.map (marks (L ++ [i])))
    rw [ld1_lptr]
    obtain ⟨vN, RN, hl⟩ := (P.ext O1.old).ld
    rw [hl]
    have hx := List.getElem?_eq_getElem hi
    refine RN.ix hx ?_
    rw [nodeC, tCons_cons, tInt_int, tCons_cons, tStr_str, tCons_cons, tInt_int, tCons_cons, tInt_int, tNil_nil]
    refine newRow_in fun rw hrw => st4 (Heap.set_same _ _ _) rfl rfl ?_
    rw [Heap.set_set, ld1_fld (o := 0) (Heap.set_same _ _ _) rfl, tInt_int]
    have O2 : DS hb r r1 r2 t (L ++ [i]) (R ++ [.cell rw (.row 4 [nodeV xs[i]])]) _ := O1.newC hrw (.row 4 [nodeV xs[i]])
    by_cases hk3 : 3 ≤ xs[i].k
    · refine ifT_pos (by simpa using hk3) ?_
      refine Eq.mpr (ld1_one (O2.get 2 _ r2 rfl rfl) rfl _) ?_
      rw [ld1_fld (o := 2) (Heap.set_same _ _ _) rfl, tInt_int]
      have hg := G i _ hx
      have hlr : (0 ≤ xs[i].l ∧ xs[i].l < i) ∧ 0 ≤ xs[i].r ∧ xs[i].r < i := by
        rcases hg with e | e | ⟨_, e⟩
        · omega
        · omega
        · exact e
      obtain ⟨a, ha⟩ := Int.eq_ofNat_of_zero_le hlr.1.1
      obtain ⟨b, hb'⟩ := Int.eq_ofNat_of_zero_le hlr.2.1
      show callG prog 93 ([] ++ [.int .i64 xs[i].l] ++ [(.ptr r1 0 0), (.lptr [t]), (.ptr r2 0 0)]) ((h.set r (.map (marks (L ++ [i])))).set rw (.row 4 [nodeV xs[i]])) _
      rw [show AVal.int .i64 xs[i].l = .int .i64 (a : Int) by rw [ha]]
      show callG prog 93 ([] ++ [.int .i64 (a : Int)] ++ [(.ptr r1 0 0), (.lptr [t]), (.ptr r2 0 0)]) _ _
      refine callG_of (ih a (by omega) (L ++ [i]) (R ++ [.cell rw (.row 4 [nodeV xs[i]])]) _ _ (by omega) O2 fun L2 h2 s1 n1 m1 c1 O3 => ?_)
      rw [ld1_one (O3.get 2 _ r2 rfl rfl) rfl]
      have hrw2 : h2 rw = some (.row 4 [nodeV xs[i]]) := O3.get (3 + R.length) (.cell rw (.row 4 [nodeV xs[i]])) rw (by rw [List.getElem?_append_right (by simp), List.getElem?_append_right (by simp)]; simp) rfl
      rw [ld1_fld (o := 3) (cs := nodeC xs[i]) hrw2 rfl, tInt_int, hb']
      show callG prog 93 ([] ++ [.int .i64 (b : Int)] ++ [(.ptr r1 0 0), (.lptr [t]), (.ptr r2 0 0)]) _ _
      refine callG_of (ih b (by omega) L2 (R ++ [.cell rw (.row 4 [nodeV xs[i]])]) _ _ (by omega) O3 fun L3 h3 s2 n2 m2 c2 O4 => retG_of ?_)
      have O5 : DS hb r r1 r2 t L3 R h3 := by
        have O4' : Own hb (([.cell r (.map (marks L3)), .cell r1 (.row 1 [.mapr r]), .cell r2 (.row 1 [.func (.func 93) [] [(.ptr r1 0 0), (.lptr [t]), (.ptr r2 0 0)]])] ++ R) ++ [.cell rw (.row 4 [nodeV xs[i]])]) h3 := by rw [List.append_assoc]; exact O4
        exact O4'.pop
      have kidl : Kid xs i a := ⟨_, hx, hk3, .inl ha⟩
      have kidr : Kid xs i b := ⟨_, hx, hk3, .inr hb'⟩
      refine hk L3 h3 (fun j hj => s2 j (s1 j (List.mem_append_left _ hj))) (fun hn => n2 (n1 ?_)) (s2 i (s1 i (by simp))) (fun j hj hjL => ?_) O5
      · rw [List.nodup_append]
        refine ⟨hn, by simp, fun x hxL y hy e => ?_⟩
        rw [List.mem_singleton] at hy
        subst hy; subst e
        exact hm hxL
      · by_cases h2' : j ∈ L2
        · by_cases h1' : j ∈ L ++ [i]
          · rcases List.mem_append.1 h1' with h | h
            · exact absurd h hjL
            · rw [List.mem_singleton] at h
              subst h
              refine ⟨.refl _, fun c hc => ?_⟩
              obtain ⟨x, hx1, _, hx2⟩ := hc
              rw [hx] at hx1
              cases hx1
              rcases hx2 with e | e
              · have : c = a := by omega
                subst this
                exact s2 _ m1
              · have : c = b := by omega
                subst this
                exact m2
          · obtain ⟨e1, e2⟩ := c1 j h2' h1'
            exact ⟨.step kidl e1, fun c hc => s2 c (e2 c hc)⟩
        · obtain ⟨e1, e2⟩ := c2 j hj h2'
          exact ⟨.step kidr e1, e2⟩
    · refine ifT_neg (by simpa using hk3) (retG_of ?_)
      have O5 : DS hb r r1 r2 t (L ++ [i]) R _ := Own.skip O1 hrw (.row 4 [nodeV xs[i]])
      refine hk (L ++ [i]) _ (fun j hj => List.mem_append_left _ hj) (fun hn => ?_) (by simp) (fun j hj hjL => ?_) O5
      · rw [List.nodup_append]
        refine ⟨hn, by simp, fun x hxL y hy e => ?_⟩
        rw [List.mem_singleton] at hy
        subst hy; subst e
        exact hm hxL
      · rcases List.mem_append.1 hj with h | h
        · exact absurd h hjL
        · rw [List.mem_singleton] at h
          subst h
          refine ⟨.refl _, fun c hc => ?_⟩
          obtain ⟨x, hx1, hx3, _⟩ := hc
          rw [hx] at hx1
          cases hx1
          exact absurd hx3 hk3
theorem toBaseG {h : Heap} {os : List Ow} (W : Own hb os h) (S : Nat → Prop) (hS : ∀ n, S n → hb n = none) : Go.Sym.GStep h hb S := Own.toBase W S hS
end Go.Proofs.YtljglglbfcgjpaaGreat

namespace Go.Proofs.YtljglglbfcgjpaaGreat
open Go Go.Proofs Go.Shelf
def layI_ren : Ren := ⟨fun | 189 => 94 | 125 => 67 | 257 => 121 | 128 => 113 | 129 => 114 | 294 => 144 | 295 => 145 | 296 => 146 | 297 => 147 | 298 => 148 | 299 => 149 | 216 => 150 | 300 => 151 | 301 => 152 | 328 => 160 | 329 => 134 | 330 => 135 | 331 => 161 | 332 => 162 | 215 => 163 | 343 => 165 | n => n, fun | 28 => 42 | 3 => 3 | 46 => 89 | 0 => 0 | 51 => 187 | 53 => 88 | 4 => 4 | 183 => 180 | 182 => 179 | 131 => 105 | 5 => 5 | 9 => 9 | 218 => 205 | 222 => 209 | 228 => 219 | 229 => 62 | n => n, fun n => n⟩
set_option maxRecDepth 100000 in
theorem layI : Lays.n189 Tryz.prog layI_ren := {
  mixed := by kernel_rfl,
  f125 := Tryz.func67.trans (congrArg some (by kernel_rfl)),
  f128 := Tryz.func113.trans (congrArg some (by kernel_rfl)),
  f129 := Tryz.func114.trans (congrArg some (by kernel_rfl)),
  f189 := Tryz.func94.trans (congrArg some (by kernel_rfl)),
  f215 := Tryz.func163.trans (congrArg some (by kernel_rfl)),
  f216 := Tryz.func150.trans (congrArg some (by kernel_rfl)),
  f257 := Tryz.func121.trans (congrArg some (by kernel_rfl)),
  f294 := Tryz.func144.trans (congrArg some (by kernel_rfl)),
  f295 := Tryz.func145.trans (congrArg some (by kernel_rfl)),
  f296 := Tryz.func146.trans (congrArg some (by kernel_rfl)),
  f297 := Tryz.func147.trans (congrArg some (by kernel_rfl)),
  f298 := Tryz.func148.trans (congrArg some (by kernel_rfl)),
  f299 := Tryz.func149.trans (congrArg some (by kernel_rfl)),
  f300 := Tryz.func151.trans (congrArg some (by kernel_rfl)),
  f301 := Tryz.func152.trans (congrArg some (by kernel_rfl)),
  f328 := Tryz.func160.trans (congrArg some (by kernel_rfl)),
  f329 := Tryz.func134.trans (congrArg some (by kernel_rfl)),
  f330 := Tryz.func135.trans (congrArg some (by kernel_rfl)),
  f331 := Tryz.func161.trans (congrArg some (by kernel_rfl)),
  f332 := Tryz.func162.trans (congrArg some (by kernel_rfl)),
  f343 := Tryz.func165.trans (congrArg some (by kernel_rfl)),
  t0 := Tryz.underlying0,
  a0 := Tryz.isAgg0,
  z0 := Tryz.sizeOf0,
  v0 := Tryz.zeroValue0,
  t3 := Tryz.underlying3,
  a3 := Tryz.isAgg3,
  z3 := Tryz.sizeOf3,
  v3 := Tryz.zeroValue3,
  t4 := Tryz.underlying4,
  a4 := Tryz.isAgg4,
  z4 := Tryz.sizeOf4,
  v4 := Tryz.zeroValue4,
  t5 := Tryz.underlying5,
  a5 := Tryz.isAgg5,
  z5 := Tryz.sizeOf5,
  v5 := Tryz.zeroValue5,
  t9 := Tryz.underlying9,
  a9 := Tryz.isAgg9,
  z9 := Tryz.sizeOf9,
  v9 := Tryz.zeroValue9,
  t28 := Tryz.underlying42,
  a28 := Tryz.isAgg42,
  z28 := Tryz.sizeOf42,
  v28 := Tryz.zeroValue42,
  t46 := Tryz.underlying89,
  a46 := Tryz.isAgg89,
  z46 := Tryz.sizeOf89,
  v46 := Tryz.zeroValue89,
  t51 := Tryz.underlying187,
  a51 := Tryz.isAgg187,
  z51 := Tryz.sizeOf187,
  v51 := Tryz.zeroValue187,
  t53 := Tryz.underlying88,
  a53 := Tryz.isAgg88,
  z53 := Tryz.sizeOf88,
  v53 := Tryz.zeroValue88,
  t131 := Tryz.underlying105,
  a131 := Tryz.isAgg105,
  z131 := Tryz.sizeOf105,
  v131 := Tryz.zeroValue105,
  t182 := Tryz.underlying179,
  a182 := Tryz.isAgg179,
  z182 := Tryz.sizeOf179,
  v182 := Tryz.zeroValue179,
  t183 := Tryz.underlying180,
  a183 := Tryz.isAgg180,
  z183 := Tryz.sizeOf180,
  v183 := Tryz.zeroValue180,
  t218 := Tryz.underlying205,
  a218 := Tryz.isAgg205,
  z218 := Tryz.sizeOf205,
  v218 := Tryz.zeroValue205,
  t222 := Tryz.underlying209,
  a222 := Tryz.isAgg209,
  z222 := Tryz.sizeOf209,
  v222 := Tryz.zeroValue209,
  t228 := Tryz.underlying219,
  a228 := Tryz.isAgg219,
  z228 := Tryz.sizeOf219,
  v228 := Tryz.zeroValue219,
  t229 := Tryz.underlying62,
  a229 := Tryz.isAgg62,
  z229 := Tryz.sizeOf62,
  v229 := Tryz.zeroValue62 }
end Go.Proofs.YtljglglbfcgjpaaGreat

namespace Go.Proofs.YtljglglbfcgjpaaGreat
open Go Go.Sym Go.Proofs.Tryz

variable {K : AVal → Heap → Prop} {h h0 hb : Heap}

theorem marks_erase (i : Nat) : ∀ (L : List Nat), (marks L).eraseIdx i = marks (L.eraseIdx i) := by
  intro L
  unfold marks
  rw [List.eraseIdx_eq_take_drop_succ, List.eraseIdx_eq_take_drop_succ, List.map_append, List.map_take, List.map_drop]
theorem erase_perm {i j : Nat} : ∀ {L : List Nat}, L[i]? = some j → (j :: L.eraseIdx i).Perm L := by
  induction i with
  | zero =>
    intro L h
    cases L with
    | nil => simp at h
    | cons a L => simp at h; subst h; exact .refl _
  | succ i ih =>
    intro L h
    cases L with
    | nil => simp at h
    | cons a L =>
      simp only [List.getElem?_cons_succ] at h
      simp only [List.eraseIdx_cons_succ]
      exact (List.Perm.swap a j _).trans ((ih h).cons a)

theorem below_end {os : List Ow} {l_ : AVal} {acc : List Nat} {i : Nat} (O : Own h0 os h) (hi : os[i]? = some (.slc 1 l_ ((natI acc).map (.int .i64)))) (hne : acc ≠ []) (hlen : acc.length ≤ 1048576) {l : List Nat} (hp : acc.Perm l) (hs : l.Pairwise (· ≤ ·))
    (yes : ∀ v, Ints v (natI l) → K (.tuple [v, .int .i64 0]) h0) :
    callG prog 94 [l_] h fun v15 h_11 => retG (.tuple [l_, (.int .i64 0)]) h_11 K := by
  rcases O.fit i _ hi with ⟨_, e⟩ | ⟨r, rfl⟩
  · have := List.map_eq_nil_iff.1 e
    unfold natI at this
    exact absurd (List.map_eq_nil_iff.1 this) hne
  · have hr := O.get i _ r hi rfl
    have hn : ((natI acc).map (AVal.int .i64)).length = (natI acc).length := List.length_map _
    have hn2 : (natI acc).length = acc.length := by simp [natI]
    have hpos : 0 < acc.length := List.length_pos_iff.2 hne
    rw [hn] at hi hr ⊢
    have hsort : sortI (natI acc) = natI l := sorted_unique ((sortI_perm _).trans (hp.map _)) (sortI_sorted _) (natI_sorted hs)
    refine callG_of (sortI_ok (ρ := layI_ren) layI (by kernel_rfl) (by omega) (by omega) hr ?_)
    rw [hsort]
    have hll : (natI l).length = (natI acc).length := by rw [← hsort]; exact List.length_mergeSort _
    have O2 := O.putS (i := i) (r := r) (es := 1) (l := (natI acc).map (.int .i64)) (by rw [hn]; exact hi) (l' := (natI l).map (.int .i64)) (by simp [hll])
    have hi2 : (os.set i (.slc 1 (.sl r 1 0 ((natI acc).map (AVal.int .i64)).length) ((natI l).map (.int .i64))))[i]? = some (.slc 1 (.sl r 1 0 ((natI acc).map (AVal.int .i64)).length) ((natI l).map (.int .i64))) := by
      rw [List.getElem?_set_self (List.getElem?_eq_some_iff.1 hi).1]
    obtain ⟨v', lv, sv⟩ := O2.lit hi2 (S := nameOf (.sl r 1 0 (natI acc).length)) (fun n hn => hn) (Lits.refl _)
    rw [hn] at lv
    exact ⟨_, .tuple [v', .int .i64 0], h0, .tuple (.cons lv (.cons (.refl _) .nil)), toBaseG O2 _ (fun n hn => O2.new i _ n hi2 hn), yes v' sv⟩
theorem extr {l : List AVal} {i : Nat} {x : AVal} (h : l[i]? = some x) (K : AVal → Prop) : extractA (.tuple l) i K = K x := by
  simp [extractA, h]
theorem below_l1 {r r1 r2 q : Nat} {o0 o1 o2 : AObj} {l : List Nat} (hs : l.Pairwise (· ≤ ·)) (hl : l.length ≤ 1048576) (hne : l ≠ []) (yes : ∀ v, Ints v (natI l) → K (.tuple [v, .int .i64 0]) h0) :
    ∀ (d : Nat) (left acc : List Nat) (l_ : AVal) (cur : Option (AVal × AVal)) (h : Heap), left.length = d → (acc ++ left).Perm l → Own h0 [.cell r o0, .cell r1 o1, .cell r2 o2, .cell q (.miter (marks left) cur), .slc 1 l_ ((natI acc).map (.int .i64))] h →
      s48l1 K (d + 1) l_ (.iter q) h
  | 0, left, acc, l_, cur, h, hd, hp, O => by
    obtain rfl := List.length_eq_zero_iff.1 hd
    rw [List.append_nil] at hp
    unfold s48l1
    unfold nextM
    simp only [O.get 3 _ q rfl rfl, Ow.obj, marks, List.map_nil]
    rw [extr rfl, tBool_bool]
    refine ifT_neg rfl (below_end O (i := 4) rfl (fun e => hne ?_) (by rw [hp.length_eq]; exact hl) hp hs yes)
    subst e
    exact List.Perm.eq_nil hp.symm
  | d + 1, left, acc, l_, cur, h, hd, hp, O => by
    have hlen : acc.length + left.length = l.length := by rw [← hp.length_eq, List.length_append]
    unfold s48l1
    unfold nextM
    have hq := O.get 3 _ q rfl rfl
    cases left with
    | nil => simp at hd
    | cons a left =>
      simp only [hq, Ow.obj, marks, List.map_cons]
      intro i kv hkv
      have hkv' : (marks (a :: left))[i]? = some kv := hkv
      unfold marks at hkv'
      rw [List.getElem?_map] at hkv'
      obtain ⟨j, hj, rfl⟩ := Option.map_eq_some_iff.1 hkv'
      have O1 := O.put (i := 3) rfl (.miter (marks ((a :: left).eraseIdx i)) (some (.int .i64 (j : Int), .int .i64 1)))
      rw [extr rfl, tBool_bool]
      refine ifT_pos rfl ?_
      have e0 : ((.int .i64 (a : Int), .int .i64 1) :: left.map fun (j : Nat) => (AVal.int .i64 (j : Int), AVal.int .i64 1)).eraseIdx i = marks ((a :: left).eraseIdx i) := marks_erase i (a :: left)
      rw [e0]
      unfold entryA
      have hq1 := O1.get 3 _ q rfl rfl
      simp only [Ow.obj] at hq1
      simp only [hq1]
      rw [extr rfl, tInt_int]
      refine O1.app (i := 4) rfl (by simp [natI]; omega) (by simp [natI]; omega) fun v2 h2 O2 => s48l1_go ?_
      have e2 : (natI (acc ++ [j])).map (AVal.int .i64) = (natI acc).map (.int .i64) ++ [.int .i64 (j : Int)] := by simp [natI]
      refine below_l1 (r := r) (r1 := r1) (r2 := r2) (q := q) (o0 := o0) (o1 := o1) (o2 := o2) hs hl hne yes d ((a :: left).eraseIdx i) (acc ++ [j]) v2 (some (.int .i64 (j : Int), .int .i64 1)) h2 ?_ ?_ ?_
      · rw [List.length_eraseIdx, if_pos (List.getElem?_eq_some_iff.1 hj).1]
        simp at hd ⊢
        omega
      · rw [List.append_assoc]
        exact ((erase_perm hj).append_left acc).trans hp
      · rw [e2]
        exact O2
theorem belowF_ok {t : AVal} {xs : List Nd} (P : PRd h t xs) (G : GoodT xs) (hl : xs.length ≤ 1024) (i : Int) (no : hasN xs.length i = false → K (.tuple [.nilsl, .int .i64 31]) h)
    (yes : ∀ j : Nat, i = (j : Int) → j < xs.length → ∀ v, Ints v (natI (subL xs j)) → K (.tuple [v, .int .i64 0]) h) : ACalls prog 48 [t, .int .i64 i] h K := by
  refine s48_ok ?_
  unfold s48
  have hsc : sc t = true := by
    obtain ⟨rt, vN, q, es, rfl, _⟩ := P
    rfl
  refine chk_iff.2 ⟨hsc, callG_of (aliveP_ok P ?_)⟩
  rw [tBool_bool]
  refine ifT_neg rfl (callG_of (hasP_ok P i ?_))
  rw [tBool_bool]
  cases e : hasN xs.length i with
  | false => exact ifT_pos rfl (retG_of (no e))
  | true =>
    obtain ⟨j, x, rfl, hx⟩ := hasN_get e
    have hj := (List.getElem?_eq_some_iff.1 hx).1
    refine ifT_neg rfl ?_
    intro r hr _
    have O0 := (Own.start h).newC hr (.map [])
    refine newRow_in fun r1 hr1 => ?_
    have O1 := O0.newC hr1 (.row 1 [.nilmap])
    refine st_elem (Heap.set_same _ _ _) rfl rfl ?_
    have O2 := O1.put (i := 1) rfl (.row 1 [.mapr r])
    refine newRow_in fun r2 hr2 => ?_
    have O3 := O2.newC hr2 (.row 1 [.nilfunc])
    refine st_elem (Heap.set_same _ _ _) rfl rfl ?_
    have O4 : DS h r r1 r2 t [] [] _ := O3.put (i := 2) rfl (.row 1 [.func (.func 93) [] [(.ptr r1 0 0), (.lptr [t]), (.ptr r2 0 0)]])
    refine Eq.mpr (ld1_one (O4.get 2 _ r2 rfl rfl) rfl _) ?_
    show callG prog 93 ([] ++ [.int .i64 (j : Int)] ++ [(.ptr r1 0 0), (.lptr [t]), (.ptr r2 0 0)]) _ _
    refine callG_of (down_ok P G j [] [] _ _ hj O4 fun L h7 _ hn hm hc O5 => ?_)
    rw [ld1_one (O5.get 1 _ r1 rfl rfl) rfl]
    unfold rangeM
    simp only [O5.get 0 _ r rfl rfl, Ow.obj]
    intro q hq _
    have hqr : q ≠ r := fun e => by rw [e, O5.get 0 _ r rfl rfl] at hq; cases hq
    have O6 := O5.put (i := 0) rfl (.fmap (marks L))
    have O7 := (O6.newC (r := q) (by rw [Heap.set_ne _ _ hqr]; exact hq) (.miter (marks L) none)).newN 1
    have hmem : ∀ c, c ∈ L ↔ c ∈ subL xs j := fun c => by
      rw [mem_subL G]
      constructor
      · exact fun h => (hc c h (by simp)).1
      · intro s
        have : ∀ a b, Sub xs a b → a ∈ L → b ∈ L := fun a b s => by
          induction s with
          | refl => exact fun h => h
          | step k _ ih => exact fun h => ih ((hc _ h (by simp)).2 _ k)
        exact this j c s hm
    have hperm : L.Perm (subL xs j) := (List.perm_ext_iff_of_nodup (hn List.nodup_nil) (subL_nodup xs j)).2 hmem
    have hlen : (subL xs j).length ≤ j + 1 := by
      unfold subL
      exact Nat.le_trans (List.length_filter_le _ _) (by simp)
    refine s48l1_in (L.length + 1) (below_l1 (subL_sorted xs j) (by omega) (fun e => ?_) (yes j rfl hj) L.length L [] .nilsl none _ rfl (by simpa using hperm) O7)
    have := (mem_subL G).2 (Sub.refl (xs := xs) j)
    rw [e] at this
    cases this

/- ---- atoms ---- -/
end Go.Proofs.YtljglglbfcgjpaaGreat

namespace Go.Proofs.YtljglglbfcgjpaaGreat
open Go Go.Sym Go.Proofs.Tryz

/- ---- a row of truths ---- -/
def bRow (n : Nat) (p : Nat → Bool) : AObj := .row 1 ((List.range n).map fun w => .bool (p w))
theorem bRow_zero (n : Nat) : AObj.row 1 (List.replicate n (.bool false)) = bRow n fun _ => false := by
  unfold bRow
  congr 1
  apply List.ext_getElem <;> simp
theorem bRow_rd {r n : Nat} {p : Nat → Bool} {hh : Heap} (hr : hh r = some (bRow n p)) {w : Nat} (hw : w < n) {K : AVal → Prop} (hk : K (.bool (p w))) : ixS 1 (.sl r 1 0 n) (w : Int) fun q => ld1 hh q K := by
  refine ixS_sl0 hw ?_
  rw [ld1_ptr hr (e := .bool (p w)) (by simp [hw]) rfl]
  exact hk
theorem bRow_wr {r n : Nat} {p : Nat → Bool} {hh : Heap} (hr : hh r = some (bRow n p)) {w : Nat} (hw : w < n) (b : Bool) {K : Heap → Prop} (hk : K (hh.set r (bRow n fun v => if v = w then b else p v))) : ixS 1 (.sl r 1 0 n) (w : Int) fun q => st true hh q [.bool b] K := by
  refine ixS_sl0 hw (st_elem hr (e := .bool (p w)) (by simp [hw]) rfl ?_)
  have : ((List.range n).map fun v => AVal.bool (p v)).set w (.bool b) = (List.range n).map fun v => .bool (if v = w then b else p v) := by
    apply List.ext_getElem
    · simp
    · intro i h1 h2
      rw [List.getElem_set]
      simp only [List.getElem_map, List.getElem_range]
      by_cases e : w = i
      · subst e; simp
      · rw [if_neg e, if_neg (fun h => e h.symm)]
  rw [this]
  exact hk
/- ---- a row of numbers ---- -/
def iRow (n : Nat) (f : Nat → Int) : AObj := .row 1 ((List.range n).map fun w => .int .i64 (f w))
theorem iRow_zero (n : Nat) : AObj.row 1 (List.replicate n (.int .i64 0)) = iRow n fun _ => 0 := by
  unfold iRow
  congr 1
  apply List.ext_getElem <;> simp
theorem iRow_rd {r n : Nat} {f : Nat → Int} {hh : Heap} (hr : hh r = some (iRow n f)) {w : Nat} (hw : w < n) {K : AVal → Prop} (hk : K (.int .i64 (f w))) : ixS 1 (.sl r 1 0 n) (w : Int) fun q => ld1 hh q K := by
  refine ixS_sl0 hw ?_
  rw [ld1_ptr hr (e := .int .i64 (f w)) (by simp [hw]) rfl]
  exact hk
theorem iRow_wr {r n : Nat} {f : Nat → Int} {hh : Heap} (hr : hh r = some (iRow n f)) {w : Nat} (hw : w < n) (b : Int) {K : Heap → Prop} (hk : K (hh.set r (iRow n (upd f w b)))) : ixS 1 (.sl r 1 0 n) (w : Int) fun q => st true hh q [.int .i64 b] K := by
  refine ixS_sl0 hw (st_elem hr (e := .int .i64 (f w)) (by simp [hw]) rfl ?_)
  have : ((List.range n).map fun v => AVal.int .i64 (f v)).set w (.int .i64 b) = (List.range n).map fun v => .int .i64 (upd f w b v) := by
    apply List.ext_getElem
    · simp
    · intro i h1 h2
      rw [List.getElem_set]
      simp only [List.getElem_map, List.getElem_range]
      unfold upd
      by_cases e : w = i
      · subst e; simp
      · rw [if_neg e, if_neg (fun h => e h.symm)]
  rw [this]
  exact hk
end Go.Proofs.YtljglglbfcgjpaaGreat

namespace Go.Proofs.YtljglglbfcgjpaaGreat
open Go Go.Sym Go.Proofs.Tryz

variable {K : AVal → Heap → Prop} {h h0 hb : Heap}

section
variable {t : AVal} {xs : List Nd} {j : Nat}
/-- what the document's marks hold when the formulas from i on have been looked at -/
structure MK (xs : List Nd) (j i : Nat) (p : Nat → Bool) : Prop where
  top : p j = true
  sub : ∀ c, p c = true → Sub xs j c
  kid : ∀ c, i ≤ c → p c = true → ∀ k, Kid xs c k → p k = true
theorem MK.full {p : Nat → Bool} (M : MK xs j 0 p) (c : Nat) : p c = true ↔ Sub xs j c := by
  refine ⟨M.sub c, fun s => ?_⟩
  have : ∀ a b, Sub xs a b → p a = true → p b = true := fun a b s => by
    induction s with
    | refl => exact fun h => h
    | step k _ ih => exact fun h => ih (M.kid _ (Nat.zero_le _) h _ k)
  exact this j c s M.top
theorem belowT_l4 {r n : Nat} {p : Nat → Bool} (hjn : j < n) (hn : n ≤ 1024) (hp : ∀ c, p c = true ↔ Sub xs j c) (yes : ∀ v, Ints v (natI (subL xs j)) → K (.tuple [v, .int .i64 0]) h0) :
    ∀ (d i : Nat) (out : AVal) (h : Heap), i + d = j + 1 → Own h0 [.cell r (bRow n p), .slc 1 out ((natI ((List.range i).filter p)).map (.int .i64))] h → s52l4 K (d + 1) (j : Int) (.sl r 1 0 n) out (i : Int) h
  | 0, i, out, h, hd, O => by
    unfold s52l4
    refine ifT_neg (by simp; omega) ?_
    have hi : i = j + 1 := by omega
    subst hi
    have e : (List.range (j + 1)).filter p = subL xs j := by
      unfold subL
      refine List.filter_congr fun c _ => ?_
      rw [Bool.eq_iff_iff, hp c]
      exact ⟨fun h => @decide_eq_true _ (Classical.propDecidable _) h, fun h => @of_decide_eq_true _ (Classical.propDecidable _) h⟩
    rw [e] at O
    obtain ⟨v', lv, sv⟩ := O.lit (i := 1) rfl (S := nameOf out) (fun n hn => hn) (Lits.refl _)
    exact ⟨_, .tuple [v', .int .i64 0], h0, .tuple (.cons lv (.cons (.refl _) .nil)), toBaseG O _ (fun n hn => O.new 1 _ n rfl hn), yes v' sv⟩
  | d + 1, i, out, h, hd, O => by
    unfold s52l4
    refine ifT_pos (by simp; omega) (bRow_rd (O.get 0 _ r rfl rfl) (by omega) ?_)
    rw [tBool_bool]
    have hf := range_filter_succ p i
    have hlen := List.length_filter_le p (List.range i)
    rw [List.length_range] at hlen
    cases hpi : p i with
    | true =>
      rw [hpi, if_pos rfl] at hf
      refine ifT_pos rfl (O.app (i := 1) rfl (by simp [natI]; omega) (by simp [natI]; omega) fun v2 h2 O2 => ?_)
      unfold s52c5
      refine rg_of (by omega) (by omega) (s52l4_go (belowT_l4 hjn hn hp yes d (i + 1) v2 h2 (by omega) ?_))
      rw [hf]
      have e2 : (natI ((List.range i).filter p ++ [i])).map (AVal.int .i64) = (natI ((List.range i).filter p)).map (.int .i64) ++ [.int .i64 (i : Int)] := by simp [natI]
      rw [e2]
      exact O2
    | false =>
      rw [hpi] at hf
      refine ifT_neg rfl ?_
      unfold s52c5
      refine rg_of (by omega) (by omega) (s52l4_go (belowT_l4 hjn hn hp yes d (i + 1) out h (by omega) ?_))
      rw [hf]
      simpa using O
theorem belowT_l1 {r : Nat} (D : DRd h0 t xs) (G : GoodT xs) (hj : j < xs.length) (hl : xs.length ≤ 1024) (yes : ∀ v, Ints v (natI (subL xs j)) → K (.tuple [v, .int .i64 0]) h0) :
    ∀ (d : Nat) (p : Nat → Bool) (h : Heap), d ≤ j + 1 → MK xs j d p → Own h0 [.cell r (bRow xs.length p)] h → s52l1 K (d + 1) t (j : Int) (.sl r 1 0 xs.length) .nilsl ((d : Int) - 1) h
  | 0, p, h, hd, M, O => by
    unfold s52l1
    refine ifT_neg (by simp) (s52l4_in (j + 2) (belowT_l4 hj hl M.full yes (j + 1) 0 .nilsl h (by omega) ?_))
    exact O.newN 1
  | d + 1, p, h, hd, M, O => by
    have hdl : d < xs.length := by omega
    have hx := List.getElem?_eq_getElem hdl
    unfold s52l1
    rw [show ((d + 1 : Nat) : Int) - 1 = (d : Int) by omega]
    refine ifT_pos (by simp) (bRow_rd (O.get 0 _ r rfl rfl) hdl ?_)
    rw [tBool_bool]
    have go : ∀ (p' : Nat → Bool) (h' : Heap), MK xs j d p' → Own h0 [.cell r (bRow xs.length p')] h' → s52c2 K (s52l1_G (s52l1 K (d + 1))) t (j : Int) (.sl r 1 0 xs.length) .nilsl (d : Int) h' := fun p' h' M' O' => by
      unfold s52c2
      exact rg_of (by omega) (by omega) (s52l1_go (belowT_l1 D G hj hl yes d p' h' (by omega) M' O'))
    have keep : (p d = true → ∀ k, Kid xs d k → p k = true) → MK xs j d p := fun hk => ⟨M.top, M.sub, fun c hc hpc => by
      rcases Nat.lt_or_ge d c with e | e
      · exact M.kid c e hpc
      · obtain rfl : c = d := by omega
        exact hk hpc⟩
    cases hpd : p d with
    | false => exact ifT_pos rfl (go p h (keep fun e => by rw [hpd] at e; cases e) O)
    | true =>
      refine ifT_neg rfl ?_
      obtain ⟨vN, RN, hld⟩ := (D.ext O.old).ld
      rw [hld]
      refine RN.fld hx (o := 0) rfl ?_
      rw [tInt_int]
      have g := G d _ hx
      by_cases k1 : xs[d].k = 1
      · refine ifT_neg (by simp [k1]) ?_
        unfold s52c3
        refine ifT_neg rfl (go p h (keep fun _ k ⟨x, hx', h3, _⟩ => ?_) O)
        rw [hx] at hx'; cases hx'; omega
      · refine ifT_pos (by simpa using k1) ?_
        rw [hld]
        refine RN.fld hx (o := 0) rfl ?_
        rw [tInt_int]
        unfold s52c3
        by_cases k2 : xs[d].k = 2
        · refine ifT_neg (by simp [k2]) (go p h (keep fun _ k ⟨x, hx', h3, _⟩ => ?_) O)
          rw [hx] at hx'; cases hx'; omega
        · refine ifT_pos (by simpa using k2) ?_
          obtain ⟨e, ⟨l1, l2⟩, r1, r2⟩ := (g.resolve_left k1).resolve_left k2
          obtain ⟨a, ha⟩ := Int.eq_ofNat_of_zero_le l1
          obtain ⟨b, hb'⟩ := Int.eq_ofNat_of_zero_le r1
          rw [hld]
          refine RN.fld hx (o := 2) rfl ?_
          rw [tInt_int, ha]
          refine bRow_wr (O.get 0 _ r rfl rfl) (by omega) true ?_
          have O2 := O.put (i := 0) rfl (bRow xs.length fun v => if v = a then true else p v)
          obtain ⟨vN2, RN2, hld2⟩ := (D.ext O2.old).ld
          rw [hld2]
          refine RN2.fld hx (o := 3) rfl ?_
          rw [tInt_int, hb']
          refine bRow_wr (O2.get 0 _ r rfl rfl) (by omega) true ?_
          have O3 := O2.put (i := 0) rfl (bRow xs.length fun v => if v = b then true else if v = a then true else p v)
          refine go _ _ ⟨?_, fun c hc => ?_, fun c hc hpc k hk => ?_⟩ O3
          · split
            · rfl
            · split
              · rfl
              · exact M.top
          · have sd := M.sub d hpd
            split at hc
            · rename_i h1; subst h1
              exact sd.trans (.step ⟨_, hx, by omega, .inr hb'⟩ (.refl _))
            · split at hc
              · rename_i h1; subst h1
                exact sd.trans (.step ⟨_, hx, by omega, .inl ha⟩ (.refl _))
              · exact M.sub c hc
          · rcases Nat.lt_or_ge d c with h1 | h1
            · have hpc' : p c = true := by
                rw [if_neg (by omega), if_neg (by omega)] at hpc
                exact hpc
              have := M.kid c h1 hpc' k hk
              split
              · rfl
              · split
                · rfl
                · exact this
            · obtain rfl : c = d := by omega
              obtain ⟨x, hx', _, h4⟩ := hk
              rw [hx] at hx'; cases hx'
              rcases h4 with h4 | h4
              · rw [if_pos (show k = a by omega)]
                split <;> rfl
              · rw [if_pos (show k = b by omega)]
theorem belowT_ok (D : DRd h t xs) (G : GoodT xs) (hl : xs.length ≤ 1024) (hj : j < xs.length) (yes : ∀ v, Ints v (natI (subL xs j)) → K (.tuple [v, .int .i64 0]) h) : ACalls prog 52 [t, .int .i64 (j : Int)] h K := by
  refine s52_ok ?_
  unfold s52
  refine callG_of (hasT_ok D _ ?_)
  rw [tBool_bool, hasN_iff.2 (show 0 ≤ (j : Int) ∧ (j : Int) < xs.length by omega)]
  refine ifT_neg rfl ?_
  obtain ⟨vN, RN, hld⟩ := D.ld
  rw [hld, RN.len]
  refine mkS_own (n := xs.length) (by omega) (by omega) fun r hr => ?_
  rw [bRow_zero]
  have O := (Own.start h).newC hr (bRow xs.length fun _ => false)
  refine bRow_wr (Heap.set_same _ _ _) hj true ?_
  have O2 := O.put (i := 0) rfl (bRow xs.length fun v => if v = j then true else false)
  refine s52l1_in (j + 2) ?_
  have := belowT_l1 D G hj hl yes (j + 1) _ _ (by omega) ⟨by simp, fun c hc => ?_, fun c hc hpc => ?_⟩ O2
  · rw [show ((j + 1 : Nat) : Int) - 1 = (j : Int) by omega] at this
    exact this
  · by_cases e : c = j
    · subst e; exact .refl _
    · simp [e] at hc
  · by_cases e : c = j
    · omega
    · simp [e] at hpc
end
end Go.Proofs.YtljglglbfcgjpaaGreat

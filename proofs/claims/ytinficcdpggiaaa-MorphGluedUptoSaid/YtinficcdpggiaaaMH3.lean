/- Contracts: the program's order (morph): a search that climbs. No condition. Contracts: the program's order (morph), whole. No condition. Contracts: the program's test for a bounded morphism. No condition. Contracts: the program's test for a bounded morphism, whole. No condition. Contracts: the document's table of formulas. No condition. Contracts: where formulas are forced. No condition. Contracts: where formulas are forced, whole; what a bounded morphism keeps. No condition. Plain law: tidying keeps the order; the parts of a glued model. No condition; no program. The law MorphGlued over its inputs. No condition. -/
import Derived.Test.YtinficcdpggiaaaM5
import Derived.Test.YtinficcdpggiaaaMH2
import Derived.Test.YtinficcdpggiaaaMH1
import Derived.Test.YtinficcdpggiaaaM4

set_option linter.unusedVariables false
set_option linter.unusedSimpArgs false

namespace Go.Proofs.Ytinficcdpggiaaa
open Go Go.Sym Go.Proofs.Try

variable {K : AVal → Heap → Prop} {up : List (List Int)} {val : List (List ByteArray)} {mU mV : AVal}

/- ---- a map as a set ---- -/
def mapV (V : List Nat) : List (AVal × AVal) := V.map fun (v : Nat) => (.int .i64 (v : Int), .int .i64 1)
theorem find_in {v : Nat} : ∀ (V : List Nat) (i : Nat), v ∈ V → ∃ j, findM (.int .i64 (v : Int)) (mapV V) i = some (some (j, .int .i64 1))
  | [], _, h => by simp at h
  | x :: V, i, h => by
    show ∃ j, findM (.int .i64 (v : Int)) ((.int .i64 (x : Int), .int .i64 1) :: mapV V) i = _
    unfold findM keyEq
    simp only [decide_true]
    by_cases e : v = x
    · subst e
      exact ⟨i, by simp⟩
    · rw [show ((v : Int) == (x : Int)) = false by rw [beq_eq_false_iff_ne]; omega]
      exact find_in V (i + 1) (by simpa [e] using h)
theorem find_out {v : Nat} : ∀ (V : List Nat) (i : Nat), v ∉ V → findM (.int .i64 (v : Int)) (mapV V) i = some none
  | [], _, _ => rfl
  | x :: V, i, h => by
    show findM (.int .i64 (v : Int)) ((.int .i64 (x : Int), .int .i64 1) :: mapV V) i = _
    unfold findM keyEq
    simp only [decide_true]
    have h1 : v ≠ x ∧ v ∉ V := by simpa using h
    rw [show ((v : Int) == (x : Int)) = false by rw [beq_eq_false_iff_ne]; have := h1.1; omega]
    exact find_out V (i + 1) h1.2
theorem mapGet_in {h : Heap} {rm : Nat} {V : List Nat} (hm : h rm = some (.map (mapV V))) {v : Nat} (hv : v ∈ V) {K : AVal → Bool → Prop} (hk : K (.int .i64 1) true) : mapGet (.int .i64 0) h (.mapr rm) (.int .i64 (v : Int)) K := by
  obtain ⟨j, e⟩ := find_in V 0 hv
  unfold mapGet mapGetR entsA
  simp only [hm, e]
  exact hk
theorem mapGet_out {h : Heap} {rm : Nat} {V : List Nat} (hm : h rm = some (.map (mapV V))) {v : Nat} (hv : v ∉ V) {K : AVal → Bool → Prop} (hk : K (.int .i64 0) false) : mapGet (.int .i64 0) h (.mapr rm) (.int .i64 (v : Int)) K := by
  unfold mapGet mapGetR entsA
  simp only [hm, find_out V 0 hv]
  exact hk
theorem mapPut_out {h : Heap} {rm : Nat} {V : List Nat} (hm : h rm = some (.map (mapV V))) {v : Nat} (hv : v ∉ V) {K : Heap → Prop} (hk : K (h.set rm (.map (mapV (V ++ [v]))))) : mapPut h (.mapr rm) (.int .i64 (v : Int)) (.int .i64 1) K := by
  unfold mapPut mapPutR putM
  simp only [hm, find_out V 0 hv]
  simpa [mapV] using hk
theorem Heap.set_self {h : Heap} {r : Nat} {o : AObj} (hr : h r = some o) : h.set r o = h := by
  funext q
  simp only [Heap.set]
  split
  · rename_i e; rw [e, hr]
  · rfl

/- ---- a measure ---- -/
theorem filter_le {α : Type} {p q : α → Bool} : ∀ (l : List α), (∀ x, p x = true → q x = true) → (l.filter p).length ≤ (l.filter q).length
  | [], _ => by simp
  | a :: l, h => by
    have ih := filter_le l h
    by_cases e : p a = true
    · rw [List.filter_cons_of_pos e, List.filter_cons_of_pos (h a e)]
      simp only [List.length_cons]; omega
    · rw [List.filter_cons_of_neg e]
      by_cases e2 : q a = true
      · rw [List.filter_cons_of_pos e2]; simp only [List.length_cons]; omega
      · rw [List.filter_cons_of_neg e2]; exact ih
theorem filter_lt {α : Type} {p q : α → Bool} {x : α} : ∀ (l : List α), (∀ x, p x = true → q x = true) → x ∈ l → q x = true → p x = false → (l.filter p).length < (l.filter q).length
  | [], _, hx, _, _ => by simp at hx
  | a :: l, h, hx, hq, hp => by
    rcases List.mem_cons.1 hx with rfl | hx
    · rw [List.filter_cons_of_neg (by rw [hp]; decide), List.filter_cons_of_pos hq]
      have := filter_le l h
      simp only [List.length_cons]; omega
    · have ih := filter_lt l h hx hq hp
      by_cases e : p a = true
      · rw [List.filter_cons_of_pos e, List.filter_cons_of_pos (h a e)]
        simp only [List.length_cons]; omega
      · rw [List.filter_cons_of_neg e]
        by_cases e2 : q a = true
        · rw [List.filter_cons_of_pos e2]; simp only [List.length_cons]; omega
        · rw [List.filter_cons_of_neg e2]; exact ih
/-- how many are not in yet -/
def outN (n : Nat) (V : List Nat) : Nat := ((List.range n).filter fun x => decide (x ∉ V)).length
theorem outN_le {n : Nat} {V W : List Nat} (h : ∀ x ∈ V, x ∈ W) : outN n W ≤ outN n V := filter_le _ fun x hx => by
  simp only [decide_eq_true_eq] at hx ⊢
  exact fun hv => hx (h x hv)
theorem outN_lt {n : Nat} {V : List Nat} {v : Nat} (hv : v < n) (ho : v ∉ V) : outN n (V ++ [v]) < outN n V :=
  filter_lt (x := v) _ (fun x hx => by
    simp only [decide_eq_true_eq] at hx ⊢
    exact fun h => hx (List.mem_append_left _ h)) (List.mem_range.2 hv) (by simpa using ho) (by simp)

/-- what a climb from v leaves -/
structure ClP (up : List (List Int)) (V : List Nat) (v : Nat) (W : List Nat) : Prop where
  sub : ∀ x ∈ V, x ∈ W
  self : v ∈ W
  lt : ∀ x ∈ W, x < up.length
  reach : ∀ x ∈ W, x ∈ V ∨ Reach up v x
  closed : ∀ x ∈ W, x ∉ V → ∀ y, Step up x y → y ∈ W
/-- .. behind j of the steps up from v -/
structure ClQ (up : List (List Int)) (V : List Nat) (v : Nat) (row : List Int) (j : Nat) (W : List Nat) : Prop where
  sub : ∀ x ∈ V, x ∈ W
  self : v ∈ W
  lt : ∀ x ∈ W, x < up.length
  reach : ∀ x ∈ W, x ∈ V ∨ Reach up v x
  closed : ∀ x ∈ W, x ∉ V → x ≠ v → ∀ y, Step up x y → y ∈ W
  done : ∀ i b, i < j → row[i]? = some b → b.toNat ∈ W
theorem ClQ.next {V W W' : List Nat} {v j : Nat} {row : List Int} {b : Int} (Q : ClQ up V v row j W) (hr : up[v]? = some row) (hb : row[j]? = some b) (h0 : 0 ≤ b) (P : ClP up W b.toNat W') : ClQ up V v row (j + 1) W' where
  sub x hx := P.sub x (Q.sub x hx)
  self := P.sub _ Q.self
  lt := P.lt
  reach x hx := by
    rcases P.reach x hx with h | h
    · exact Q.reach x h
    · exact .inr (Reach.trans (.tail .refl ⟨row, hr, by rw [Int.toNat_of_nonneg h0]; exact List.mem_of_getElem? hb⟩) h)
  closed x hx hV hv y hs := by
    by_cases e : x ∈ W
    · exact P.sub y (Q.closed x e hV hv y hs)
    · exact P.closed x hx e y hs
  done i c hi hc := by
    by_cases e : i = j
    · subst e
      rw [hb] at hc
      cases hc
      exact P.self
    · exact P.sub _ (Q.done i c (by omega) hc)
theorem ClQ.end {V W : List Nat} {v : Nat} {row : List Int} (Q : ClQ up V v row row.length W) (hr : up[v]? = some row) : ClP up V v W where
  sub := Q.sub
  self := Q.self
  lt := Q.lt
  reach := Q.reach
  closed x hx hV y hs := by
    by_cases e : x = v
    · subst e
      obtain ⟨r, hr', hy⟩ := hs
      rw [hr] at hr'
      cases hr'
      obtain ⟨i, hi, e⟩ := List.mem_iff_getElem.1 hy
      have := Q.done i _ hi (List.getElem?_eq_getElem hi)
      rw [e] at this
      simpa using this
    · exact Q.closed x hx hV e y hs

def climbF (mU mV : AVal) (r1 r2 : Nat) : AVal := .func (.func 57) [] [.ptr r1 0 0, .lptr [mU, mV], .ptr r2 0 0]
/-- the memory that a climb meets -/
structure ClH (mU mV : AVal) (r1 r2 rm : Nat) (V : List Nat) (h : Heap) : Prop where
  h1 : h r1 = some (.row 1 [.mapr rm])
  h2 : h r2 = some (.row 1 [climbF mU mV r1 r2])
  hm : h rm = some (.map (mapV V))
  n1 : r1 ≠ rm
  n2 : r2 ≠ rm
theorem ClH.put {r1 r2 rm : Nat} {V : List Nat} {h : Heap} (H : ClH mU mV r1 r2 rm V h) (W : List Nat) : ClH mU mV r1 r2 rm W (h.set rm (.map (mapV W))) :=
  ⟨by rw [Heap.set_ne _ _ H.n1]; exact H.h1, by rw [Heap.set_ne _ _ H.n2]; exact H.h2, Heap.set_same _ _ _, H.n1, H.n2⟩

theorem climb_l1 (hn : up.length ≤ 512) {r1 r2 rm d : Nat} (ih : ∀ (V : List Nat) (v : Nat) (h : Heap) (K : AVal → Heap → Prop), outN up.length V ≤ d → (∀ x ∈ V, x < up.length) → v < up.length → ClH mU mV r1 r2 rm V h →
      (∀ W, ClP up V v W → K (.tuple []) (h.set rm (.map (mapV W)))) → callV prog (climbF mU mV r1 r2) [.int .i64 (v : Int)] h K)
    {V : List Nat} {v : Nat} {row : List Int} {e : AVal} (he : Ints e row) (hrl : row.length ≤ 1048576) (hr : up[v]? = some row) (hrow : ∀ b ∈ row, 0 ≤ b ∧ b < up.length) (hd : outN up.length (V ++ [v]) ≤ d) {h : Heap}
    (good : ∀ W, ClP up V v W → K (.tuple []) (h.set rm (.map (mapV W)))) :
    ∀ k j : Nat, j + k = row.length → ∀ W, ClQ up V v row j W → ClH mU mV r1 r2 rm W (h.set rm (.map (mapV W))) → s57l1 K (k + 1) (.ptr r2 0 0) e (row.length : Int) (j : Int) (h.set rm (.map (mapV W)))
  | 0, j, hj, W, Q, H => by
    unfold s57l1
    obtain rfl : j = row.length := by omega
    exact ifT_neg (by simp) (retG_of (good W (Q.end hr)))
  | k + 1, j, hj, W, Q, H => by
    have hjl : j < row.length := by omega
    have hb := hrow _ (List.getElem_mem hjl)
    unfold s57l1
    refine ifT_pos (by simp; omega) ?_
    rw [he.ix hjl, ld1_lptr, tInt_int, ld1_one H.h2 rfl]
    have hle : outN up.length W ≤ d := Nat.le_trans (outN_le fun x hx => by
      rcases List.mem_append.1 hx with hx | hx
      · exact Q.sub x hx
      · rw [List.mem_singleton.1 hx]; exact Q.self) hd
    have hcast : row[j] = ((row[j].toNat : Nat) : Int) := by omega
    rw [hcast]
    refine ih W row[j].toNat _ _ hle Q.lt (by omega) H fun W' P => ?_
    rw [Heap.set_set]
    refine rg_of (by omega) (by omega) (s57l1_go ?_)
    have H' : ClH mU mV r1 r2 rm W' (h.set rm (.map (mapV W'))) := by
      have := H.put W'
      rwa [Heap.set_set] at this
    exact climb_l1 hn ih he hrl hr hrow hd good k (j + 1) (by omega) W' (Q.next hr (List.getElem?_eq_getElem hjl) hb.1 P) H'

theorem climb_call (hn : up.length ≤ 512) (hU : Intss mU up) (hrl : ∀ r ∈ up, r.length ≤ 1048576) (hi : InR up) {r1 r2 rm : Nat} : ∀ (d : Nat) (V : List Nat) (v : Nat) (h : Heap) (K : AVal → Heap → Prop), outN up.length V ≤ d → (∀ x ∈ V, x < up.length) → v < up.length →
    ClH mU mV r1 r2 rm V h → (∀ W, ClP up V v W → K (.tuple []) (h.set rm (.map (mapV W)))) → callV prog (climbF mU mV r1 r2) [.int .i64 (v : Int)] h K := by
  intro d
  induction d with
  | zero =>
    intro V v h K hd hlt hv H good
    show callG prog 57 ([] ++ [.int .i64 (v : Int)] ++ [.ptr r1 0 0, .lptr [mU, mV], .ptr r2 0 0]) h K
    refine callG_of (s57_ok ?_)
    unfold s57
    have hin : v ∈ V := by
      by_cases e : v ∈ V
      · exact e
      · have := outN_lt hv e
        omega
    rw [ld1_one H.h1 rfl]
    refine mapGet_in H.hm hin ?_
    rw [tInt_int]
    refine ifT_pos rfl (retG_of ?_)
    have := good V ⟨fun x hx => hx, hin, hlt, fun x hx => .inl hx, fun x hx hx' => absurd hx hx'⟩
    rwa [Heap.set_self H.hm] at this
  | succ d ih =>
    intro V v h K hd hlt hv H good
    show callG prog 57 ([] ++ [.int .i64 (v : Int)] ++ [.ptr r1 0 0, .lptr [mU, mV], .ptr r2 0 0]) h K
    refine callG_of (s57_ok ?_)
    unfold s57
    rw [ld1_one H.h1 rfl]
    by_cases hin : v ∈ V
    · refine mapGet_in H.hm hin ?_
      rw [tInt_int]
      refine ifT_pos rfl (retG_of ?_)
      have := good V ⟨fun x hx => hx, hin, hlt, fun x hx => .inl hx, fun x hx hx' => absurd hx hx'⟩
      rwa [Heap.set_self H.hm] at this
    · refine mapGet_out H.hm hin ?_
      rw [tInt_int]
      refine ifT_neg rfl ?_
      rw [ld1_one H.h1 rfl]
      refine mapPut_out H.hm hin ?_
      obtain ⟨e, he, hie⟩ := hU.ix hv
      rw [addOff_lptr]
      simp only [List.drop_zero, ld1_lptr]
      rw [hie, ld1_lptr, he.len]
      have hlt2 := outN_lt hv hin
      refine s57l1_in (up[v].length + 1) ?_
      refine climb_l1 (V := V) (d := d) hn ih he (hrl _ (List.getElem_mem hv)) (List.getElem?_eq_getElem hv) (hi _ (List.getElem_mem hv)) (by omega) good up[v].length 0 (by omega) (V ++ [v]) ⟨fun x hx => List.mem_append_left _ hx, by simp, fun x hx => ?_, fun x hx => ?_, fun x hx h1 h2 => ?_, fun i b hi => absurd hi (by omega)⟩ (H.put _)
      · rcases List.mem_append.1 hx with hx | hx
        · exact hlt x hx
        · rw [List.mem_singleton.1 hx]; exact hv
      · rcases List.mem_append.1 hx with hx | hx
        · exact .inl hx
        · rw [List.mem_singleton.1 hx]; exact .inr .refl
      · rcases List.mem_append.1 hx with hx | hx
        · exact absurd hx h1
        · exact absurd (List.mem_singleton.1 hx) h2

/-- from nothing, a climb finds all that are above -/
theorem ClP.all {v : Nat} {W : List Nat} (P : ClP up [] v W) (x : Nat) : x ∈ W ↔ Reach up v x := by
  constructor
  · intro hx
    rcases P.reach x hx with h | h
    · simp at h
    · exact h
  · intro h
    induction h with
    | refl => exact P.self
    | tail _ hs ih => exact P.closed _ ih (by simp) _ hs
end Go.Proofs.Ytinficcdpggiaaa

namespace Go.Proofs.Ytinficcdpggiaaa
open Go Go.Sym Go.Proofs.Try

variable {K : AVal → Heap → Prop} {h0 : Heap} {up : List (List Int)} {val : List (List ByteArray)} {mU mV : AVal}

noncomputable def aboveL (up : List (List Int)) (a : Nat) : List Nat := (List.range up.length).filter (rb up a)
noncomputable def ordUp (up : List (List Int)) : List (List Int) := (List.range up.length).map fun a => natI (aboveL up a)

theorem Own.ne {hb h : Heap} {os : List Ow} (W : Own hb os h) {i j p q : Nat} {o o' : AObj} (hi : os[i]? = some (.cell p o)) (hj : os[j]? = some (.cell q o')) (hij : i ≠ j) : p ≠ q := fun e => by
  subst e
  exact hij (W.one i j _ _ p hi hj rfl rfl)

theorem st_one {h : Heap} {r es : Nat} {e c : AVal} {K : Heap → Prop} (hr : h r = some (.row es [e])) (ha : e.isAgg = false) (hk : K (h.set r (.row es [c]))) : st true h (.ptr r 0 0) [c] K := st_elem hr rfl ha hk

/-- the rows that are done -/
structure RT (up : List (List Int)) (a : Nat) (R : List AVal) : Prop where
  len : R.length = up.length
  done : ∀ a', a' < a → ∃ e, R[a']? = some e ∧ Ints e (natI (aboveL up a'))
  rest : ∀ a', a' < up.length → a ≤ a' → R[a']? = some .nilsl

theorem reckonM_l2 (hn : up.length ≤ 512) {a : Nat} (ha : a < up.length) {ro r1 r2 rm : Nat} {Wc : List Nat} (hW : ∀ x, x ∈ Wc ↔ Reach up a x) {F : AVal → AVal → Int → Int → Heap → Prop} {N : Int} {fv : AVal}
    (good : ∀ R' h', RT up (a + 1) R' → Own h0 [.cell ro (.row 1 R')] h' → F (.lptr [mU, mV]) (.sl ro 1 0 up.length) N ((a : Int) + 1) h') :
    ∀ d b : Nat, b + d = up.length → ∀ R x h, R.length = up.length → (∀ a', a' < a → ∃ e, R[a']? = some e ∧ Ints e (natI (aboveL up a'))) → (∀ a', a' < up.length → a < a' → R[a']? = some .nilsl) → R[a]? = some x →
      Own h0 [.cell ro (.row 1 R), .slc 1 x ((natI ((List.range b).filter (rb up a))).map (.int .i64)), .cell rm (.map (mapV Wc)), .cell r1 (.row 1 [.mapr rm]), .cell r2 (.row 1 [fv])] h →
      s28l2 K (s28l1_G F) (d + 1) (.lptr [mU, mV]) (.sl ro 1 0 up.length) (a : Int) (.ptr r1 0 0) N (a : Int) (up.length : Int) (b : Int) h
  | 0, b, hd, R, x, h, hl, hdone, hrest, hx, W => by
    obtain rfl : b = up.length := by omega
    unfold s28l2
    refine ifT_neg (by simp) (rg_of (by omega) (by omega) ?_)
    obtain ⟨x', lx, sx⟩ := W.lit (i := 1) rfl (S := nameOf x) (fun _ h => h) (Lits.refl _)
    obtain ⟨h', g, W'⟩ := W.step (nameOf x) [.cell ro (.row 1 (R.set a x'))] (fun n hn => W.new 1 _ n rfl hn) (fun j y' hj => by
      match j, hj with
      | 0, hj =>
        cases hj
        exact ⟨_, rfl, trivial, fun n hn => ⟨hn, fun hm => absurd (W.one 0 1 _ _ n rfl rfl hn hm) (by decide)⟩, .row (Lits.set hx lx)⟩
      | j + 1, hj => simp at hj)
    refine ⟨_, _, h', Lits.refl _, g, rfl, good (R.set a x') h' ⟨by simp [hl], fun a' ha' => ?_, fun a' ha' hle => ?_⟩ W'⟩
    · by_cases e : a' = a
      · subst e
        exact ⟨x', List.getElem?_set_self (by rw [hl]; exact ha), sx⟩
      · rw [List.getElem?_set_ne (Ne.symm e)]
        exact hdone a' (by omega)
    · rw [List.getElem?_set_ne (by omega)]
      exact hrest a' ha' (by omega)
  | d + 1, b, hd, R, x, h, hl, hdone, hrest, hx, W => by
    have hb : b < up.length := by omega
    unfold s28l2
    refine ifT_pos (by simp; omega) ?_
    rw [ld1_one (W.get 3 _ r1 rfl rfl) rfl]
    have hlen : ((natI ((List.range b).filter (rb up a))).map (AVal.int .i64)).length ≤ b := by
      simp only [natI, List.length_map]
      have := List.length_filter_le (rb up a) (List.range b)
      simpa using this
    have hsucc := range_filter_succ (rb up a) b
    by_cases hin : b ∈ Wc
    · have hrb : rb up a b = true := rb_iff.2 ((hW b).1 hin)
      refine mapGet_in (W.get 2 _ rm rfl rfl) hin ?_
      rw [tInt_int]
      have hagg := (W.sc (i := 1) rfl).2.2
      refine ifT_pos rfl (ixS_sl0 ha ?_)
      rw [ld1_ptr (W.get 0 _ ro rfl rfl) hx hagg]
      refine W.app (i := 1) rfl (by omega) (by omega) fun x2 h2 W2 => ixS_sl0 ha (chk_iff.2 ⟨(W2.sc (i := 1) rfl).1, st_elem (W2.get 0 _ ro rfl rfl) hx hagg ?_⟩)
      refine rg_of (by omega) (by omega) (s28l2_go ?_)
      refine reckonM_l2 (r1 := r1) (r2 := r2) (rm := rm) (fv := fv) hn ha hW good d (b + 1) (by omega) (R.set a x2) x2 _ (by simp [hl]) (fun a' ha' => ?_) (fun a' ha' hlt => ?_) (List.getElem?_set_self (by rw [hl]; exact ha)) ?_
      · rw [List.getElem?_set_ne (by omega)]; exact hdone a' ha'
      · rw [List.getElem?_set_ne (by omega)]; exact hrest a' ha' hlt
      · rw [hsucc, if_pos hrb]
        have W3 := W2.put (i := 0) rfl (.row 1 (R.set a x2))
        simpa [natI] using W3
    · have hrb : rb up a b = false := by
        cases e : rb up a b with
        | false => rfl
        | true => exact absurd ((hW b).2 (rb_iff.1 e)) hin
      refine mapGet_out (W.get 2 _ rm rfl rfl) hin ?_
      rw [tInt_int]
      refine ifT_neg rfl (rg_of (by omega) (by omega) (s28l2_go ?_))
      refine reckonM_l2 (r1 := r1) (r2 := r2) (rm := rm) (fv := fv) hn ha hW good d (b + 1) (by omega) R x h hl hdone hrest hx ?_
      rw [hsucc, hrb]
      simpa using W

theorem reckonM_l1 (hn : up.length ≤ 512) (hU : Intss mU up) (hrl : ∀ r ∈ up, r.length ≤ 1048576) (hi : InR up) {ro : Nat} (good : ∀ o, Intss o (ordUp up) → K (.tuple [o, .int .i64 0]) h0) :
    ∀ d a : Nat, a + d = up.length → ∀ R h, RT up a R → Own h0 [.cell ro (.row 1 R)] h → s28l1 K (d + 1) (.lptr [mU, mV]) (.sl ro 1 0 up.length) (up.length : Int) (a : Int) h
  | 0, a, hd, R, h, T, W => by
    obtain rfl : a = up.length := by omega
    unfold s28l1
    refine ifT_neg (by simp) ?_
    refine ⟨fun q => q = ro, .tuple [.lsl 1 R, .int .i64 0], h0, .tuple (.cons (.whole rfl (W.get 0 _ ro rfl rfl) T.len.symm) (.cons (.refl _) .nil)), ⟨fun _ _ => trivial, fun q o hq => ⟨o, W.old q o hq, (fun e => by
      have := W.new 0 _ q rfl e
      rw [this] at hq; cases hq), .refl o⟩⟩, good _ ⟨R, .lsl 1 R, ?_⟩⟩
    have all : ∀ (L : List AVal) (M : List (List Int)), L.length = M.length → (∀ i (h1 : i < L.length) (h2 : i < M.length), Ints L[i] M[i]) → All2 Ints L M := by
      intro L
      induction L with
      | nil => intro M hl _; cases M with
        | nil => exact .nil
        | cons _ _ => simp at hl
      | cons x L ih => intro M hl hg; cases M with
        | nil => simp at hl
        | cons y M => exact .cons (hg 0 (by simp) (by simp)) (ih M (by simpa using hl) (fun i h1 h2 => hg (i + 1) (by simpa using h1) (by simpa using h2)))
    refine all R (ordUp up) (by rw [T.len]; simp [ordUp]) fun i h1 h2 => ?_
    obtain ⟨e, he, hI⟩ := T.done i (by rw [← T.len]; exact h1)
    rw [List.getElem?_eq_getElem h1] at he
    cases he
    simpa [ordUp] using hI
  | d + 1, a, hd, R, h, T, W => by
    have ha : a < up.length := by omega
    unfold s28l1
    refine ifT_pos (by simp; omega) (fun rm hrm _ => newRow_in fun r1 hr1 => ?_)
    have W1 := ((W.newN 1).newC hrm (.map [])).newC hr1 (.row 1 [.nilmap])
    refine st_one (e := .nilmap) (W1.get 3 _ r1 rfl rfl) rfl ?_
    have W2 := W1.put (i := 3) rfl (.row 1 [.mapr rm])
    refine newRow_in fun r2 hr2 => ?_
    have W3 := W2.newC hr2 (.row 1 [.nilfunc])
    refine st_one (e := .nilfunc) (W3.get 4 _ r2 rfl rfl) rfl ?_
    have W4 := W3.put (i := 4) rfl (.row 1 [climbF mU mV r1 r2])
    have e2 := ld1_one (W4.get 4 _ r2 rfl rfl) rfl
    refine Eq.mpr (e2 _) ?_
    have H : ClH mU mV r1 r2 rm [] _ := ⟨W4.get 3 _ r1 rfl rfl, W4.get 4 _ r2 rfl rfl, W4.get 2 _ rm rfl rfl, Own.ne W4 (i := 3) (j := 2) rfl rfl (by decide), Own.ne W4 (i := 4) (j := 2) rfl rfl (by decide)⟩
    refine climb_call hn hU hrl hi _ [] a _ _ (Nat.le_refl _) (by simp) ha H fun Wc P => ?_
    have W5 := W4.put (i := 2) rfl (.map (mapV Wc))
    rw [lenN_sl]
    refine s28l2_in (up.length + 1) ?_
    refine reckonM_l2 (Wc := Wc) hn ha P.all (fun R' h' T' W' => ?_) up.length 0 (by omega) R .nilsl _ T.len (fun a' ha' => T.done a' ha') (fun a' ha' hlt => T.rest a' ha' (by omega)) (T.rest a ha (Nat.le_refl _)) W5
    exact reckonM_l1 hn hU hrl hi good d (a + 1) (by omega) R' h' T' W'

theorem reckonM_ok (S : Small up val) (hU : Intss mU up) (hV : Strss mV val) (bad : ¬ WF up val → K (.tuple [.nilsl, .int .i64 170]) h0) (good : WF up val → ∀ o, Intss o (ordUp up) → K (.tuple [o, .int .i64 0]) h0) : ACalls prog 28 [.agg [mU, mV]] h0 K := by
  refine s28_ok ?_
  unfold s28
  refine callG_of (check_ok S hU hV (fun hW => ?_) (fun hW => ?_))
  · rw [tInt_int]
    exact ifT_pos rfl (retG_of (bad hW))
  · rw [tInt_int]
    refine ifT_neg rfl ?_
    have hmax := hW.max
    rw [hU.len]
    refine mkS_own (by omega) (by omega) fun ro hro => ?_
    rw [lenN_sl]
    refine s28l1_in (up.length + 1) ?_
    exact reckonM_l1 (mV := mV) hmax hU S.row hW.inR (good hW) up.length 0 (by omega) (List.replicate up.length .nilsl) _ ⟨by simp, fun a' ha' => by omega, fun a' ha' _ => by simp [ha']⟩ ((Own.start h0).newC hro _)
end Go.Proofs.Ytinficcdpggiaaa

namespace Go.Proofs.Ytinficcdpggiaaa
open Go Go.Sym Go.Proofs.Try

variable {K : AVal → Heap → Prop} {h h0 : Heap} {up up' : List (List Int)} {val val' : List (List ByteArray)} {mU mV nU nV : AVal}

theorem equal_l1 {a b : AVal} {la lb : List ByteArray} (ha : Strs a la) (hb : Strs b lb) (hl : la.length = lb.length) (hm : la.length ≤ 1073741824) : ∀ d i : Nat, i + d = la.length →
    K (.bool (decide (la.drop i = lb.drop i))) h → s53l1 K (d + 1) a b (la.length : Int) (i : Int) h
  | 0, i, hd, hk => by
    unfold s53l1
    rw [List.drop_eq_nil_of_le (by omega), List.drop_eq_nil_of_le (by omega)] at hk
    exact ifT_neg (by simp; omega) (retG_of (by simpa using hk))
  | d + 1, i, hd, hk => by
    have hi : i < la.length := by omega
    have hi' : i < lb.length := by omega
    unfold s53l1
    refine ifT_pos (by simp; omega) ?_
    rw [ha.ix hi, ld1_lptr, tStr_str, hb.ix hi', ld1_lptr, tStr_str, strEq_dec]
    rw [drop_eq_step hi hi'] at hk
    by_cases he : la[i] = lb[i]
    · refine ifT_neg (by simp [he]) (rg_of (by omega) (by omega) ?_)
      exact s53l1_go (equal_l1 ha hb hl hm d (i + 1) (by omega) (by simpa [he] using hk))
    · exact ifT_pos (by simp [he]) (retG_of (by simpa [he] using hk))
theorem equal_ok {a b : AVal} {la lb : List ByteArray} (ha : Strs a la) (hb : Strs b lb) (hm : la.length ≤ 1073741824) (hk : K (.bool (decide (la = lb))) h) : ACalls prog 53 [a, b] h K := by
  refine s53_ok ?_
  unfold s53
  rw [ha.len, hb.len]
  by_cases hl : la.length = lb.length
  · refine ifT_neg (by simp [hl]) ?_
    rw [ha.len]
    exact s53l1_in (la.length + 1) (equal_l1 ha hb hl hm la.length 0 (by omega) (by simpa using hk))
  · refine ifT_pos (by simp; omega) (retG_of ?_)
    rwa [show decide (la = lb) = false by simp; intro e; exact hl (by rw [e])] at hk

/- ---- a map that counts ---- -/
def mapC (M : List (Int × Int)) : List (AVal × AVal) := M.map fun e => (.int .i64 e.1, .int .i64 e.2)
def findC (c : Int) : List (Int × Int) → Nat → Option (Nat × Int)
  | [], _ => none
  | e :: M, i => if c = e.1 then some (i, e.2) else findC c M (i + 1)
def putC (c v : Int) (M : List (Int × Int)) : List (Int × Int) := match findC c M 0 with
  | some (j, _) => M.set j (c, v)
  | none => M ++ [(c, v)]
theorem findM_mapC (c : Int) : ∀ (M : List (Int × Int)) (i : Nat), findM (.int .i64 c) (mapC M) i = some ((findC c M i).map fun x => (x.1, .int .i64 x.2))
  | [], _ => rfl
  | e :: M, i => by
    show findM (.int .i64 c) ((.int .i64 e.1, .int .i64 e.2) :: mapC M) i = _
    unfold findM keyEq findC
    simp only [decide_true]
    by_cases h : c = e.1
    · rw [if_pos h, show (c == e.1) = true by simpa using h]
      rfl
    · rw [if_neg h, show (c == e.1) = false by simpa using h]
      exact findM_mapC c M (i + 1)
theorem findC_spec (c : Int) : ∀ (M : List (Int × Int)) (i : Nat), (∀ x, findC c M i = some x → ∃ j, x.1 = i + j ∧ M[j]? = some (c, x.2)) ∧ (findC c M i = none → ∀ e ∈ M, e.1 ≠ c)
  | [], _ => ⟨fun x h => by simp [findC] at h, fun _ e h => by simp at h⟩
  | e :: M, i => by
    have ih := findC_spec c M (i + 1)
    unfold findC
    split
    · rename_i h
      refine ⟨fun x hx => ?_, fun hx => by cases hx⟩
      cases hx
      exact ⟨0, rfl, by rw [h]; rfl⟩
    · rename_i h
      refine ⟨fun x hx => ?_, fun hx y hy => ?_⟩
      · obtain ⟨j, h1, h2⟩ := ih.1 x hx
        exact ⟨j + 1, by omega, h2⟩
      · rcases List.mem_cons.1 hy with rfl | hy
        · exact fun e => h e.symm
        · exact ih.2 hx y hy
theorem mapGetC {h : Heap} {rm : Nat} {M : List (Int × Int)} (hm : h rm = some (.map (mapC M))) (c : Int) {K : AVal → Bool → Prop} (hin : ∀ v, (c, v) ∈ M → K (.int .i64 v) true) (hout : (∀ e ∈ M, e.1 ≠ c) → K (.int .i64 0) false) : mapGet (.int .i64 0) h (.mapr rm) (.int .i64 c) K := by
  unfold mapGet mapGetR entsA
  simp only [hm, findM_mapC]
  have hs := findC_spec c M 0
  cases e : findC c M 0 with
  | none => exact hout (hs.2 e)
  | some x =>
    obtain ⟨j, _, h2⟩ := hs.1 x e
    exact hin x.2 (List.mem_of_getElem? h2)
theorem mapPutC {h : Heap} {rm : Nat} {M : List (Int × Int)} (hm : h rm = some (.map (mapC M))) (c v : Int) {K : Heap → Prop} (hk : K (h.set rm (.map (mapC (putC c v M))))) : mapPut h (.mapr rm) (.int .i64 c) (.int .i64 v) K := by
  unfold mapPut mapPutR putM
  simp only [hm, findM_mapC]
  unfold putC at hk
  cases e : findC c M 0 with
  | none => rw [e] at hk; simpa [mapC] using hk
  | some x => rw [e] at hk; simpa [mapC, List.map_set] using hk
theorem putC_keys {c v : Int} {M : List (Int × Int)} (d : Int) : (∃ e ∈ putC c v M, e.1 = d) ↔ (d = c ∨ ∃ e ∈ M, e.1 = d) := by
  have hs := findC_spec c M 0
  unfold putC
  cases e : findC c M 0 with
  | none =>
    simp only [List.mem_append, List.mem_singleton]
    constructor
    · rintro ⟨y, hy | rfl, rfl⟩
      · exact .inr ⟨y, hy, rfl⟩
      · exact .inl rfl
    · rintro (rfl | ⟨y, hy, rfl⟩)
      · exact ⟨_, .inr rfl, rfl⟩
      · exact ⟨y, .inl hy, rfl⟩
  | some x =>
    obtain ⟨j, h1, h2⟩ := hs.1 x e
    have hj : x.1 = j := by omega
    simp only [hj]
    have hlt := (List.getElem?_eq_some_iff.1 h2).1
    constructor
    · rintro ⟨y, hy, rfl⟩
      rcases List.mem_or_eq_of_mem_set hy with hy | rfl
      · exact .inr ⟨y, hy, rfl⟩
      · exact .inl rfl
    · rintro (rfl | ⟨y, hy, rfl⟩)
      · exact ⟨(d, v), List.mem_set hlt _, rfl⟩
      · obtain ⟨i, hi, rfl⟩ := List.mem_iff_getElem.1 hy
        by_cases e : i = j
        · subst e
          refine ⟨(c, v), List.mem_set hlt _, ?_⟩
          rw [List.getElem?_eq_getElem hi] at h2
          rw [Option.some.inj h2]
        · exact ⟨M[i], List.mem_iff_getElem.2 ⟨i, by simpa using hi, by rw [List.getElem_set_ne (Ne.symm e)]⟩, rfl⟩
theorem putC_vals {c v : Int} {M : List (Int × Int)} : ∀ e ∈ putC c v M, e = (c, v) ∨ e ∈ M := by
  intro y hy
  unfold putC at hy
  split at hy
  · rcases List.mem_or_eq_of_mem_set hy with hy | rfl
    · exact .inr hy
    · exact .inl rfl
  · rcases List.mem_append.1 hy with hy | hy
    · exact .inr hy
    · exact .inl (List.mem_singleton.1 hy)

/- ---- the law of the test ---- -/
def gOf (f : List Int) (x : Nat) : Nat := (f.getD x 0).toNat
def IsB (up : List (List Int)) (val : List (List ByteArray)) (up' : List (List Int)) (val' : List (List ByteArray)) (f : List Int) : Prop :=
  ∀ a, a < up.length → val.getD a [] = val'.getD (gOf f a) [] ∧ (∀ b, Reach up a b → Reach up' (gOf f a) (gOf f b)) ∧ ∀ c, Reach up' (gOf f a) c → ∃ b, Reach up a b ∧ gOf f b = c
structure FitF (up up' : List (List Int)) (f : List Int) : Prop where
  len : f.length = up.length
  rng : ∀ w ∈ f, 0 ≤ w ∧ w < up'.length
theorem FitF.get {f : List Int} (F : FitF up up' f) {x : Nat} (hx : x < f.length) : f[x] = ((gOf f x : Nat) : Int) ∧ gOf f x < up'.length := by
  have := F.rng _ (List.getElem_mem hx)
  have e : gOf f x = f[x].toNat := by unfold gOf; rw [List.getD_eq_getElem?_getD, List.getElem?_eq_getElem hx]; rfl
  rw [e]
  omega
theorem mem_aboveL {a x : Nat} (hi : InR up) (ha : a < up.length) : x ∈ aboveL up a ↔ Reach up a x := by
  unfold aboveL
  rw [List.mem_filter, List.mem_range, rb_iff]
  exact ⟨fun h => h.2, fun h => ⟨h.lt hi ha, h⟩⟩
theorem ordUp_get {a : Nat} (ha : a < up.length) : (ordUp up)[a]'(by simpa [ordUp] using ha) = natI (aboveL up a) := by simp [ordUp]
theorem ordUp_len : (ordUp up).length = up.length := by simp [ordUp]
theorem above_len {a : Nat} : (aboveL up a).length ≤ up.length := by
  have := List.length_filter_le (rb up a) (List.range up.length)
  simpa [aboveL] using this

theorem hit_call {rm r2 : Nat} {M : List (Int × Int)} {h : Heap} (hm : h rm = some (.map (mapC M))) (h2 : h r2 = some (.row 1 [.mapr rm])) (hv : ∀ e ∈ M, 1 ≤ e.2) (c : Int) (K : AVal → Heap → Prop) {p : Bool} (hp : p = true ↔ ∀ e ∈ M, e.1 ≠ c) (hk : K (.bool p) h) :
    callV prog (.func (.func 55) [] [.ptr r2 0 0]) [.int .i64 c] h K := by
  show callG prog 55 ([] ++ [.int .i64 c] ++ [.ptr r2 0 0]) h K
  refine callG_of (s55_ok ?_)
  unfold s55
  rw [ld1_one h2 rfl]
  refine mapGetC hm c (fun v hin => ?_) (fun hout => ?_)
  · rw [tInt_int]
    have h1 := hv _ hin
    have : p = false := by
      cases p with
      | false => rfl
      | true => exact absurd rfl (hp.1 rfl _ hin)
    rw [this] at hk
    refine retG_of ?_
    rwa [show (v == 0) = false by simpa using (by simp only at h1; omega : v ≠ 0)]
  · rw [tInt_int]
    rw [hp.2 hout] at hk
    exact retG_of hk

/-- what is known behind j of the worlds above -/
structure HM (f : List Int) (row : List Nat) (j : Nat) (M : List (Int × Int)) : Prop where
  keys : ∀ c : Int, (∃ e ∈ M, e.1 = c) ↔ ∃ (i : Nat) (b : Nat), i < j ∧ row[i]? = some b ∧ ((gOf f b : Nat) : Int) = c
  vals : ∀ e ∈ M, 1 ≤ e.2 ∧ e.2 ≤ j

theorem bounded_l3 (W' : WF up' val') (Wm : WF up val) {f : List Int} (F : FitF up up' f) {vf o p : AVal} (hf : Ints vf f) (hP : Intss p (ordUp up')) {a : Nat} (ha : a < up.length) {e : AVal} (he : Ints e (natI (aboveL up a)))
    (bad : ¬ ((∀ b, Reach up a b → Reach up' (gOf f a) (gOf f b)) ∧ ∀ c, Reach up' (gOf f a) c → ∃ b, Reach up a b ∧ gOf f b = c) → K (.tuple [.bool false, .int .i64 0]) h0) {rm r2 : Nat} {N : Int} {G : AVal → AVal → AVal → AVal → AVal → Int → Int → Heap → Prop} {m n : AVal}
    (next : ((∀ b, Reach up a b → Reach up' (gOf f a) (gOf f b)) ∧ ∀ c, Reach up' (gOf f a) c → ∃ b, Reach up a b ∧ gOf f b = c) → G vf m n o (.lptr [p]) N ((a : Int) + 1) h0) :
    ∀ d j : Nat, j + d = (aboveL up a).length → ∀ M h, HM f (aboveL up a) j M → (∀ (i b : Nat), i < j → (aboveL up a)[i]? = some b → Reach up' (gOf f a) (gOf f b)) → Own h0 [.cell rm (.map (mapC M)), .cell r2 (.row 1 [.mapr rm])] h →
      s25l3 K (s25l2_G G) (d + 1) vf m n o (.lptr [p]) (a : Int) (.ptr r2 0 0) N (a : Int) e ((aboveL up a).length : Int) (j : Int) h
  | 0, j, hd, M, h, HMj, hR, W => by
    obtain rfl : j = (aboveL up a).length := by omega
    have haf : a < f.length := by rw [F.len]; exact ha
    obtain ⟨hfa, hga⟩ := F.get haf
    obtain ⟨e2, he2, hie⟩ := hP.ix (by rw [ordUp_len]; exact hga)
    rw [ordUp_get hga] at he2
    have hmax' := W'.max
    have hal := above_len (up := up') (a := gOf f a)
    have hmaxm := Wm.max
    unfold s25l3
    refine ifT_neg (by simp) ?_
    rw [ld1_lptr, hf.ix haf, ld1_lptr, tInt_int, hfa, hie, ld1_lptr]
    have fwd : ∀ b, Reach up a b → Reach up' (gOf f a) (gOf f b) := fun b hb => by
      obtain ⟨i, hi, e⟩ := List.mem_iff_getElem.1 ((mem_aboveL Wm.inR ha).2 hb)
      exact hR i b hi (by rw [List.getElem?_eq_getElem hi, e])
    have keyR : ∀ c : Nat, (∃ e ∈ M, e.1 = (c : Int)) ↔ ∃ b, Reach up a b ∧ gOf f b = c := fun c => by
      rw [HMj.keys]
      constructor
      · rintro ⟨i, b, hi, hb, e⟩
        exact ⟨b, (mem_aboveL Wm.inR ha).1 (List.mem_of_getElem? hb), by omega⟩
      · rintro ⟨b, hb, rfl⟩
        obtain ⟨i, hi, e⟩ := List.mem_iff_getElem.1 ((mem_aboveL Wm.inR ha).2 hb)
        exact ⟨i, b, hi, by rw [List.getElem?_eq_getElem hi, e], rfl⟩
    refine callG_of (containsFI_ok he2 (by simp [natI]; omega) (p := fun c => decide (∀ e ∈ M, e.1 ≠ c)) (fun c _ K' hk' => hit_call (W.get 0 _ rm rfl rfl) (W.get 1 _ r2 rfl rfl) (fun e he => (HMj.vals e he).1) c K' (by simp) hk') ?_)
    rw [tBool_bool]
    cases hany : (natI (aboveL up' (gOf f a))).any fun c => decide (∀ e ∈ M, e.1 ≠ c) with
    | true =>
      refine ifT_pos rfl (retG_drop W.old (bad fun hh => ?_))
      obtain ⟨c, hc, hc2⟩ := List.any_eq_true.1 hany
      obtain ⟨x, hx, rfl⟩ := mem_natI.1 hc
      have hx' := (mem_aboveL W'.inR hga).1 hx
      obtain ⟨y, hy, hy2⟩ := (keyR x).2 (hh.2 x hx')
      exact (of_decide_eq_true hc2) y hy hy2
    | false =>
      refine ifT_neg rfl (rg_of (by omega) (by omega) ⟨fun _ => False, _, h0, Lits.refl _, GStep.drop W.old, rfl, next ⟨fwd, fun c hc => ?_⟩⟩)
      have hm := List.any_eq_false.1 hany ((c : Nat) : Int) (mem_natI.2 ⟨c, (mem_aboveL W'.inR hga).2 hc, rfl⟩)
      refine (keyR c).1 ?_
      simpa using hm
  | d + 1, j, hd, M, h, HMj, hR, W => by
    have hj : j < (aboveL up a).length := by omega
    have haf : a < f.length := by rw [F.len]; exact ha
    obtain ⟨hfa, hga⟩ := F.get haf
    have hbR := (mem_aboveL Wm.inR ha).1 (List.getElem_mem hj)
    have hbl := hbR.lt Wm.inR ha
    have hbf : (aboveL up a)[j] < f.length := by rw [F.len]; exact hbl
    obtain ⟨hfb, hgb⟩ := F.get hbf
    obtain ⟨e2, he2, hie⟩ := hP.ix (by rw [ordUp_len]; exact hga)
    rw [ordUp_get hga] at he2
    have hmax' := W'.max
    have hmaxm := Wm.max
    have hal := above_len (up := up') (a := gOf f a)
    have halm := above_len (up := up) (a := a)
    unfold s25l3
    refine ifT_pos (by simp; omega) ?_
    rw [he.ix (i := j) (by simpa [natI] using hj), ld1_lptr, tInt_int, ld1_one (W.get 1 _ r2 rfl rfl) rfl]
    have hrow : (natI (aboveL up a))[j]'(by simpa [natI] using hj) = (((aboveL up a)[j] : Nat) : Int) := by simp [natI]
    rw [hrow, hf.ix hbf, ld1_lptr, tInt_int, hfb]
    have go : ∀ v : Int, 0 ≤ v → v ≤ j → rg (v + 1) (mapPut h (.mapr rm) (.int .i64 ((gOf f (aboveL up a)[j] : Nat) : Int)) (.int .i64 (v + 1)) fun h_8 => ld1 h_8 (.lptr [p]) fun v24 => ixS 1 vf (a : Int) fun p11 => ld1 h_8 p11 fun v25 => tInt .i64 v25 fun v26 => ixS 1 v24 v26 fun p12 => ld1 h_8 p12 fun v27 =>
        ixS 1 vf (((aboveL up a)[j] : Nat) : Int) fun p13 => ld1 h_8 p13 fun v28 => tInt .i64 v28 fun v29 => callG prog 54 [v27, (.int .i64 v29)] h_8 fun v30 h_9 => tBool v30 fun v31 => ifT (!v31) (retG (.tuple [(.bool false), (.int .i64 0)]) h_9 K)
          (rg ((j : Int) + 1) (s25l3_G (s25l3 K (s25l2_G G) (d + 1)) vf m n o (.lptr [p]) (a : Int) (.ptr r2 0 0) N (a : Int) e ((aboveL up a).length : Int) ((j : Int) + 1) h_9))) := by
      intro v hv0 hvj
      refine rg_of (by omega) (by omega) (mapPutC (W.get 0 _ rm rfl rfl) _ _ ?_)
      have W2 := W.put (i := 0) rfl (.map (mapC (putC ((gOf f (aboveL up a)[j] : Nat) : Int) (v + 1) M)))
      rw [ld1_lptr, hf.ix haf, ld1_lptr, tInt_int, hfa, hie, ld1_lptr, hf.ix hbf, ld1_lptr, tInt_int, hfb]
      refine callG_of (containsI_ok he2 (by simp [natI]; omega) ?_)
      rw [tBool_bool]
      by_cases hin : Reach up' (gOf f a) (gOf f (aboveL up a)[j])
      · have hin2 : ((gOf f (aboveL up a)[j] : Nat) : Int) ∈ natI (aboveL up' (gOf f a)) := mem_natI.2 ⟨_, (mem_aboveL W'.inR hga).2 hin, rfl⟩
        refine ifT_neg (by simpa using hin2) (rg_of (by omega) (by omega) (s25l3_go ?_))
        refine bounded_l3 W' Wm F hf hP ha he bad next d (j + 1) (by omega) _ _ ⟨fun c => ?_, fun y hy => ?_⟩ (fun i b hi hb => ?_) W2
        · rw [putC_keys, HMj.keys]
          constructor
          · rintro (rfl | ⟨i, b, hi, hb, e⟩)
            · exact ⟨j, _, by omega, List.getElem?_eq_getElem hj, rfl⟩
            · exact ⟨i, b, by omega, hb, e⟩
          · rintro ⟨i, b, hi, hb, e⟩
            by_cases h1 : i = j
            · subst h1
              rw [List.getElem?_eq_getElem hj] at hb
              cases hb
              exact .inl e.symm
            · exact .inr ⟨i, b, by omega, hb, e⟩
        · rcases putC_vals y hy with rfl | hy
          · simp only; omega
          · have := HMj.vals y hy; omega
        · by_cases h1 : i = j
          · subst h1
            rw [List.getElem?_eq_getElem hj] at hb
            cases hb
            exact hin
          · exact hR i b (by omega) hb
      · have hin2 : ((gOf f (aboveL up a)[j] : Nat) : Int) ∉ natI (aboveL up' (gOf f a)) := fun hh => by
          obtain ⟨x, hx, e⟩ := mem_natI.1 hh
          obtain rfl : gOf f (aboveL up a)[j] = x := by omega
          exact hin ((mem_aboveL W'.inR hga).1 hx)
        exact ifT_pos (by simpa using hin2) (retG_drop W2.old (bad fun hh => hin (hh.1 _ hbR)))
    refine mapGetC (W.get 0 _ rm rfl rfl) _ (fun v hin => ?_) (fun _ => ?_)
    · rw [tInt_int]
      have := HMj.vals _ hin
      simp only at this
      exact go v (by omega) (by omega)
    · rw [tInt_int]
      exact go 0 (by omega) (by omega)
end Go.Proofs.Ytinficcdpggiaaa

namespace Go.Proofs.Ytinficcdpggiaaa
open Go Go.Sym Go.Proofs.Try

variable {K : AVal → Heap → Prop} {h h0 : Heap} {up up' : List (List Int)} {val val' : List (List ByteArray)} {mU mV nU nV : AVal}

theorem bounded_l2 (S : Small up val) (hV : Strss mV val) (hV' : Strss nV val') (W' : WF up' val') (Wm : WF up val) {f : List Int} (F : FitF up up' f) {vf o p : AVal} (hf : Ints vf f) (hO : Intss o (ordUp up)) (hP : Intss p (ordUp up'))
    (bad : ¬ IsB up val up' val' f → K (.tuple [.bool false, .int .i64 0]) h0) (good : IsB up val up' val' f → K (.tuple [.bool true, .int .i64 0]) h0) :
    ∀ d a : Nat, a + d = up.length → (∀ a', a' < a → val.getD a' [] = val'.getD (gOf f a') [] ∧ (∀ b, Reach up a' b → Reach up' (gOf f a') (gOf f b)) ∧ ∀ c, Reach up' (gOf f a') c → ∃ b, Reach up a' b ∧ gOf f b = c) →
      s25l2 K (d + 1) vf (.lptr [mU, mV]) (.lptr [nU, nV]) o (.lptr [p]) (up.length : Int) (a : Int) h0
  | 0, a, hd, hk => by
    obtain rfl : a = up.length := by omega
    unfold s25l2
    exact ifT_neg (by simp) (retG_of (good hk))
  | d + 1, a, hd, hk => by
    have ha : a < up.length := by omega
    have hmax := Wm.max
    have haf : a < f.length := by rw [F.len]; exact ha
    obtain ⟨hfa, hga⟩ := F.get haf
    have hav : a < val.length := by rw [Wm.len]; exact ha
    have hgv : gOf f a < val'.length := by rw [W'.len]; exact hga
    obtain ⟨e1, he1, hi1⟩ := hV.ix hav
    obtain ⟨e2, he2, hi2⟩ := hV'.ix hgv
    obtain ⟨e3, he3, hi3⟩ := hO.ix (i := a) (by rw [ordUp_len]; exact ha)
    rw [ordUp_get ha] at he3
    unfold s25l2
    refine ifT_pos (by simp; omega) ?_
    rw [addOff_lptr]
    simp only [List.drop_succ_cons, List.drop_zero, ld1_lptr]
    rw [hi1, ld1_lptr, addOff_lptr]
    simp only [List.drop_succ_cons, List.drop_zero, ld1_lptr]
    rw [hf.ix haf, ld1_lptr, tInt_int, hfa, hi2, ld1_lptr]
    refine callG_of (equal_ok he1 he2 (S.names _ (List.getElem_mem hav)).1.1 ?_)
    rw [tBool_bool]
    by_cases hv : val[a] = val'[gOf f a]
    · refine ifT_neg (by simpa using hv) (fun rm hrm _ => newRow_in fun r2 hr2 => ?_)
      have W1 := ((Own.start h0).newC hrm (.map [])).newC hr2 (.row 1 [.nilmap])
      refine st_one (e := .nilmap) (W1.get 1 _ r2 rfl rfl) rfl ?_
      have W2 := W1.put (i := 1) rfl (.row 1 [.mapr rm])
      rw [hi3, ld1_lptr, he3.len, show (natI (aboveL up a)).length = (aboveL up a).length by simp [natI]]
      refine s25l3_in ((aboveL up a).length + 1) ?_
      refine bounded_l3 W' Wm F hf hP ha he3 (fun hh => bad fun hB => hh (hB a ha).2) (fun hh => s25l2 K (d + 1) vf (.lptr [mU, mV]) (.lptr [nU, nV]) o (.lptr [p]) (up.length : Int) ((a + 1 : Nat) : Int) h0 |> fun _ => ?_) _ 0 (by omega) [] _ ⟨fun c => ?_, fun e he => by simp at he⟩ (fun i b hi => absurd hi (by omega)) W2
      · refine bounded_l2 S hV hV' W' Wm F hf hO hP bad good d (a + 1) (by omega) (fun a' ha' => ?_)
        by_cases e : a' = a
        · subst e
          exact ⟨by rw [getD_val hav, getD_val hgv]; exact hv, hh⟩
        · exact hk a' (by omega)
      · constructor
        · rintro ⟨e, he, _⟩; simp at he
        · rintro ⟨i, b, hi, _⟩; omega
    · refine ifT_pos (by simpa using hv) (retG_of (bad fun hB => hv ?_))
      have := (hB a ha).1
      rwa [getD_val hav, getD_val hgv] at this

theorem out_call {r : Nat} {p : AVal} (hP : Intss p (ordUp up')) {h : Heap} (hr : h r = some (.row 1 [p])) (c : Int) (K : AVal → Heap → Prop) (hk : K (.bool (decide (c < 0) || decide ((up'.length : Int) ≤ c))) h) :
    callV prog (.func (.func 52) [] [.ptr r 0 0]) [.int .i64 c] h K := by
  show callG prog 52 ([] ++ [.int .i64 c] ++ [.ptr r 0 0]) h K
  refine callG_of (s52_ok ?_)
  unfold s52
  by_cases h0 : c < 0
  · exact ifT_pos (decide_eq_true h0) (retG_of (by simpa [h0] using hk))
  · refine ifT_neg (decide_eq_false h0) ?_
    have hp : p.isAgg = false := by
      obtain ⟨l, h1, _⟩ := hP
      rcases h1 with rfl | ⟨rfl, _⟩ <;> rfl
    rw [ld1_one hr hp, hP.len, ordUp_len]
    exact retG_of (by simpa [h0] using hk)

theorem intss_sc {v : AVal} {l : List (List Int)} (h : Intss v l) : Go.Sym.sc v = true ∧ v.isAgg = false := by
  obtain ⟨L, h1, _⟩ := h
  rcases h1 with rfl | ⟨rfl, _⟩ <;> exact ⟨rfl, rfl⟩

open Classical in
theorem bounded_ok (S : Small up val) (hU : Intss mU up) (hV : Strss mV val) (S' : Small up' val') (hU' : Intss nU up') (hV' : Strss nV val') {vf : AVal} {f : List Int} (hf : Ints vf f) (hfl : f.length ≤ 1048576)
    (badM : ¬ WF up val → K (.tuple [.bool false, .int .i64 170]) h0) (badN : WF up val → ¬ WF up' val' → K (.tuple [.bool false, .int .i64 170]) h0) (badF : WF up val → WF up' val' → ¬ FitF up up' f → K (.tuple [.bool false, .int .i64 190]) h0)
    (good : WF up val → WF up' val' → FitF up up' f → K (.tuple [.bool (decide (IsB up val up' val' f)), .int .i64 0]) h0) : ACalls prog 25 [.agg [mU, mV], .agg [nU, nV], vf] h0 K := by
  refine s25_ok ?_
  unfold s25
  refine callG_of (reckonM_ok S hU hV (fun hW => ?_) (fun Wm o hO => ?_))
  · simp only [tTup_tuple, tCons_cons, tInt_int, tNil_nil]
    exact ifT_pos rfl (retG_of (badM hW))
  · simp only [tTup_tuple, tCons_cons, tInt_int, tNil_nil]
    refine ifT_neg rfl (callG_of (reckonM_ok S' hU' hV' (fun hW => ?_) (fun W' p hP => ?_)))
    · simp only [tTup_tuple, tCons_cons, tInt_int, tNil_nil]
      refine newRow_in fun r hr => chk_iff.2 ⟨rfl, st_one (e := .nilsl) (Heap.set_same _ _ _) rfl (ifT_pos rfl ?_)⟩
      rw [Heap.set_set]
      exact retG_drop (Heap.set_sub hr) (badN Wm hW)
    · simp only [tTup_tuple, tCons_cons, tInt_int, tNil_nil]
      refine newRow_in fun r hr => chk_iff.2 ⟨(intss_sc hP).1, st_one (e := .nilsl) (Heap.set_same _ _ _) rfl (ifT_neg rfl ?_)⟩
      rw [Heap.set_set, hf.len, hO.len, ordUp_len]
      by_cases hl : f.length = up.length
      · refine ifT_neg (by simp [hl]) ?_
        refine callG_of (containsFI_ok hf (by omega) (p := fun c => decide (c < 0) || decide ((up'.length : Int) ≤ c)) (fun c _ K' hk' => out_call hP (Heap.set_same _ _ _) c K' hk') ?_)
        rw [tBool_bool]
        cases hany : f.any fun c => decide (c < 0) || decide ((up'.length : Int) ≤ c) with
        | true =>
          refine ifT_pos rfl (retG_drop (Heap.set_sub hr) (badF Wm W' fun F => ?_))
          obtain ⟨c, hc, hc2⟩ := List.any_eq_true.1 hany
          have := F.rng c hc
          simp only [Bool.or_eq_true, decide_eq_true_eq] at hc2
          omega
        | false =>
          have F : FitF up up' f := ⟨hl, fun w hw => by
            have := List.any_eq_false.1 hany w hw
            simp only [Bool.or_eq_true, decide_eq_true_eq] at this
            omega⟩
          refine ifT_neg rfl ?_
          rw [hO.len, ordUp_len]
          refine ⟨fun q => q = r, [vf, .lptr [mU, mV], .lptr [nU, nV], o, .lptr [p], .int .i64 (up.length : Int), .int .i64 0], h0, .cons (.refl _) (.cons (.refl _) (.cons (.refl _) (.cons (.refl _) (.cons (.ptr rfl (Heap.set_same _ _ _) rfl ?_) (Lits.refl _))))), ⟨fun _ _ => trivial, fun q o hq => ⟨o, Heap.set_sub hr q o hq, (fun e => by rw [e, hr] at hq; cases hq), .refl o⟩⟩, rfl, up.length + 1, ?_⟩
          · rw [cells_of_notAgg (intss_sc hP).2]
            exact Lits.refl _
          · refine bounded_l2 S hV hV' W' Wm F hf hO hP (fun hB => ?_) (fun hB => ?_) up.length 0 (by omega) (by intro a' ha'; omega)
            · have := good Wm W' F
              rwa [decide_eq_false hB] at this
            · have := good Wm W' F
              rwa [decide_eq_true hB] at this
      · exact ifT_pos (by simp; omega) (ifT_pos rfl (retG_drop (Heap.set_sub hr) (badF Wm W' fun F => hl F.len)))
end Go.Proofs.Ytinficcdpggiaaa

namespace Go.Proofs.Ytinficcdpggiaaa
open Go Go.Sym Go.Proofs.Try

variable {K : AVal → Heap → Prop} {h h0 : Heap}

structure Nd where
  k : Int
  s : ByteArray
  l : Int
  r : Int
def nodeC (x : Nd) : List AVal := [.int .i64 x.k, .str x.s, .int .i64 x.l, .int .i64 x.r]
def nodeV (x : Nd) : AVal := .agg (nodeC x)
def Nodes (v : AVal) (xs : List Nd) : Prop := SlOf 4 v (xs.map nodeV)
/-- a right node at place i -/
def NdOK (i : Nat) (x : Nd) : Prop := x.k = 1 ∨ x.k = 2 ∨ ((x.k = 3 ∨ x.k = 4 ∨ x.k = 5) ∧ (0 ≤ x.l ∧ x.l < i) ∧ 0 ≤ x.r ∧ x.r < i)
structure TabOK (xs : List Nd) : Prop where
  len : xs.length ≤ 1024
  ok : ∀ i x, xs[i]? = some x → NdOK i x
theorem Nodes.len {v : AVal} {xs : List Nd} (h : Nodes v xs) (K : Int → Prop) : lenN v K = K xs.length := by rw [lenN_of h]; simp
theorem Nodes.ix {v : AVal} {xs : List Nd} (h : Nodes v xs) {i : Nat} (hi : i < xs.length) (K : AVal → Prop) : ixS 4 v (i : Int) K = K (.lptr (nodeC xs[i])) := by
  rw [ixS_nat h (i := i) (e := nodeV xs[i]) (by simp [hi])]
  rfl
theorem ldN_node (h : Heap) (x : Nd) (K : List AVal → Prop) : ldN 4 h (.lptr (nodeC x)) K = K (nodeC x) := ldN_lptr 4 h _ K (by simp [nodeC])
theorem nilCheck_ptr (r i o : Nat) (K : AVal → Prop) : nilCheckA (.ptr r i o) K = K (.ptr r i o) := rfl
theorem nilCheck_lptr (l : List AVal) (K : AVal → Prop) : nilCheckA (.lptr l) K = K (.lptr l) := rfl
theorem ldN_elem {h : Heap} {r i n es : Nat} {elems cs : List AVal} (hr : h r = some (.row es elems)) (he : elems[i]? = some (.agg cs)) (hn : n = cs.length) (K : List AVal → Prop) : ldN n h (.ptr r i 0) K = K cs := by
  subst hn
  unfold ldN ldCells
  simp only [hr, he, cellsOf_agg, List.drop_zero, List.take_length]
  rw [Nat.ble_eq_true_of_le (Nat.le_refl _)]
  rfl

theorem eqNode (x y : Nd) : eqT prog 8 115 (nodeV x) (nodeV y) = some ((x.k == y.k) && (strEq x.s y.s && ((x.l == y.l) && ((x.r == y.r) && true)))) := by kernel_rfl
theorem eqNodeG : prog.eqGuardType prog.depth 115 = false := by kernel_rfl
theorem eqNodeQ (x y : Nd) {K : Bool → Prop} (hk : ∀ b, K b) : eqQ prog 115 (nodeV x) (nodeV y) K := by
  refine ⟨eqNodeG, ?_⟩
  rw [eqNode]
  exact hk _

/-- the table's memory -/
abbrev OT (h0 : Heap) (rt : Nat) (vN : AVal) (xs : List Nd) (h : Heap) : Prop := Own h0 [.slc 4 vN (xs.map nodeV), .cell rt (.row 1 [.agg [vN]])] h
theorem OT.ld {rt : Nat} {vN : AVal} {xs : List Nd} (W : OT h0 rt vN xs h) (K : AVal → Prop) : ld1 h (.ptr rt 0 0) K = K vN := ld1_fld (W.get 1 _ rt rfl rfl) rfl K

theorem has_ok {rt : Nat} {vN : AVal} {xs : List Nd} (W : OT h0 rt vN xs h) (hx : xs.length ≤ 1024) (i : Int) (hk : K (.bool (decide (0 ≤ i) && decide (i < xs.length))) h) : ACalls prog 84 [.ptr rt 0 0, .int .i64 i] h K := by
  refine s84_ok ?_
  unfold s84
  by_cases h0 : 0 ≤ i
  · refine ifT_pos (decide_eq_true h0) ?_
    rw [nilCheck_ptr, addOff_ptr, W.ld, W.len (i := 0) rfl, List.length_map]
    exact retG_of (by simpa [h0] using hk)
  · exact ifT_neg (decide_eq_false h0) (retG_of (by simpa [h0] using hk))

theorem find_l1 {rt : Nat} {vN : AVal} {xs : List Nd} (W : OT h0 rt vN xs h) (hx : xs.length ≤ 1024) (y : Nd) (yes : ∀ i : Nat, i < xs.length → K (.tuple [.int .i64 i, .bool true]) h) (no : K (.tuple [.int .i64 0, .bool false]) h) :
    ∀ d i : Nat, i + d = xs.length → s85l1 K (d + 1) (.ptr rt 0 0) (.lptr (nodeC y)) (i : Int) h
  | 0, i, hd => by
    unfold s85l1
    rw [nilCheck_ptr, addOff_ptr, W.ld, W.len (i := 0) rfl, List.length_map]
    exact ifT_neg (by simp; omega) (retG_of no)
  | d + 1, i, hd => by
    have hi : i < xs.length := by omega
    unfold s85l1
    rw [nilCheck_ptr, addOff_ptr, W.ld, W.len (i := 0) rfl, List.length_map]
    refine ifT_pos (by simp; omega) ?_
    rw [nilCheck_ptr, addOff_ptr, W.ld]
    rcases W.fit 0 _ rfl with ⟨rfl, e⟩ | ⟨rN, e⟩
    · have := congrArg List.length e
      rw [List.length_map, List.length_nil] at this
      omega
    · subst e
      refine ixS_sl0 (by simpa using hi) ?_
      rw [ldN_elem (n := 4) (i := i) (cs := nodeC xs[i]) (W.get 0 _ rN rfl rfl) (by rw [List.getElem?_map, List.getElem?_eq_getElem hi]; rfl) rfl]
      simp only [nodeC, tCons_cons, tInt_int, tStr_str, tNil_nil]
      have e1 := ldN_node h y
      simp only [nodeC] at e1
      rw [e1]
      simp only [nodeC, tCons_cons, tInt_int, tStr_str, tNil_nil]
      refine eqNodeQ xs[i] y fun b => ?_
      cases b with
      | true => exact ifT_pos rfl (retG_of (yes i hi))
      | false => exact ifT_neg rfl (rg_of (by omega) (by omega) (s85l1_go (find_l1 W hx y yes no d (i + 1) (by omega))))
theorem find_ok {rt : Nat} {vN : AVal} {xs : List Nd} (W : OT h0 rt vN xs h) (hx : xs.length ≤ 1024) (y : Nd) (yes : ∀ i : Nat, i < xs.length → K (.tuple [.int .i64 i, .bool true]) h) (no : K (.tuple [.int .i64 0, .bool false]) h) :
    ACalls prog 85 [.ptr rt 0 0, nodeV y] h K :=
  s85_ok (s85l1_in (xs.length + 1) (find_l1 W hx y yes no xs.length 0 (by omega)))

theorem put_c1 {rt : Nat} {vN : AVal} {xs : List Nd} (W : OT h0 rt vN xs h) (hx : xs.length ≤ 1024) (y : Nd) (same : ∀ i e : Int, (e = 0 → i ≠ xs.length) → K (.tuple [.int .i64 i, .int .i64 e]) h)
    (app : xs.length < 1024 → ∀ v' h', OT h0 rt v' (xs ++ [y]) h' → K (.tuple [.int .i64 (xs.length : Int), .int .i64 0]) h') : s78c1 K (.ptr rt 0 0) (.lptr (nodeC y)) h := by
  unfold s78c1
  rw [ldN_node]
  simp only [nodeC, tCons_cons, tInt_int, tStr_str, tNil_nil]
  refine callG_of (find_ok W hx y (fun i hi => ?_) ?_)
  · simp only [tTup_tuple, tCons_cons, tInt_int, tBool_bool, tNil_nil]
    exact ifT_pos rfl (retG_of (same i 0 fun _ => by omega))
  · simp only [tTup_tuple, tCons_cons, tInt_int, tBool_bool, tNil_nil]
    refine ifT_neg rfl ?_
    rw [nilCheck_ptr, addOff_ptr, W.ld, W.len (i := 0) rfl, List.length_map]
    by_cases hl : xs.length < 1024
    · refine ifT_neg (decide_eq_false (by omega)) ?_
      rw [nilCheck_ptr, addOff_ptr, W.ld]
      have e0 := ldN_node h y
      simp only [nodeC] at e0
      rw [e0]
      simp only [tCons_cons, tInt_int, tStr_str, tNil_nil]
      refine ⟨by rw [W.ld], W.app (i := 0) rfl (by simp; omega) (by simp; omega) fun v' h' W2 => ?_⟩
      rw [nilCheck_ptr, addOff_ptr]
      refine chk_iff.2 ⟨(W2.sc (i := 0) rfl).1, st_fld (W2.get 1 _ rt rfl rfl) (by simp) ?_⟩
      have W3 := W2.put (i := 1) rfl (.row 1 [.agg [v']])
      have W4 : OT h0 rt v' (xs ++ [y]) (h'.set rt (.row 1 [.agg [v']])) := by
        unfold OT
        rw [List.map_append]
        exact W3
      rw [nilCheck_ptr, addOff_ptr]
      refine Eq.mpr (W4.ld _) ?_
      rw [W4.len (i := 0) rfl]
      simp only [List.length_map, List.length_append, List.length_singleton]
      refine rg_of (by omega) (by omega) (retG_of ?_)
      have := app hl v' _ W4
      rwa [show ((xs.length + 1 : Nat) : Int) - 1 = (xs.length : Int) by omega]
    · exact ifT_pos (decide_eq_true (by omega)) (retG_of (same 0 30 fun e => absurd e (by decide)))

theorem put_ok {rt : Nat} {vN : AVal} {xs : List Nd} (W : OT h0 rt vN xs h) (hx : xs.length ≤ 1024) (y : Nd) (same : ∀ i e : Int, (e = 0 → i ≠ xs.length) → K (.tuple [.int .i64 i, .int .i64 e]) h)
    (app : xs.length < 1024 → NdOK xs.length y → ∀ v' h', OT h0 rt v' (xs ++ [y]) h' → K (.tuple [.int .i64 (xs.length : Int), .int .i64 0]) h') : ACalls prog 78 [.ptr rt 0 0, nodeV y] h K := by
  have bad : retG (.tuple [.int .i64 0, .int .i64 31]) h K := retG_of (same 0 31 fun e => absurd e (by decide))
  obtain ⟨k, s, l, r⟩ := y
  refine s78_ok ?_
  unfold s78
  have c5 : ∀ t : Bool, (t = false → NdOK xs.length ⟨k, s, l, r⟩) → s78c5 K (.ptr rt 0 0) (.lptr (nodeC ⟨k, s, l, r⟩)) t h := by
    intro t ht
    cases t with
    | true => exact ifT_pos rfl bad
    | false => exact ifT_neg rfl (put_c1 W hx _ same fun h1 => app h1 (ht rfl))
  have c4 : (k = 3 ∨ k = 4 ∨ k = 5) → s78c4 K (.ptr rt 0 0) (.lptr (nodeC ⟨k, s, l, r⟩)) true h := by
    intro hk
    refine ifT_pos rfl ?_
    simp only [nodeC, addOff_lptr, List.drop_succ_cons, List.drop_zero, ld1_lptr, tStr_str, tInt_int]
    cases strEq s (ByteArray.mk #[]) with
    | false => exact ifT_pos rfl (c5 true fun e => by cases e)
    | true =>
      refine ifT_neg rfl (callG_of (has_ok W hx l ?_))
      rw [tBool_bool]
      by_cases hl : 0 ≤ l ∧ l < xs.length
      · refine ifT_neg (by simp [hl]) (callG_of (has_ok W hx r ?_))
        rw [tBool_bool]
        refine c5 _ fun e => ?_
        have : 0 ≤ r ∧ r < xs.length := by simpa using e
        exact .inr (.inr ⟨hk, hl, this⟩)
      · refine ifT_pos ?_ (c5 true fun e => by cases e)
        cases h1 : decide (0 ≤ l) <;> cases h2 : decide (l < (xs.length : Int)) <;> first | rfl | skip
        exact absurd ⟨of_decide_eq_true h1, of_decide_eq_true h2⟩ hl
  by_cases k1 : k = 1
  · subst k1
    have c2 : ∀ t : Bool, s78c2 K (.ptr rt 0 0) (.lptr (nodeC ⟨1, s, l, r⟩)) t h := by
      intro t
      cases t with
      | true => exact ifT_pos rfl bad
      | false =>
        refine ifT_neg rfl ?_
        simp only [nodeC, addOff_lptr, List.drop_succ_cons, List.drop_zero, ld1_lptr, tStr_str]
        refine callG_of (word3_ok _ ?_)
        rw [tBool_bool]
        cases wordB s with
        | false => exact ifT_pos rfl (retG_of (same 0 32 fun e => absurd e (by decide)))
        | true => exact ifT_neg rfl (put_c1 W hx _ same fun h1 => app h1 (.inl rfl))
    refine ifT_pos rfl ?_
    by_cases hl : l = 0
    · exact ifT_neg (by simp [hl]) (c2 _)
    · exact ifT_pos (by simpa using hl) (c2 _)
  · refine ifT_neg (by simpa using k1) ?_
    by_cases k2 : k = 2
    · subst k2
      have c3 : ∀ t : Bool, s78c3 K (.ptr rt 0 0) (.lptr (nodeC ⟨2, s, l, r⟩)) t h := by
        intro t
        cases t with
        | true => exact ifT_pos rfl bad
        | false => exact ifT_neg rfl (put_c1 W hx _ same fun h1 => app h1 (.inr (.inl rfl)))
      refine ifT_pos rfl ?_
      cases strEq s (ByteArray.mk #[]) with
      | false => exact ifT_pos rfl (c3 _)
      | true =>
        refine ifT_neg rfl ?_
        by_cases hl : l = 0
        · exact ifT_neg (by simp [hl]) (c3 _)
        · exact ifT_pos (by simpa using hl) (c3 _)
    · refine ifT_neg (by simpa using k2) ?_
      by_cases k3 : k = 3
      · refine ifT_pos (by simpa using k3) ?_
        rw [show (k == 3) = true by simpa using k3]
        exact c4 (.inl k3)
      · refine ifT_neg (by simpa using k3) ?_
        by_cases k4 : k = 4
        · refine ifT_pos (by simpa using k4) ?_
          rw [show (k == 4) = true by simpa using k4]
          exact c4 (.inr (.inl k4))
        · refine ifT_neg (by simpa using k4) ?_
          by_cases k5 : k = 5
          · rw [show (k == 5) = true by simpa using k5]
            exact c4 (.inr (.inr k5))
          · rw [show (k == 5) = false by simpa using k5]
            exact ifT_neg rfl bad

theorem from_l1 {rt : Nat} {v : AVal} {xs : List Nd} (hv : Nodes v xs) (hxs : xs.length ≤ 1048576) (bad : ∀ e : Int, e ≠ 0 → K (.tuple [.nilptr, .int .i64 e]) h0) (good : TabOK xs → ∀ v, Nodes v xs → K (.tuple [.lptr [v], .int .i64 0]) h0) :
    ∀ d i : Nat, i + d = xs.length → i ≤ 1024 → (∀ j x, (xs.take i)[j]? = some x → NdOK j x) → ∀ vN h, OT h0 rt vN (xs.take i) h → s50l1 K (d + 1) v (.ptr rt 0 0) (i : Int) h
  | 0, i, hd, hi, hok, vN, h, W => by
    unfold s50l1
    rw [hv.len]
    refine ifT_neg (by simp; omega) ?_
    rw [List.take_of_length_le (by omega)] at hok W
    let S : Nat → Prop := fun n => nameOf vN n ∨ n = rt
    obtain ⟨v', l1, s1⟩ := W.lit (i := 0) rfl (S := S) (fun n h => .inl h) (Lits.refl _)
    refine ⟨S, .tuple [.lptr [v'], .int .i64 0], h0, .tuple (.cons (.ptr (.inr rfl) (W.get 1 _ rt rfl rfl) rfl (.cons l1 .nil)) (.cons (.refl _) .nil)), ⟨fun _ _ => trivial, fun q o hq => ⟨o, W.old q o hq, (fun hs => ?_), .refl o⟩⟩, good ⟨by omega, hok⟩ v' s1⟩
    rcases hs with hs | rfl
    · rw [W.new 0 _ q rfl hs] at hq; cases hq
    · rw [W.new 1 _ q rfl rfl] at hq; cases hq
  | d + 1, i, hd, hi, hok, vN, h, W => by
    have hil : i < xs.length := by omega
    have htl : (xs.take i).length = i := by rw [List.length_take]; omega
    unfold s50l1
    rw [hv.len]
    refine ifT_pos (by simp; omega) ?_
    rw [hv.ix hil, ldN_node]
    simp only [nodeC, tCons_cons, tInt_int, tStr_str, tNil_nil]
    refine callG_of (put_ok W (by omega) xs[i] (fun k e hke => ?_) (fun hlt hn v' h' W2 => ?_))
    · simp only [tTup_tuple, tCons_cons, tInt_int, tNil_nil]
      by_cases he : e = 0
      · refine ifT_neg (by simp [he]) (ifT_pos ?_ (retG_drop W.old (bad 31 (by decide))))
        have := hke he
        rw [htl] at this
        simpa using this
      · exact ifT_pos (by simpa using he) (retG_drop W.old (bad e he))
    · simp only [tTup_tuple, tCons_cons, tInt_int, tNil_nil]
      rw [htl] at hlt hn
      refine ifT_neg rfl (ifT_neg (by simp [htl]) (rg_of (by omega) (by omega) (s50l1_go ?_)))
      have e1 : xs.take (i + 1) = xs.take i ++ [xs[i]] := List.take_succ_eq_append_getElem hil
      refine from_l1 hv hxs bad good d (i + 1) (by omega) (by omega) (fun j x hj => ?_) v' h' (by rw [e1]; exact W2)
      rw [e1, List.getElem?_append] at hj
      split at hj
      · exact hok j x hj
      · rename_i h2
        have h3 := (List.getElem?_eq_some_iff.1 hj).1
        simp only [List.length_singleton] at h3
        obtain rfl : j = i := by omega
        rw [htl] at hj
        simp at hj
        rw [← hj]
        exact hn
theorem from_ok {v : AVal} {xs : List Nd} (hv : Nodes v xs) (hxs : xs.length ≤ 1048576) (bad : ∀ e : Int, e ≠ 0 → K (.tuple [.nilptr, .int .i64 e]) h0) (good : TabOK xs → ∀ v, Nodes v xs → K (.tuple [.lptr [v], .int .i64 0]) h0) :
    ACalls prog 50 [v] h0 K := by
  refine s50_ok (newRow_in fun rt hrt => s50l1_in (xs.length + 1) (from_l1 hv hxs bad good xs.length 0 (by omega) (by omega) (by simp) .nilsl _ ?_))
  exact ((Own.start h0).newN 4).newC hrt (.row 1 [.agg [.nilsl]])
theorem rowsOf_ok {v : AVal} {xs : List Nd} (hv : Nodes v xs) (hxs : xs.length ≤ 1048576) (good : ∀ v' xs', Nodes v' xs' → TabOK xs' → K v' h0) : ACalls prog 24 [v] h0 K := by
  refine s24_ok (callG_of (from_ok hv hxs (fun e he => ?_) (fun T v' hv' => ?_)))
  · simp only [tTup_tuple, tCons_cons, tInt_int, tNil_nil]
    exact ifT_pos (by simpa using he) (retG_of (good .nilsl [] (.nil 4) ⟨by simp, by simp⟩))
  · simp only [tTup_tuple, tCons_cons, tInt_int, tNil_nil]
    refine ifT_neg rfl ?_
    rw [nilCheck_lptr, addOff_lptr]
    simp only [List.drop_zero, ld1_lptr]
    exact retG_of (good v' xs hv' T)
end Go.Proofs.Ytinficcdpggiaaa

namespace Go.Proofs.Ytinficcdpggiaaa
open Go Go.Sym Go.Proofs.Try

variable {K : AVal → Heap → Prop} {h h0 : Heap} {up up' : List (List Int)} {val val' : List (List ByteArray)} {mU mV nU nV : AVal}

/-- where a node is forced, if its parts are forced as T says -/
noncomputable def fRow (up : List (List Int)) (val : List (List ByteArray)) (T : Nat → Nat → Bool) (x : Nd) (a : Nat) : Bool :=
  if x.k = 1 then inS (val.getD a []) x.s
  else if x.k = 3 then T x.l.toNat a && T x.r.toNat a
  else if x.k = 4 then T x.l.toNat a || T x.r.toNat a
  else if x.k = 5 then (List.range up.length).all fun b => !(rb up a b && (T x.l.toNat b && !T x.r.toNat b))
  else false
noncomputable def fT (up : List (List Int)) (val : List (List ByteArray)) (xs : List Nd) : Nat → Nat → Nat → Bool
  | 0 => fun _ _ => false
  | i + 1 => fun j a => if j = i then (match xs[i]? with | some x => fRow up val (fT up val xs i) x a | none => false) else fT up val xs i j a
/-- a table of truth values -/
def BTab (v : AVal) (T : Nat → Nat → Bool) (m n : Nat) : Prop := ∃ rows, SlOf 1 v rows ∧ rows.length = m ∧ ∀ i, i < m → ∃ e, rows[i]? = some e ∧ e.isAgg = false ∧ SlOf 1 e ((List.range n).map fun a => .bool (T i a))
theorem bool_row {e : AVal} {n : Nat} {g : Nat → Bool} (he : SlOf 1 e ((List.range n).map fun a => .bool (g a))) {a : Nat} (ha : a < n) (K : AVal → Prop) {h : Heap} : (ixS 1 e (a : Int) fun p => ld1 h p K) = K (.bool (g a)) := by
  rw [ixS_nat he (i := a) (e := .bool (g a)) (by simp [ha])]
  rfl
theorem BTab.row {v : AVal} {T : Nat → Nat → Bool} {m n : Nat} (B : BTab v T m n) {i : Nat} (hi : i < m) {h : Heap} : ∃ e, (∀ K : AVal → Prop, (ixS 1 v (i : Int) fun p => ld1 h p K) = K e) ∧ SlOf 1 e ((List.range n).map fun a => .bool (T i a)) := by
  obtain ⟨rows, h1, h2, h3⟩ := B
  obtain ⟨e, he, ha, hs⟩ := h3 i hi
  refine ⟨e, fun K => ?_, hs⟩
  rw [ixS_nat h1 he, cells_of_notAgg ha]
  rfl

structure MK (n : Nat) (g : Nat → Bool) (a : Nat) (marks : List Bool) : Prop where
  len : marks.length = n
  done : ∀ a', a' < a → marks[a']? = some (g a')
  rest : ∀ a', a ≤ a' → a' < n → marks[a']? = some false
theorem MK.next {n : Nat} {g : Nat → Bool} {a : Nat} {marks : List Bool} (M : MK n g a marks) (ha : a < n) : MK n g (a + 1) (marks.set a (g a)) where
  len := by rw [List.length_set]; exact M.len
  done a' h := by
    by_cases e : a' = a
    · subst e; exact List.getElem?_set_self (by rw [M.len]; exact ha)
    · rw [List.getElem?_set_ne (Ne.symm e)]; exact M.done a' (by omega)
  rest a' h1 h2 := by rw [List.getElem?_set_ne (by omega)]; exact M.rest a' (by omega) h2
theorem MK.all {n : Nat} {g : Nat → Bool} {marks : List Bool} (M : MK n g n marks) : marks.map AVal.bool = (List.range n).map fun a => .bool (g a) := by
  apply List.ext_getElem?
  intro i
  by_cases hi : i < n
  · simp [M.done i hi, hi]
  · rw [List.getElem?_eq_none (by rw [List.length_map, M.len]; omega), List.getElem?_eq_none (by simp; omega)]

/-- the table's memory -/
abbrev FS (h0 : Heap) (ro : Nat) (R : List AVal) (ra : Nat) (marks : List Bool) (h : Heap) : Prop := Own h0 [.cell ro (.row 1 R), .cell ra (.row 1 (marks.map .bool))] h
section
variable {ro ra N n i a : Nat} {R : List AVal} {marks : List Bool}
theorem FS.rdO (W : FS h0 ro R ra marks h) (hN : R.length = N) {j : Nat} {e : AVal} (hj : R[j]? = some e) (ha : e.isAgg = false) {K : AVal → Prop} (hk : K e) : ixS 1 (.sl ro 1 0 N) (j : Int) fun p => ld1 h p K := by
  refine ixS_sl0 (by rw [← hN]; exact (List.getElem?_eq_some_iff.1 hj).1) ?_
  rw [ld1_ptr (W.get 0 _ ro rfl rfl) hj ha]
  exact hk
theorem FS.rdI (W : FS h0 ro R ra marks h) (hN : R.length = N) {k : Int} {e : AVal} (h1 : 0 ≤ k) (hj : R[k.toNat]? = some e) (ha : e.isAgg = false) {K : AVal → Prop} (hk : K e) : ixS 1 (.sl ro 1 0 N) k fun p => ld1 h p K := by
  have := FS.rdO W hN hj ha hk
  rwa [Int.toNat_of_nonneg h1] at this
theorem FS.rdA (W : FS h0 ro R ra marks h) (hn : marks.length = n) {b : Bool} (hm : marks[a]? = some b) {K : AVal → Prop} (hk : K (.bool b)) : ixS 1 (.sl ra 1 0 n) (a : Int) fun p => ld1 h p K := by
  refine ixS_sl0 (by rw [← hn]; exact (List.getElem?_eq_some_iff.1 hm).1) ?_
  rw [ld1_ptr (W.get 1 _ ra rfl rfl) (e := .bool b) (by simp [hm]) rfl]
  exact hk
theorem FS.wrA (W : FS h0 ro R ra marks h) (hn : marks.length = n) (ha : a < n) (b : Bool) {K : Heap → Prop} (hk : ∀ h', FS h0 ro R ra (marks.set a b) h' → K h') : ixS 1 (.sl ra 1 0 n) (a : Int) fun p => st true h p [.bool b] K := by
  refine ixS_sl0 ha ?_
  have hlt : a < marks.length := by rw [hn]; exact ha
  refine st_elem (e := .bool marks[a]) (W.get 1 _ ra rfl rfl) (by simp [hlt]) rfl ?_
  have W2 := W.put (i := 1) rfl (.row 1 ((marks.map .bool).set a (.bool b)))
  rw [← List.map_set] at W2 ⊢
  exact hk _ W2
end

/-- what is fixed while one node is looked at -/
structure FX (up : List (List Int)) (val : List (List ByteArray)) (T : Nat → Nat → Bool) (i : Nat) (ra N : Nat) (R : List AVal) : Prop where
  lenR : R.length = N
  at_ : R[i]? = some (.sl ra 1 0 up.length)
  done : ∀ j, j < i → ∃ e, R[j]? = some e ∧ e.isAgg = false ∧ SlOf 1 e ((List.range up.length).map fun a => .bool (T j a))

variable {ro ra N i : Nat} {R : List AVal} {T : Nat → Nat → Bool} {x : Nd} {o rows : AVal}

theorem forced_l4 (X : FX up val T i ra N R) (S : Small up val) (hV : Strss mV val) (Wm : WF up val) {a : Nat} (ha : a < up.length) {m0 : List Bool} (hl : m0.length = up.length) {L1 : AVal → AVal → AVal → AVal → Int → Heap → Prop} {F : AVal → AVal → AVal → AVal → Int → AVal → Int → Heap → Prop}
    (hgo : ∀ h, FS h0 ro R ra (m0.set a (inS (val.getD a []) x.s)) h → F o rows (.lptr [mU, mV]) (.sl ro 1 0 N) (i : Int) (.lptr (nodeC x)) ((a : Int) + 1) h) :
    ∀ d k : Nat, k + d = (val.getD a []).length → ∀ h, FS h0 ro R ra (m0.set a (inS ((val.getD a []).take k) x.s)) h → s56l4 K L1 (s56l2_G F) (d + 1) o rows (.lptr [mU, mV]) (.sl ro 1 0 N) (i : Int) (.lptr (nodeC x)) (a : Int) (k : Int) h
  | 0, k, hd, h, W => by
    have hmax := Wm.max
    have hav : a < val.length := by rw [Wm.len]; exact ha
    obtain ⟨e, he, hie⟩ := hV.ix hav
    unfold s56l4
    rw [addOff_lptr]
    simp only [List.drop_succ_cons, List.drop_zero, ld1_lptr]
    rw [getD_val hav] at hd W
    rw [hie, ld1_lptr, he.len]
    rw [List.take_of_length_le (by omega)] at W
    refine ifT_neg (by simp; omega) (rg_of (by omega) (by omega) (s56l2_go (hgo h ?_)))
    rw [getD_val hav]
    exact W
  | d + 1, k, hd, h, W => by
    have hmax := Wm.max
    have hav : a < val.length := by rw [Wm.len]; exact ha
    have hk : k < val[a].length := by rw [getD_val hav] at hd; omega
    have hsl := (S.names _ (List.getElem_mem hav)).2
    obtain ⟨e, he, hie⟩ := hV.ix hav
    have hl2 : ∀ b, (m0.set a b).length = up.length := fun b => by rw [List.length_set]; exact hl
    unfold s56l4
    rw [addOff_lptr]
    simp only [List.drop_succ_cons, List.drop_zero, ld1_lptr]
    rw [hie, ld1_lptr, he.len]
    refine ifT_pos (by simp; omega) (FS.rdO W X.lenR X.at_ rfl (FS.rdO W X.lenR X.at_ rfl (FS.rdA W (hl2 _) (List.getElem?_set_self (by rw [hl]; exact ha)) ?_)))
    rw [tBool_bool]
    have hsucc : inS ((val.getD a []).take (k + 1)) x.s = (inS ((val.getD a []).take k) x.s || strEq val[a][k] x.s) := by
      rw [getD_val hav, List.take_succ_eq_append_getElem hk]
      unfold inS
      rw [List.any_append, strEq_dec]
      simp
    cases hin : inS ((val.getD a []).take k) x.s with
    | true =>
      refine ifT_pos rfl (FS.wrA W (hl2 _) ha true fun h' W' => rg_of (by omega) (by omega) (s56l4_go ?_))
      refine forced_l4 X S hV Wm ha hl hgo d (k + 1) (by omega) h' ?_
      rw [List.set_set] at W'
      rw [hsucc, hin, Bool.true_or]
      exact W'
    | false =>
      refine ifT_neg rfl ?_
      rw [addOff_lptr]
      simp only [List.drop_succ_cons, List.drop_zero, ld1_lptr]
      rw [hie, ld1_lptr, he.ix hk, ld1_lptr, tStr_str]
      simp only [nodeC, addOff_lptr, List.drop_succ_cons, List.drop_zero, ld1_lptr, tStr_str]
      refine FS.wrA W (hl2 _) ha _ fun h' W' => rg_of (by omega) (by omega) (s56l4_go ?_)
      refine forced_l4 X S hV Wm ha hl hgo d (k + 1) (by omega) h' ?_
      rw [List.set_set] at W'
      rw [hsucc, hin, Bool.false_or]
      exact W'

theorem nat_of {k : Int} {i : Nat} (h : 0 ≤ k ∧ k < i) : k = ((k.toNat : Nat) : Int) ∧ k.toNat < i := by omega

theorem forced_l6 (X : FX up val T i ra N R) (hO : OTab o up) (Wm : WF up val) {a : Nat} (ha : a < up.length) {m0 : List Bool} (hl : m0.length = up.length) (hx : (0 ≤ x.l ∧ x.l < i) ∧ 0 ≤ x.r ∧ x.r < i) {L1 : AVal → AVal → AVal → AVal → Int → Heap → Prop} {F : AVal → AVal → AVal → AVal → Int → AVal → Int → Heap → Prop} {mm : AVal}
    (hgo : ∀ h, FS h0 ro R ra (m0.set a ((List.range up.length).all fun b => !(rb up a b && (T x.l.toNat b && !T x.r.toNat b)))) h → F o rows mm (.sl ro 1 0 N) (i : Int) (.lptr (nodeC x)) ((a : Int) + 1) h) :
    ∀ d b : Nat, b + d = up.length → ∀ h, FS h0 ro R ra (m0.set a ((List.range b).all fun b => !(rb up a b && (T x.l.toNat b && !T x.r.toNat b)))) h → s56l6 K L1 (s56l2_G F) (d + 1) o rows mm (.sl ro 1 0 N) (i : Int) (.lptr (nodeC x)) (a : Int) (b : Int) h
  | 0, b, hd, h, W => by
    have hmax := Wm.max
    obtain rfl : b = up.length := by omega
    unfold s56l6
    rw [hO.len]
    exact ifT_neg (by simp) (rg_of (by omega) (by omega) (s56l2_go (hgo h W)))
  | d + 1, b, hd, h, W => by
    have hmax := Wm.max
    have hb : b < up.length := by omega
    obtain ⟨hl1, hl2⟩ := nat_of hx.1
    obtain ⟨hr1, hr2⟩ := nat_of hx.2
    obtain ⟨eo, hre, _, hro⟩ := hO.row (h' := h) ha
    obtain ⟨el, hel, hal, hsl⟩ := X.done _ hl2
    obtain ⟨er, her, har, hsr⟩ := X.done _ hr2
    have hsucc : ((List.range (b + 1)).all fun b => !(rb up a b && (T x.l.toNat b && !T x.r.toNat b))) = (((List.range b).all fun b => !(rb up a b && (T x.l.toNat b && !T x.r.toNat b))) && !(rb up a b && (T x.l.toNat b && !T x.r.toNat b))) := by
      rw [List.range_succ, List.all_append]; simp
    have ih : ∀ h', FS h0 ro R ra (m0.set a ((List.range (b + 1)).all fun b => !(rb up a b && (T x.l.toNat b && !T x.r.toNat b)))) h' → s56l6_G (s56l6 K L1 (s56l2_G F) (d + 1)) o rows mm (.sl ro 1 0 N) (i : Int) (.lptr (nodeC x)) (a : Int) ((b : Int) + 1) h' :=
      fun h' W' => s56l6_go (forced_l6 X hO Wm ha hl hx hgo d (b + 1) (by omega) h' W')
    rw [hsucc] at ih
    have no : (rb up a b && (T x.l.toNat b && !T x.r.toNat b)) = false → s56c8 K L1 (s56l2_G F) (s56l6_G (s56l6 K L1 (s56l2_G F) (d + 1))) o rows mm (.sl ro 1 0 N) (i : Int) (.lptr (nodeC x)) (a : Int) (b : Int) false h := by
      intro e
      rw [e, Bool.not_false, Bool.and_true] at ih
      exact ifT_neg rfl (rg_of (by omega) (by omega) (ih h W))
    unfold s56l6
    rw [hO.len]
    refine ifT_pos (by simp; omega) ?_
    rw [hre, hro b hb, tBool_bool]
    cases h1 : rb up a b with
    | false => exact ifT_neg rfl (no (by rw [h1]; rfl))
    | true =>
      refine ifT_pos rfl ?_
      simp only [nodeC, addOff_lptr, List.drop_succ_cons, List.drop_zero, ld1_lptr, tInt_int]
      refine FS.rdI W X.lenR hx.1.1 hel hal ?_
      rw [bool_row hsl hb, tBool_bool]
      cases h2 : T x.l.toNat b with
      | false => exact ifT_neg rfl (no (by rw [h2]; simp))
      | true =>
        refine ifT_pos rfl ?_
        refine FS.rdI W X.lenR hx.2.1 her har ?_
        rw [bool_row hsr hb, tBool_bool]
        cases h3 : T x.r.toNat b with
        | true => exact no (by rw [h3]; simp)
        | false =>
          rw [h1, h2, h3, Bool.not_false, Bool.and_self, Bool.and_self, Bool.not_true, Bool.and_false] at ih
          refine ifT_pos rfl (FS.rdO W X.lenR X.at_ rfl (FS.wrA W (by rw [List.length_set]; exact hl) ha false fun h' W' => rg_of (by omega) (by omega) (ih h' ?_)))
          rw [List.set_set] at W'
          exact W'

theorem forced_l2 (X : FX up val T i ra N R) (S : Small up val) (hV : Strss mV val) (hO : OTab o up) (Wm : WF up val) (hx : NdOK i x) {L1 : AVal → AVal → AVal → AVal → Int → Heap → Prop} (hi : i ≤ 1024)
    (next : ∀ marks h, MK up.length (fRow up val T x) up.length marks → FS h0 ro R ra marks h → L1 o rows (.lptr [mU, mV]) (.sl ro 1 0 N) ((i : Int) + 1) h) :
    ∀ d a : Nat, a + d = up.length → ∀ marks h, MK up.length (fRow up val T x) a marks → FS h0 ro R ra marks h → s56l2 K L1 (d + 1) o rows (.lptr [mU, mV]) (.sl ro 1 0 N) (i : Int) (.lptr (nodeC x)) (a : Int) h
  | 0, a, hd, marks, h, M, W => by
    have hmax := Wm.max
    obtain rfl : a = up.length := by omega
    unfold s56l2
    rw [hO.len]
    exact ifT_neg (by simp) (rg_of (by omega) (by omega) (next marks h M W))
  | d + 1, a, hd, marks, h, M, W => by
    have hmax := Wm.max
    have ha : a < up.length := by omega
    have step : ∀ b h', b = fRow up val T x a → FS h0 ro R ra (marks.set a b) h' → s56l2 K L1 (d + 1) o rows (.lptr [mU, mV]) (.sl ro 1 0 N) (i : Int) (.lptr (nodeC x)) ((a : Int) + 1) h' := by
      intro b h' e W'
      subst e
      exact forced_l2 X S hV hO Wm hx hi next d (a + 1) (by omega) _ h' (M.next ha) W'
    have set0 : marks.set a false = marks := by
      apply List.ext_getElem?
      intro j
      by_cases e : a = j
      · subst e; rw [List.getElem?_set_self (by rw [M.len]; exact ha), M.rest a (Nat.le_refl _) ha]
      · rw [List.getElem?_set_ne e]
    unfold s56l2
    rw [hO.len]
    refine ifT_pos (by simp; omega) ?_
    have two : (0 ≤ x.l ∧ x.l < i) ∧ 0 ≤ x.r ∧ x.r < i → ∃ el er, (R[x.l.toNat]? = some el ∧ el.isAgg = false ∧ SlOf 1 el ((List.range up.length).map fun a => .bool (T x.l.toNat a))) ∧ R[x.r.toNat]? = some er ∧ er.isAgg = false ∧ SlOf 1 er ((List.range up.length).map fun a => .bool (T x.r.toNat a)) := fun hh => by
      obtain ⟨el, h1⟩ := X.done _ (nat_of hh.1).2
      obtain ⟨er, h2⟩ := X.done _ (nat_of hh.2).2
      exact ⟨el, er, h1, h2⟩
    simp only [nodeC, addOff_lptr, List.drop_succ_cons, List.drop_zero, ld1_lptr, tInt_int]
    by_cases k1 : x.k = 1
    · refine ifT_pos (by simpa using k1) (s56l4_in ((val.getD a []).length + 1) ?_)
      refine forced_l4 X S hV Wm ha M.len (fun h' W' => step _ h' (by unfold fRow; rw [if_pos k1]) W') _ 0 (by omega) h ?_
      rw [List.take_zero]
      show FS h0 ro R ra (marks.set a false) h
      rw [set0]
      exact W
    · refine ifT_neg (by simpa using k1) ?_
      by_cases k3 : x.k = 3
      · refine ifT_pos (by simpa using k3) ?_
        have hh : (0 ≤ x.l ∧ x.l < i) ∧ 0 ≤ x.r ∧ x.r < i := by
          rcases hx with h | h | h
          · exact absurd h k1
          · omega
          · exact h.2
        obtain ⟨el, er, ⟨h1, h2, h3⟩, h4, h5, h6⟩ := two hh
        have hf : fRow up val T x a = (T x.l.toNat a && T x.r.toNat a) := by unfold fRow; rw [if_neg k1, if_pos k3]
        refine FS.rdO W X.lenR X.at_ rfl (FS.rdI W X.lenR hh.1.1 h1 h2 ?_)
        rw [bool_row h3 ha, tBool_bool]
        cases e : T x.l.toNat a with
        | true =>
          refine ifT_pos rfl (FS.rdI W X.lenR hh.2.1 h4 h5 ?_)
          rw [bool_row h6 ha, tBool_bool]
          exact FS.wrA W M.len ha _ fun h' W' => rg_of (by omega) (by omega) (s56l2_go (step _ h' (by rw [hf, e, Bool.true_and]) W'))
        | false =>
          exact ifT_neg rfl (FS.wrA W M.len ha _ fun h' W' => rg_of (by omega) (by omega) (s56l2_go (step _ h' (by rw [hf, e, Bool.false_and]) W')))
      · refine ifT_neg (by simpa using k3) ?_
        by_cases k4 : x.k = 4
        · refine ifT_pos (by simpa using k4) ?_
          have hh : (0 ≤ x.l ∧ x.l < i) ∧ 0 ≤ x.r ∧ x.r < i := by
            rcases hx with h | h | h
            · exact absurd h k1
            · omega
            · exact h.2
          obtain ⟨el, er, ⟨h1, h2, h3⟩, h4, h5, h6⟩ := two hh
          have hf : fRow up val T x a = (T x.l.toNat a || T x.r.toNat a) := by unfold fRow; rw [if_neg k1, if_neg k3, if_pos k4]
          refine FS.rdO W X.lenR X.at_ rfl (FS.rdI W X.lenR hh.1.1 h1 h2 ?_)
          rw [bool_row h3 ha, tBool_bool]
          cases e : T x.l.toNat a with
          | false =>
            refine ifT_neg rfl (FS.rdI W X.lenR hh.2.1 h4 h5 ?_)
            rw [bool_row h6 ha, tBool_bool]
            exact FS.wrA W M.len ha _ fun h' W' => rg_of (by omega) (by omega) (s56l2_go (step _ h' (by rw [hf, e, Bool.false_or]) W'))
          | true =>
            exact ifT_pos rfl (FS.wrA W M.len ha _ fun h' W' => rg_of (by omega) (by omega) (s56l2_go (step _ h' (by rw [hf, e, Bool.true_or]) W')))
        · refine ifT_neg (by simpa using k4) ?_
          by_cases k5 : x.k = 5
          · refine ifT_pos (by simpa using k5) ?_
            have hh : (0 ≤ x.l ∧ x.l < i) ∧ 0 ≤ x.r ∧ x.r < i := by
              rcases hx with h | h | h
              · exact absurd h k1
              · omega
              · exact h.2
            have hf : fRow up val T x a = (List.range up.length).all fun b => !(rb up a b && (T x.l.toNat b && !T x.r.toNat b)) := by unfold fRow; rw [if_neg k1, if_neg k3, if_neg k4, if_pos k5]
            refine FS.rdO W X.lenR X.at_ rfl (FS.wrA W M.len ha true fun h' W' => s56l6_in (up.length + 1) ?_)
            exact forced_l6 X hO Wm ha M.len hh (fun h2 W2 => step _ h2 hf.symm W2) up.length 0 (by omega) h' W'
          · refine ifT_neg (by simpa using k5) (rg_of (by omega) (by omega) (s56l2_go (step false h ?_ (by rw [set0]; exact W))))
            unfold fRow
            rw [if_neg k1, if_neg k3, if_neg k4, if_neg k5]
end Go.Proofs.Ytinficcdpggiaaa

namespace Go.Proofs.Ytinficcdpggiaaa
open Go Go.Sym Go.Proofs.Try

variable {K : AVal → Heap → Prop} {h h0 : Heap} {up up' : List (List Int)} {val val' : List (List ByteArray)} {mU mV nU nV : AVal} {xs : List Nd} {o rows : AVal}

theorem renum3 {hb h : Heap} {a b c : Ow} (W : Own hb [a, b, c] h) : Own hb [a, c, b] h :=
  W.renum _ (fun j => if j = 1 then 2 else if j = 2 then 1 else j) (fun j y hj => by
    match j, hj with
    | 0, hj => exact hj
    | 1, hj => exact hj
    | 2, hj => exact hj
    | j + 3, hj => simp at hj) (show ∀ j, j < 3 → ∀ k, k < 3 → _ = _ → j = k by decide)

theorem fT_new {i : Nat} (hi : i < xs.length) (a : Nat) : fT up val xs (i + 1) i a = fRow up val (fT up val xs i) xs[i] a := by
  show (if i = i then _ else _) = _
  rw [if_pos rfl, List.getElem?_eq_getElem hi]
theorem fT_old {i j : Nat} (hj : j < i) (a : Nat) : fT up val xs (i + 1) j a = fT up val xs i j a := by
  show (if j = i then _ else _) = _
  rw [if_neg (by omega)]

theorem forced_l1 (S : Small up val) (hV : Strss mV val) (hO : OTab o up) (Wm : WF up val) (hx : Nodes rows xs) (T : TabOK xs) {ro : Nat} (good : ∀ v, BTab v (fT up val xs xs.length) xs.length up.length → K v h0) :
    ∀ d i : Nat, i + d = xs.length → ∀ R h, R.length = xs.length → (∀ j, j < i → ∃ e, R[j]? = some e ∧ e.isAgg = false ∧ SlOf 1 e ((List.range up.length).map fun a => .bool (fT up val xs i j a))) → (∀ j, i ≤ j → j < xs.length → R[j]? = some .nilsl) →
      Own h0 [.cell ro (.row 1 R)] h → s56l1 K (d + 1) o rows (.lptr [mU, mV]) (.sl ro 1 0 xs.length) (i : Int) h
  | 0, i, hd, R, h, hl, hdone, hrest, W => by
    obtain rfl : i = xs.length := by omega
    unfold s56l1
    rw [hx.len]
    refine ifT_neg (by simp) ?_
    exact ⟨fun q => q = ro, .lsl 1 R, h0, .whole rfl (W.get 0 _ ro rfl rfl) hl.symm, ⟨fun _ _ => trivial, fun q o hq => ⟨o, W.old q o hq, (fun e => by
      have := W.new 0 _ q rfl e
      rw [this] at hq; cases hq), .refl o⟩⟩, good _ ⟨R, .lsl 1 R, hl, hdone⟩⟩
  | d + 1, i, hd, R, h, hl, hdone, hrest, W => by
    have hi : i < xs.length := by omega
    have hxl := T.len
    have hmax := Wm.max
    have hok := T.ok i _ (List.getElem?_eq_getElem hi)
    unfold s56l1
    rw [hx.len]
    refine ifT_pos (by simp; omega) ?_
    rw [hx.ix hi, ldN_node]
    simp only [nodeC, tCons_cons, tInt_int, tStr_str, tNil_nil]
    refine newRow_in fun r hr => st_all (Heap.set_same _ _ _) rfl ?_
    have W1 := (W.newC hr (.row 4 [.agg [.int .i64 0, .str (ByteArray.mk #[]), .int .i64 0, .int .i64 0]])).put (i := 1) rfl (.row 4 [.agg (nodeC xs[i])])
    rw [hO.len]
    refine mkS_own (by omega) (by omega) fun ra hra => ?_
    have W2 := W1.newC hra (.row 1 (List.replicate up.length (.bool false)))
    refine ixS_sl0 hi (chk_iff.2 ⟨rfl, st_elem (W2.get 0 _ ro rfl rfl) (hrest i (Nat.le_refl _) hi) rfl ?_⟩)
    have W3 := renum3 (W2.put (i := 0) rfl (.row 1 (R.set i (.sl ra 1 0 up.length))))
    obtain ⟨h3, g3, W4, lit⟩ := freezeC (os := [.cell ro (.row 1 (R.set i (.sl ra 1 0 up.length))), .cell ra (.row 1 (List.replicate up.length (.bool false)))]) (cs := nodeC xs[i]) W3
    refine ⟨_, [o, rows, .lptr [mU, mV], .sl ro 1 0 xs.length, .int .i64 (i : Int), .lptr (nodeC xs[i]), .int .i64 0], h3, .cons (.refl _) (.cons (.refl _) (.cons (.refl _) (.cons (.refl _) (.cons (.refl _) (.cons lit (Lits.refl _)))))), g3, rfl, up.length + 1, ?_⟩
    have hset : (R.set i (.sl ra 1 0 up.length))[i]? = some (.sl ra 1 0 up.length) := List.getElem?_set_self (by rw [hl]; exact hi)
    have X : FX up val (fT up val xs i) i ra xs.length (R.set i (.sl ra 1 0 up.length)) := ⟨by simp [hl], hset, fun j hj => by
      rw [List.getElem?_set_ne (by omega)]
      exact hdone j hj⟩
    have W5 : FS h0 ro (R.set i (.sl ra 1 0 up.length)) ra (List.replicate up.length false) h3 := by
      unfold FS
      rw [List.map_replicate]
      exact W4
    refine forced_l2 X S hV hO Wm hok (by omega) (fun marks h' M W' => ?_) up.length 0 (by omega) _ h3 ⟨by simp, fun a' h' => by omega, fun a' _ h' => by simp [h']⟩ W5
    obtain ⟨h6, g6, W6⟩ := W'.step (fun n => n = ra) [.cell ro (.row 1 ((R.set i (.sl ra 1 0 up.length)).set i (.lsl 1 (marks.map .bool))))] (fun n hn => W'.new 1 _ n rfl hn) (fun j y' hj => by
      match j, hj with
      | 0, hj =>
        cases hj
        exact ⟨_, rfl, trivial, fun n hn => ⟨hn, fun hm => absurd (W'.one 0 1 _ _ n rfl rfl hn hm) (by decide)⟩, .row (Lits.set hset (.whole rfl (W'.get 1 _ ra rfl rfl) (by rw [List.length_map, M.len])))⟩
      | j + 1, hj => simp at hj)
    refine ⟨_, _, h6, Lits.refl _, g6, rfl, ?_⟩
    rw [List.set_set] at W6
    refine forced_l1 S hV hO Wm hx T good d (i + 1) (by omega) _ h6 (by simp [hl]) (fun j hj => ?_) (fun j h1 h2 => ?_) W6
    · by_cases e : j = i
      · subst e
        refine ⟨_, List.getElem?_set_self (by rw [hl]; exact hi), rfl, ?_⟩
        rw [M.all]
        have : (fun a => AVal.bool (fT up val xs (j + 1) j a)) = fun a => AVal.bool (fRow up val (fT up val xs j) xs[j] a) := by
          funext a; rw [fT_new hi]
        rw [this]
        exact .lsl 1 _
      · rw [List.getElem?_set_ne (Ne.symm e)]
        obtain ⟨e1, h1, h2, h3⟩ := hdone j (by omega)
        refine ⟨e1, h1, h2, ?_⟩
        have : (fun a => AVal.bool (fT up val xs (i + 1) j a)) = fun a => AVal.bool (fT up val xs i j a) := by
          funext a; rw [fT_old (by omega)]
        rw [this]
        exact h3
    · rw [List.getElem?_set_ne (by omega)]
      exact hrest j (by omega) h2
theorem forced_ok (S : Small up val) (hV : Strss mV val) (hO : OTab o up) (Wm : WF up val) (hx : Nodes rows xs) (T : TabOK xs) (good : ∀ v, BTab v (fT up val xs xs.length) xs.length up.length → K v h0) : ACalls prog 56 [.agg [mU, mV], o, rows] h0 K := by
  have hxl := T.len
  refine s56_ok ?_
  unfold s56
  rw [hx.len]
  refine mkS_own (by omega) (by omega) fun ro hro => s56l1_in (xs.length + 1) ?_
  exact forced_l1 S hV hO Wm hx T good xs.length 0 (by omega) _ _ (by simp) (fun j hj => by omega) (fun j _ hj => by simp [hj]) ((Own.start h0).newC hro (.row 1 (List.replicate xs.length .nilsl)))

/-- A BOUNDED MORPHISM KEEPS WHAT IS FORCED -/
theorem fT_keep (Wm : WF up val) (W' : WF up' val') {f : List Int} (F : FitF up up' f) (B : IsB up val up' val' f) (T : TabOK xs) : ∀ i, i ≤ xs.length → ∀ j, j < i → ∀ a, a < up.length → fT up val xs i j a = fT up' val' xs i j (gOf f a)
  | 0, _, j, hj, _, _ => by omega
  | i + 1, hi, j, hj, a, ha => by
    have ih := fT_keep Wm W' F B T i (by omega)
    by_cases e : j = i
    · subst e
      have hil : j < xs.length := by omega
      have hok := T.ok j _ (List.getElem?_eq_getElem hil)
      rw [fT_new hil, fT_new hil]
      have hB := B a ha
      unfold fRow
      by_cases k1 : xs[j].k = 1
      · rw [if_pos k1, if_pos k1, hB.1]
      · rw [if_neg k1, if_neg k1]
        by_cases k3 : xs[j].k = 3
        · rw [if_pos k3, if_pos k3]
          rcases hok with h | h | h
          · exact absurd h k1
          · omega
          · rw [ih _ (nat_of h.2.1).2 a ha, ih _ (nat_of h.2.2).2 a ha]
        · rw [if_neg k3, if_neg k3]
          by_cases k4 : xs[j].k = 4
          · rw [if_pos k4, if_pos k4]
            rcases hok with h | h | h
            · exact absurd h k1
            · omega
            · rw [ih _ (nat_of h.2.1).2 a ha, ih _ (nat_of h.2.2).2 a ha]
          · rw [if_neg k4, if_neg k4]
            by_cases k5 : xs[j].k = 5
            · rw [if_pos k5, if_pos k5]
              rcases hok with h | h | h
              · exact absurd h k1
              · omega
              · rw [Bool.eq_iff_iff, List.all_eq_true, List.all_eq_true]
                constructor
                · intro hall c hc
                  cases hr : rb up' (gOf f a) c with
                  | false => rfl
                  | true =>
                    obtain ⟨b, hb, rfl⟩ := hB.2.2 c (rb_iff.1 hr)
                    have hbl := hb.lt Wm.inR ha
                    have := hall b (List.mem_range.2 hbl)
                    rw [rb_iff.2 hb, ih _ (nat_of h.2.1).2 b hbl, ih _ (nat_of h.2.2).2 b hbl] at this
                    exact this
                · intro hall b hb
                  cases hr : rb up a b with
                  | false => rfl
                  | true =>
                    have hb' := hB.2.1 b (rb_iff.1 hr)
                    have hbl := List.mem_range.1 hb
                    have haf : a < f.length := by rw [F.len]; exact ha
                    have := hall (gOf f b) (List.mem_range.2 (hb'.lt W'.inR (F.get haf).2))
                    rw [rb_iff.2 hb', ← ih _ (nat_of h.2.1).2 b hbl, ← ih _ (nat_of h.2.2).2 b hbl] at this
                    exact this
            · rw [if_neg k5, if_neg k5]
    · rw [fT_old (by omega), fT_old (by omega)]
      exact ih j (by omega) a ha

theorem eqBoolQ (a b : Bool) {K : Bool → Prop} (hk : K (a == b)) : eqQ prog 4 (.bool a) (.bool b) K := by
  refine ⟨trivial, ?_⟩
  have : eqT prog 8 4 (.bool a) (.bool b) = some (a == b) := by kernel_rfl
  rw [this]
  exact hk

theorem keeps_l3 (Wm : WF up val) (W' : WF up' val') {f : List Int} (F : FitF up up' f) {vf p a b : AVal} (hf : Ints vf f) (hO : OTab o up) (hP : OTab p up') {T T' : Nat → Nat → Bool} (hA : BTab a T xs.length up.length) (hB : BTab b T' xs.length up'.length) (hx : xs.length ≤ 1024) {i : Nat} (hi : i < xs.length)
    (same : ∀ w, w < up.length → T i w = T' i (gOf f w)) {L2 : AVal → AVal → AVal → AVal → AVal → AVal → Int → Heap → Prop} (next : L2 vf rows o p a b ((i : Int) + 1) h0) :
    ∀ d w : Nat, w + d = up.length → s26l3 K L2 (d + 1) vf rows o p a b (i : Int) (w : Int) h0
  | 0, w, hd => by
    unfold s26l3
    rw [hO.len]
    exact ifT_neg (by simp; omega) (rg_of (by omega) (by omega) next)
  | d + 1, w, hd => by
    have hw : w < up.length := by omega
    have hmax := Wm.max
    have hwf : w < f.length := by rw [F.len]; exact hw
    obtain ⟨hfw, hgw⟩ := F.get hwf
    obtain ⟨ea, hra, hsa⟩ := hA.row (h := h0) hi
    obtain ⟨eb, hrb, hsb⟩ := hB.row (h := h0) hi
    unfold s26l3
    rw [hO.len]
    refine ifT_pos (by simp; omega) ?_
    rw [hf.ix hwf, ld1_lptr, tInt_int, hfw]
    refine ifT_neg (decide_eq_false (by omega)) ?_
    rw [hf.ix hwf, ld1_lptr, tInt_int, hfw, hP.len]
    refine ifT_neg (decide_eq_false (by omega)) ?_
    rw [hra, bool_row hsa hw, tBool_bool, hrb, hf.ix hwf, ld1_lptr, tInt_int, hfw, bool_row hsb hgw, tBool_bool]
    refine eqBoolQ _ _ (ifT_neg (by rw [same w hw]; simp) (rg_of (by omega) (by omega) (s26l3_go (keeps_l3 Wm W' F hf hO hP hA hB hx hi same next d (w + 1) (by omega)))))
theorem keeps_ok (S : Small up val) (hU : Intss mU up) (hV : Strss mV val) (S' : Small up' val') (hU' : Intss nU up') (hV' : Strss nV val') (Wm : WF up val) (W' : WF up' val') {f : List Int} {vf : AVal} (hf : Ints vf f) (F : FitF up up' f) (B : IsB up val up' val' f) (hx : Nodes rows xs) (T : TabOK xs) (hk : K (.bool true) h0) :
    ACalls prog 26 [.agg [mU, mV], .agg [nU, nV], vf, rows] h0 K := by
  have hxl := T.len
  refine s26_ok ?_
  unfold s26
  refine callG_of (right_ok S hU hV (fun hW => absurd Wm hW) fun _ o hO => ?_)
  simp only [tTup_tuple, tCons_cons, tBool_bool, tNil_nil]
  refine callG_of (right_ok S' hU' hV' (fun hW => absurd W' hW) fun _ p hP => ?_)
  simp only [tTup_tuple, tCons_cons, tBool_bool, tNil_nil]
  refine ifT_neg rfl (ifT_neg rfl ?_)
  rw [hf.len, hO.len]
  refine ifT_neg (by simp [F.len]) ?_
  rw [ldN_agg2]
  simp only [tCons_cons, tNil_nil]
  refine callG_of (forced_ok S hV hO Wm hx T fun a hA => ?_)
  rw [ldN_agg2]
  simp only [tCons_cons, tNil_nil]
  refine callG_of (forced_ok S' hV' hP W' hx T fun b hB => s26l2_in (xs.length + 1) ?_)
  have loop : ∀ d i : Nat, i + d = xs.length → s26l2 K (d + 1) vf rows o p a b (i : Int) h0 := by
    intro d
    induction d with
    | zero =>
      intro i hd
      unfold s26l2
      rw [hx.len]
      exact ifT_neg (by simp; omega) (retG_of hk)
    | succ d ih =>
      intro i hd
      have hi : i < xs.length := by omega
      unfold s26l2
      rw [hx.len]
      refine ifT_pos (by simp; omega) (s26l3_in (up.length + 1) ?_)
      exact keeps_l3 Wm W' F hf hO hP hA hB hxl hi (fun w hw => fT_keep Wm W' F B T _ (Nat.le_refl _) i hi w hw) (s26l2_go (ih (i + 1) (by omega))) up.length 0 (by omega)
  exact loop xs.length 0 (by omega)
end Go.Proofs.Ytinficcdpggiaaa

namespace Go.Proofs.Ytinficcdpggiaaa
open Go Go.Sym Go.Proofs.Try

variable {up : List (List Int)} {val : List (List ByteArray)}

theorem tidyUp_len : (tidyUp up).length = up.length := by simp [tidyUp]
theorem tidy_step (hi : InR up) {a b : Nat} : Step (tidyUp up) a b ↔ a < up.length ∧ b < up.length ∧ coverB up a b = true := by
  unfold Step
  constructor
  · rintro ⟨r, hr, hb⟩
    have ha : a < up.length := by
      have := (List.getElem?_eq_some_iff.1 hr).1
      rwa [tidyUp_len] at this
    rw [tidyUp_get ha] at hr
    cases hr
    obtain ⟨c, hc, e⟩ := mem_natI.1 hb
    obtain rfl : b = c := by omega
    unfold tidyRow at hc
    rw [List.mem_filter, List.mem_range] at hc
    exact ⟨ha, hc.1, hc.2⟩
  · rintro ⟨ha, hb, hc⟩
    refine ⟨_, tidyUp_get ha, mem_natI.2 ⟨b, ?_, rfl⟩⟩
    unfold tidyRow
    rw [List.mem_filter, List.mem_range]
    exact ⟨hb, hc⟩
/-- how many worlds stand between -/
noncomputable def ivl (up : List (List Int)) (a b : Nat) : Nat := ((List.range up.length).filter fun x => rb up a x && rb up x b).length
theorem reach_tidy (W : WF up val) {a b : Nat} (ha : a < up.length) : Reach (tidyUp up) a b ↔ Reach up a b := by
  have iT : InR (tidyUp up) := fun r hr b hb => by
    obtain ⟨i, hi, e⟩ := List.mem_iff_getElem.1 hr
    rw [tidyUp_len] at hi
    have h1 := tidyUp_get hi
    rw [List.getElem?_eq_getElem (by rw [tidyUp_len]; exact hi), e] at h1
    cases h1
    obtain ⟨c, hc, rfl⟩ := mem_natI.1 hb
    unfold tidyRow at hc
    rw [List.mem_filter, List.mem_range] at hc
    rw [tidyUp_len]
    omega
  constructor
  · intro h
    induction h with
    | refl => exact .refl
    | tail _ hs ih =>
      obtain ⟨_, _, hc⟩ := (tidy_step W.inR).1 hs
      unfold coverB startB at hc
      simp only [Bool.and_eq_true] at hc
      exact ih.trans (rb_iff.1 hc.1.2)
  · have main : ∀ n a b, a < up.length → ivl up a b ≤ n → Reach up a b → Reach (tidyUp up) a b := by
      intro n
      induction n with
      | zero =>
        intro a b ha hn h
        have hb := h.lt W.inR ha
        have : (List.range up.length).filter (fun x => rb up a x && rb up x b) = [] := List.eq_nil_of_length_eq_zero (by unfold ivl at hn; omega)
        have hm : a ∈ (List.range up.length).filter (fun x => rb up a x && rb up x b) := by
          rw [List.mem_filter, List.mem_range]
          exact ⟨ha, by rw [rb_iff.2 .refl, rb_iff.2 h]; rfl⟩
        rw [this] at hm
        simp at hm
      | succ n ih =>
        intro a b ha hn h
        have hb := h.lt W.inR ha
        by_cases e : a = b
        · subst e; exact .refl
        · by_cases hc : coverB up a b = true
          · exact Reach.tail .refl ((tidy_step W.inR).2 ⟨ha, hb, hc⟩)
          · have hst : startB up a b = true := by unfold startB; rw [rb_iff.2 h]; simpa using e
            unfold coverB at hc
            rw [hst, Bool.true_and] at hc
            have hc2 : ((List.range up.length).all (okc up a b)) = false := by simpa using hc
            obtain ⟨c, hcm, hco⟩ := List.all_eq_false.1 hc2
            have hcl := List.mem_range.1 hcm
            have hco : okc up a b c = false := by simpa using hco
            unfold okc at hco
            simp only [Bool.or_eq_false_iff, Bool.not_eq_false'] at hco
            obtain ⟨h1, h2, h3, h4⟩ := hco
            have hca : c ≠ a := by simpa using h1
            have hcb : c ≠ b := by simpa using h2
            have r1 := rb_iff.1 h3
            have r2 := rb_iff.1 h4
            have l1 : ivl up a c < ivl up a b := filter_lt (x := b) _ (fun x hx => by
              simp only [Bool.and_eq_true] at hx ⊢
              exact ⟨hx.1, rb_iff.2 ((rb_iff.1 hx.2).trans r2)⟩) (List.mem_range.2 hb) (by rw [rb_iff.2 h, rb_iff.2 .refl]; rfl) (by
              have : rb up b c = false := by
                cases hh : rb up b c with
                | false => rfl
                | true => exact absurd (rb_iff.1 hh) (W.cond c b hcl hb r2 hcb).1
              rw [this, Bool.and_false])
            have l2 : ivl up c b < ivl up a b := filter_lt (x := a) _ (fun x hx => by
              simp only [Bool.and_eq_true] at hx ⊢
              exact ⟨rb_iff.2 (r1.trans (rb_iff.1 hx.1)), hx.2⟩) (List.mem_range.2 ha) (by rw [rb_iff.2 h, rb_iff.2 .refl]; rfl) (by
              have : rb up c a = false := by
                cases hh : rb up c a with
                | false => rfl
                | true => exact absurd (rb_iff.1 hh) (W.cond a c ha hcl r1 (Ne.symm hca)).1
              rw [this, Bool.false_and])
            exact (ih a c ha (by omega) r1).trans (ih c b hcl (by omega) r2)
    exact main _ a b ha (Nat.le_refl _)
theorem wf_tidy (W : WF up val) : WF (tidyUp up) val where
  pos := by rw [tidyUp_len]; exact W.pos
  max := by rw [tidyUp_len]; exact W.max
  len := by rw [tidyUp_len]; exact W.len
  inR := fun r hr b hb => by
    obtain ⟨i, hi, e⟩ := List.mem_iff_getElem.1 hr
    rw [tidyUp_len] at hi
    have h1 := tidyUp_get hi
    rw [List.getElem?_eq_getElem (by rw [tidyUp_len]; exact hi), e] at h1
    cases h1
    obtain ⟨c, hc, rfl⟩ := mem_natI.1 hb
    unfold tidyRow at hc
    rw [List.mem_filter, List.mem_range] at hc
    rw [tidyUp_len]
    omega
  fine := W.fine
  cond a b ha hb := by
    rw [tidyUp_len] at ha hb
    intro h hne
    have := W.cond a b ha hb ((reach_tidy W ha).1 h) hne
    exact ⟨fun h' => this.1 ((reach_tidy W hb).1 h'), this.2⟩

theorem blk_at : ∀ (ms : List Mdl) (k0 i : Nat) (hi : i < ms.length), (∀ m ∈ ms, m.2.length = m.1.length) → Blk k0 ms (k0 + tot (ms.take i)) ms[i]
  | [], _, i, hi, _ => by simp at hi
  | m :: ms, k0, 0, hi, hl => by
    simpa [tot] using blk_head k0 m ms (hl m List.mem_cons_self)
  | m :: ms, k0, i + 1, hi, hl => by
    have := blk_tail (k0 := k0) (hl m List.mem_cons_self) (blk_at ms (k0 + m.1.length) i (by simpa using hi) (fun x hx => hl x (List.mem_cons_of_mem _ hx)))
    simpa [tot, Nat.add_assoc] using this
theorem gPl_get : ∀ (ms : List Mdl) (k0 i : Nat) (_ : i < ms.length), (gPl k0 ms)[i]? = some (((k0 + tot (ms.take i) : Nat)) : Int)
  | [], _, i, hi => by simp at hi
  | m :: ms, k0, 0, hi => by simp [gPl, tot]
  | m :: ms, k0, i + 1, hi => by
    have := gPl_get ms (k0 + m.1.length) i (by simpa using hi)
    simpa [gPl, tot, Nat.add_assoc] using this
theorem root_glue {ms : List Mdl} {atoms : List ByteArray} (H : AllWF ms) (F : Fits atoms ms) (hA : fineB atoms = true) : IsRoot (tidyUp (upP ms)) 0 := by
  have lP : (upP ms).length = 1 + tot ms := by simp [upP, gRows_len]; omega
  refine ⟨by rw [tidyUp_len]; omega, fun b hb => ?_⟩
  rw [tidyUp_len, lP] at hb
  have WP : WF (upP ms) (valG atoms ms) := wf_glue H F hA (p0 ms)
  refine (reach_tidy WP (by omega)).2 ?_
  by_cases e : b = 0
  · subst e; exact .refl
  · refine Reach.tail .refl ⟨_, rfl, ?_⟩
    simp only [natI, List.mem_map, List.mem_range'_1]
    exact ⟨b, by omega, rfl⟩
/-- the places of a model's worlds in the glued one -/
def partF (k n : Nat) : List Int := (List.range n).map fun w => ((k + w : Nat) : Int)
theorem partF_len (k n : Nat) : (partF k n).length = n := by simp [partF]
theorem partF_g {k n w : Nat} (hw : w < n) : gOf (partF k n) w = k + w := by
  unfold gOf partF
  rw [List.getD_eq_getElem?_getD, List.getElem?_map, List.getElem?_range hw]
  simp only [Option.map_some, Option.getD_some]
  omega
theorem part_fit {ms : List Mdl} {i : Nat} (hi : i < ms.length) (H : AllWF ms) : FitF ms[i].1 (tidyUp (upP ms)) (partF (1 + tot (ms.take i)) ms[i].1.length) where
  len := partF_len _ _
  rng w hw := by
    have B := blk_at ms 1 i hi (fun m hm => (H m hm).len)
    have := B.hi
    have lP : (upP ms).length = 1 + tot ms := by simp [upP, gRows_len]; omega
    rw [tidyUp_len, lP]
    simp only [partF, List.mem_map, List.mem_range] at hw
    obtain ⟨x, hx, rfl⟩ := hw
    omega
theorem part_isB {ms : List Mdl} {atoms : List ByteArray} {i : Nat} (hi : i < ms.length) (H : AllWF ms) (F : Fits atoms ms) (hA : fineB atoms = true) : IsB ms[i].1 ms[i].2 (tidyUp (upP ms)) (valG atoms ms) (partF (1 + tot (ms.take i)) ms[i].1.length) := by
  have B := blk_at ms 1 i hi (fun m hm => (H m hm).len)
  have hw := H _ (List.getElem_mem hi)
  have WP : WF (upP ms) (valG atoms ms) := wf_glue H F hA (p0 ms)
  have lP : (upP ms).length = 1 + tot ms := by simp [upP, gRows_len]; omega
  have hhi := B.hi
  have hlo := B.lo
  intro a ha
  rw [partF_g ha]
  refine ⟨?_, fun b hb => ?_, fun c hc => ?_⟩
  · have h1 := B.val a ha
    simp only [valG, List.getD, show 1 + tot (ms.take i) + a = (1 + tot (ms.take i) - 1 + a) + 1 by omega, List.getElem?_cons_succ, h1]
  · rw [partF_g (hb.lt hw.inR ha)]
    exact (reach_tidy WP (by omega)).2 ((reach_blk B hw.inR ha).2 ⟨b, rfl, hb⟩)
  · obtain ⟨b, e, hb⟩ := (reach_blk B hw.inR ha).1 ((reach_tidy WP (by omega)).1 hc)
    exact ⟨b, hb, by rw [partF_g (hb.lt hw.inR ha)]; exact e.symm⟩
end Go.Proofs.Ytinficcdpggiaaa

namespace Go.Proofs.Ytinficcdpggiaaa
open Go Go.Sym Go.Proofs.Try

variable {K : AVal → Heap → Prop} {ms : List Mdl} {atoms : List ByteArray} {xs : List Nd} {l va mU mV vt vr t : AVal} {h h0 : Heap}

theorem glued_end (SL : SmallL ms) (hM : Models l ms) (hSB : SB atoms) (hAl : atoms.length ≤ 1048576) (H : AllWF ms) (F : Fits atoms ms) (hF : fineB atoms = true) (hU : Intss mU (tidyUp (upP ms))) (hV : Strss mV (valG atoms ms)) (hx : Nodes t xs) (T : TabOK xs) {i : Nat} (hi : i < ms.length)
    {vf : AVal} (hf : Ints vf (partF (1 + tot (ms.take i)) ms[i].1.length)) {G : AVal → AVal → AVal → AVal → Int → Heap → Prop} (next : G l (.lptr [mU, mV]) vt t ((i : Int) + 1) h0) (n : Nat) :
    s6l3 K G (n + 1) l (.lptr [mU, mV]) vt t (i : Int) vf (ms[i].1.length : Int) h0 := by
  have Si := SL.each _ (List.getElem_mem hi)
  have Wi := H _ (List.getElem_mem hi)
  have hmax := Wi.max
  have hl := SL.len
  have WP : WF (upP ms) (valG atoms ms) := wf_glue H F hF (p0 ms)
  have hgl : (natI (List.range' 1 (tot ms))).length ≤ 1048576 := by have := F.max; simp [natI]; omega
  have SP : Small (tidyUp (upP ms)) (valG atoms ms) := small_tidy (small_glue SL H F hSB hAl hgl)
  have FF := part_fit hi H
  have BB := part_isB hi H F hF
  obtain ⟨a, b, ha, hbv, hix⟩ := hM.ix hi
  unfold s6l3
  rw [hix, addOff_lptr]
  simp only [List.drop_zero, ld1_lptr]
  rw [ha.len]
  refine ifT_neg (by simp) ?_
  rw [hix, ldN_agg2]
  simp only [tCons_cons, tNil_nil]
  rw [ldN_agg2]
  simp only [tCons_cons, tNil_nil]
  refine callG_of (bounded_ok Si ha hbv SP hU hV hf (by rw [partF_len]; omega) (fun h => absurd Wi h) (fun _ h => absurd (wf_tidy WP) h) (fun _ _ h => absurd FF h) fun _ _ _ => ?_)
  simp only [tTup_tuple, tCons_cons, tBool_bool, tInt_int, tNil_nil]
  refine ifT_neg (by simp [BB]) (ifT_neg rfl ?_)
  rw [hix, ldN_agg2]
  simp only [tCons_cons, tNil_nil]
  rw [ldN_agg2]
  simp only [tCons_cons, tNil_nil]
  refine callG_of (keeps_ok Si ha hbv SP hU hV Wi (wf_tidy WP) hf FF BB hx T ?_)
  rw [tBool_bool]
  exact ifT_neg rfl (rg_of (by omega) (by omega) next)

theorem glued_l3 (SL : SmallL ms) (hM : Models l ms) (hSB : SB atoms) (hAl : atoms.length ≤ 1048576) (H : AllWF ms) (F : Fits atoms ms) (hF : fineB atoms = true) (hU : Intss mU (tidyUp (upP ms))) (hV : Strss mV (valG atoms ms)) (hx : Nodes t xs) (T : TabOK xs) {i : Nat} (hi : i < ms.length) (hP : Ints vt (gPl 1 ms))
    {G : AVal → AVal → AVal → AVal → Int → Heap → Prop} (next : G l (.lptr [mU, mV]) vt t ((i : Int) + 1) h0) : ∀ d w : Nat, w + d + 1 = ms[i].1.length → ∀ vf h', Own h0 [.slc 1 vf ((partF (1 + tot (ms.take i)) w).map (.int .i64))] h' →
      s6l3 K G (d + 2) l (.lptr [mU, mV]) vt t (i : Int) vf (w : Int) h'
  | d, w, hd, vf, h', W => by
    have Wi := H _ (List.getElem_mem hi)
    have hmax := Wi.max
    have hmx := F.max
    have hle := tot_take ms i
    have hip : i < (gPl 1 ms).length := by rw [gPl_len]; exact hi
    obtain ⟨a, b, ha, hbv, hix⟩ := hM.ix hi
    unfold s6l3
    rw [hix, addOff_lptr]
    simp only [List.drop_zero, ld1_lptr]
    rw [ha.len]
    refine ifT_pos (by simp; omega) ?_
    have hget : (gPl 1 ms)[i] = ((1 + tot (ms.take i) : Nat) : Int) := by
      have := gPl_get ms 1 i hi
      rw [List.getElem?_eq_getElem hip] at this
      exact Option.some.inj this
    rw [hP.ix hip, ld1_lptr, tInt_int, hget]
    refine rg_of (by omega) (by omega) (W.app (i := 0) rfl (by rw [List.length_map, partF_len]; omega) (by rw [List.length_map, partF_len]; omega) fun v2 h2 W2 => rg_of (by omega) (by omega) ?_)
    have e : (partF (1 + tot (ms.take i)) w).map (AVal.int .i64) ++ [.int .i64 (((1 + tot (ms.take i) : Nat) : Int) + (w : Int))] = (partF (1 + tot (ms.take i)) (w + 1)).map (.int .i64) := by
      simp only [partF, List.range_succ, List.map_append, List.map_cons, List.map_nil]
      rw [show ((1 + tot (ms.take i) + w : Nat) : Int) = ((1 + tot (ms.take i) : Nat) : Int) + (w : Int) by omega]
    have W3 : Own h0 [.slc 1 v2 ((partF (1 + tot (ms.take i)) (w + 1)).map (.int .i64))] h2 := by rw [← e]; exact W2
    match d, hd with
    | 0, hd =>
      obtain ⟨v3, l1, s1⟩ := W3.lit (i := 0) rfl (S := nameOf v2) (fun _ h => h) (Lits.refl _)
      refine ⟨nameOf v2, [l, .lptr [mU, mV], vt, t, .int .i64 (i : Int), v3, .int .i64 ((w : Int) + 1)], h0, .cons (.refl _) (.cons (.refl _) (.cons (.refl _) (.cons (.refl _) (.cons (.refl _) (.cons l1 (Lits.refl _)))))), base_step W3 _ (fun n hn => W3.new 0 _ n rfl hn), rfl, ?_⟩
      have hw : w + 1 = ms[i].1.length := by omega
      rw [hw] at s1
      have := glued_end (K := K) SL hM hSB hAl H F hF hU hV hx T hi s1 next 0
      rw [← hw] at this
      exact this
    | d + 1, hd => exact s6l3_go (glued_l3 SL hM hSB hAl H F hF hU hV hx T hi hP next d (w + 1) (by omega) v2 h2 W3)

theorem glued_l2 (HH : runsTrue prog 20 20000 60 = true) (SL : SmallL ms) (hM : Models l ms) (hSB : SB atoms) (hAl : atoms.length ≤ 1048576) (H : AllWF ms) (F : Fits atoms ms) (hF : fineB atoms = true) (hU : Intss mU (tidyUp (upP ms))) (hV : Strss mV (valG atoms ms)) (hx : Nodes t xs) (T : TabOK xs) (hP : Ints vt (gPl 1 ms))
    (hk : K (.bool true) h0) : ∀ d i : Nat, i + d = ms.length → s6l2 K (d + 1) l (.lptr [mU, mV]) vt t (i : Int) h0
  | 0, i, hd => by
    unfold s6l2
    rw [hM.len]
    refine ifT_neg (by simp; omega) (callG_of (heads_ok HH ?_))
    rw [tBool_bool]
    exact retG_of hk
  | d + 1, i, hd => by
    have hi : i < ms.length := by omega
    have Wi := H _ (List.getElem_mem hi)
    have hpos := Wi.pos
    unfold s6l2
    rw [hM.len]
    refine ifT_pos (by simp; omega) (s6l3_in (ms[i].1.length - 1 + 2) ?_)
    exact glued_l3 SL hM hSB hAl H F hF hU hV hx T hi hP (s6l2_go (glued_l2 HH SL hM hSB hAl H F hF hU hV hx T hP hk d (i + 1) (by omega))) (ms[i].1.length - 1) 0 (by omega) .nilsl h0 ((Own.start h0).newN 1)

theorem glued_ok (HH : runsTrue prog 20 20000 60 = true) (SL : SmallL ms) (hM : Models l ms) (hA : Strs va atoms) (hSB : SB atoms) (hAl : atoms.length ≤ 1048576) (hr : Nodes vr xs) (hxl : xs.length ≤ 1048576) (hk : K (.bool true) h) : ACalls prog 6 [l, va, vr] h K := by
  refine s6_ok ?_
  unfold s6
  refine callG_of (glueM_ok SL hM hA hSB hAl (fun _ => ?_) (fun _ _ => ?_) fun H hF F vU vV pl hU hV hP => ?_)
  · simp only [tTup_tuple, tCons_cons, tInt_int, tNil_nil, tAgg_agg]
    refine newRow_in fun r hr0 => st_all (Heap.set_same _ _ _) rfl (ifT_pos rfl (callG_of (heads_ok HH ?_)))
    rw [Heap.set_set, tBool_bool]
    exact retG_drop (Heap.set_sub hr0) hk
  · simp only [tTup_tuple, tCons_cons, tInt_int, tNil_nil, tAgg_agg]
    refine newRow_in fun r hr0 => st_all (Heap.set_same _ _ _) rfl (ifT_pos rfl (callG_of (heads_ok HH ?_)))
    rw [Heap.set_set, tBool_bool]
    exact retG_drop (Heap.set_sub hr0) hk
  · simp only [tTup_tuple, tCons_cons, tInt_int, tNil_nil, tAgg_agg]
    have WP : WF (upP ms) (valG atoms ms) := wf_glue H F hF (p0 ms)
    have hgl : (natI (List.range' 1 (tot ms))).length ≤ 1048576 := by have := F.max; simp [natI]; omega
    have SP : Small (tidyUp (upP ms)) (valG atoms ms) := small_tidy (small_glue SL H F hSB hAl hgl)
    have R0 := root_glue H F hF
    refine newRow_in fun r hr0 => st_all (Heap.set_same _ _ _) rfl (ifT_neg rfl ?_)
    rw [Heap.set_set, ldN2 (Heap.set_same _ _ _)]
    simp only [tCons_cons, tNil_nil]
    refine callG_of (root17_ok SP hU hV (fun W a hR => ?_) (fun hn => absurd R0 (hn (wf_tidy WP) 0)))
    obtain rfl : a = 0 := IsRoot.unique W hR R0
    simp only [tTup_tuple, tCons_cons, tInt_int, tBool_bool, tNil_nil]
    refine ifT_neg rfl (ifT_neg rfl ?_)
    rw [hP.len, gPl_len, hM.len]
    refine ifT_neg (by simp) ?_
    rw [ld1_fld (Heap.set_same _ _ _) rfl]
    obtain ⟨e, he, hie⟩ := hV.ix (i := 0) (by simp [valG])
    have hie0 : ∀ K : AVal → Prop, ixS 1 vV 0 K = K (.lptr [e]) := hie
    rw [hie0, ld1_lptr]
    have he' : Strs e atoms := he
    refine callG_of (names_ok he' hA (by omega) ?_)
    rw [tBool_bool]
    refine ifT_neg (by simp) (callG_of (rowsOf_ok hr hxl fun t xs' hx T => ?_))
    refine ⟨fun q => q = r, [l, .lptr [vU, vV], pl, t, .int .i64 0], h, .cons (.refl _) (.cons (.ptr rfl (Heap.set_same _ _ _) rfl (Lits.refl _)) (Lits.refl _)), ⟨fun _ _ => trivial, fun q o hq => ⟨o, Heap.set_sub hr0 q o hq, (fun e => by rw [e, hr0] at hq; cases hq), .refl o⟩⟩, rfl, ms.length + 1, ?_⟩
    exact glued_l2 HH SL hM hSB hAl H F hF hU hV hx T hP hk ms.length 0 (by omega)
end Go.Proofs.Ytinficcdpggiaaa

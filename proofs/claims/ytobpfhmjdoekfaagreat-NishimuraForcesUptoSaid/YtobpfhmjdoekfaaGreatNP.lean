/- Words for contracts: memory that grows. No condition. Contracts: how a law of this layer ends. No condition. Contracts: rungs of the ladder: a number's rung, what worlds it has, its number. No condition. Contracts: the program's meeting, joining and implying of two rungs. No condition. Contracts: the program's reckoning with numbers of rungs. No condition. Contracts: the program's Below, Meet, Join, Imp. No condition. Plain facts: what worlds a reckoned rung has. No condition. Plain law: rungs are a Heyting algebra. No condition. Contracts: the document's rungs: Has, worlds, below, named. No condition. -/
import Derived.Test.YtobpfhmjdoekfaaGreatM5
import Derived.Test.YtobpfhmjdoekfaaGreatPF0
import Derived.Test.YtobpfhmjdoekfaaGreatPF1
import Derived.KernelRfl

set_option linter.unusedVariables false
set_option linter.unusedSimpArgs false

namespace Go.Proofs.YtobpfhmjdoekfaaGreat
open Go Go.Sym Go.Proofs.Tryz

variable {K : AVal → Heap → Prop} {h : Heap}

/-- there may be new things -/
def Ext (h h' : Heap) : Prop := ∀ q o, h q = some o → h' q = some o
theorem Ext.refl (h : Heap) : Ext h h := fun _ _ e => e
theorem Ext.trans {a b c : Heap} (x : Ext a b) (y : Ext b c) : Ext a c := fun q o e => y q o (x q o e)
theorem Ext.new {h : Heap} {r : Nat} (hr : h r = none) (o : AObj) : Ext h (h.set r o) := fun q o' e => by
  have : q ≠ r := fun e' => by rw [e', hr] at e; cases e
  rw [Heap.set_other _ _ this]
  exact e
theorem Ext.put {h h' : Heap} {r : Nat} (x : Ext h h') (hr : h r = none) (o : AObj) : Ext h (h'.set r o) := fun q o' e => by
  have : q ≠ r := fun e' => by rw [e', hr] at e; cases e
  rw [Heap.set_other _ _ this]
  exact x q o' e
theorem nilP_nil (X : Bool → Prop) : nilP .nilptr X = X true := rfl
theorem nilP_ptr (r i o : Nat) (X : Bool → Prop) : nilP (.ptr r i o) X = X false := rfl
theorem nilCheckA_ptr (r i o : Nat) (X : AVal → Prop) : nilCheckA (.ptr r i o) X = X (.ptr r i o) := rfl
def zRow : List AVal := [.int .i64 0, .str (ByteArray.mk #[]), .int .i64 0, .int .i64 0]
theorem st_z {H : Heap} {r : Nat} (hr : H r = some (.row 4 [.agg zRow])) {a b c d : AVal} {X : Heap → Prop} (hx : X (H.set r (.row 4 [.agg [a, b, c, d]]))) : st false H (.ptr r 0 0) [a, b, c, d] X := by
  simp only [st, hr, List.getElem?_cons_zero]
  exact chk_iff.2 ⟨rfl, hx⟩
end Go.Proofs.YtobpfhmjdoekfaaGreat

namespace Go.Proofs.YtobpfhmjdoekfaaGreat
open Go Go.Sym Go.Proofs.Tryz

variable {K : AVal → Heap → Prop} {h : Heap}

theorem eqQ_bool {p q : Bool} {X : Bool → Prop} (hx : X (p == q)) : eqQ prog 4 (.bool p) (.bool q) X := by
  have e : eqT prog 8 4 (.bool p) (.bool q) = some (p == q) := by cases p <;> cases q <;> kernel_rfl
  refine ⟨trivial, ?_⟩
  rw [e]
  exact hx
theorem num26_ok {e : Int} (hk : K (.int .i64 e) h) : ACalls prog 9 [.int .i64 e] h K := by
  refine s9_ok ?_
  unfold s9
  exact retG_of hk
def HeadsOK : Prop := ∀ {h' : Heap} {K : AVal → Heap → Prop}, K (.bool true) h' → ACalls prog 11 [] h' K
theorem headsRet (H : HeadsOK) (hk : ∀ h', K (.bool true) h') : callG prog 11 [] h fun v h' => tBool v fun b => retG (.bool b) h' K :=
  callG_of (H (by rw [tBool_bool]; exact retG_of (hk _)))

end Go.Proofs.YtobpfhmjdoekfaaGreat

namespace Go.Proofs.YtobpfhmjdoekfaaGreat
open Go Go.Sym Go.Proofs.Tryz

variable {K : AVal → Heap → Prop} {h : Heap}

structure Rung where
  all : Bool
  low : Nat
  gap : Bool
def Rung.cells (r : Rung) : List AVal := [.bool r.all, .int .i64 r.low, .bool r.gap]
def Rung.v (r : Rung) : AVal := .agg r.cells
def Rung.zero : Rung := ⟨false, 0, false⟩
def Rung.has (r : Rung) (w : Nat) : Bool := r.all || (decide (w < r.low) || (r.gap && w == r.low + 1))
/-- a number's rung -/
def ofK (k : Int) : Option Rung :=
  if k = -1 then some ⟨true, 0, false⟩ else if k < 0 ∨ 4096 < k then none else if k = 0 then some Rung.zero
  else if k % 2 = 1 then some ⟨false, ((k + 1) / 2).toNat, false⟩ else some ⟨false, (k / 2 - 1).toNat, true⟩
def Rung.num (r : Rung) : Int := if r.all then -1 else if r.gap then 2 * r.low + 2 else if r.low = 0 then 0 else 2 * r.low - 1

theorem ofK_low {k : Int} {r : Rung} (e : ofK k = some r) : r.low ≤ 50000 := by
  unfold ofK at e
  repeat' split at e
  all_goals first
    | cases e
    | skip
  all_goals simp [Rung.zero]
  all_goals omega

theorem st3 {H : Heap} {r : Nat} {a b c a' b' c' : AVal} (hr : H r = some (.row 3 [.agg [a', b', c']])) {X : Heap → Prop} (hx : X (H.set r (.row 3 [.agg [a, b, c]]))) : st false H (.ptr r 0 0) [a, b, c] X := by
  simp only [st, hr, List.getElem?_cons_zero]
  exact chk_iff.2 ⟨rfl, hx⟩
theorem ld3 {H : Heap} {r : Nat} {a b c : AVal} (hr : H r = some (.row 3 [.agg [a, b, c]])) {X : List AVal → Prop} (hx : X [a, b, c]) : ldN 3 H (.ptr r 0 0) X := by
  rw [ldN_fld (n := 3) (cs := [a, b, c]) hr rfl]
  exact hx
theorem ldL {H : Heap} {a b c : AVal} {X : List AVal → Prop} (hx : X [a, b, c]) : ldN 3 H (.lptr [a, b, c]) X := by
  rw [ldN_lptr 3 H _ _ (by simp)]
  exact hx

theorem of_ok (k : Int) (hk : ∀ h', Ext h h' → K (.tuple [((ofK k).getD Rung.zero).v, .bool (ofK k).isSome]) h') : ACalls prog 73 [.int .i64 k] h K := by
  refine s73_ok ?_
  unfold s73
  refine newRow_in fun r hr => ?_
  have x0 : Ext h (h.set r (.row 3 [.agg [.bool false, .int .i64 0, .bool false]])) := Ext.new hr _
  have fin : ∀ (g : Rung) (b : Bool) {X : AVal → Heap → Prop} (_ : ∀ h', Ext h h' → X (.tuple [g.v, .bool b]) h'),
      st false (h.set r (.row 3 [.agg [.bool false, .int .i64 0, .bool false]])) (.ptr r 0 0) g.cells fun h_1 => ldN 3 h_1 (.ptr r 0 0) fun l_ => tCons l_ fun v l_1 => tBool v fun v1 => tCons l_1 fun v2 l_2 => tInt .i64 v2 fun v3 => tCons l_2 fun v4 l_3 => tBool v4 fun v5 => tNil l_3 (retG (.tuple [.agg [.bool v1, .int .i64 v3, .bool v5], .bool b]) h_1 X) := by
    intro g b X hX
    refine st3 (Heap.set_same _ _ _) (ld3 (Heap.set_same _ _ _) ?_)
    simp only [tCons_cons, tBool_bool, tInt_int, tNil_nil]
    exact retG_of (hX _ (x0.put hr _))
  have bad : (k < 0 ∨ 4096 < k) → k ≠ -1 → s73c1 K k (.ptr r 0 0) true (h.set r (.row 3 [.agg [.bool false, .int .i64 0, .bool false]])) := fun h1 h2 => by
    have e : ofK k = none := by unfold ofK; rw [if_neg h2, if_pos h1]
    rw [e] at hk
    exact ifT_pos rfl (fin Rung.zero false hk)
  by_cases h1 : k = -1
  · subst h1
    exact ifT_pos rfl (fin ⟨true, 0, false⟩ true (by simpa [ofK] using hk))
  · refine ifT_neg (by simpa using h1) ?_
    by_cases h2 : k < 0
    · exact ifT_pos (by simpa using h2) (bad (.inl h2) h1)
    · refine ifT_neg (by simpa using h2) ?_
      by_cases h3 : 4096 < k
      · rw [show decide (4096 < k) = true by simpa using h3]
        exact bad (.inr h3) h1
      · rw [show decide (4096 < k) = false by simpa using h3]
        refine ifT_neg rfl ?_
        by_cases h4 : k = 0
        · subst h4
          exact ifT_pos rfl (fin Rung.zero true (by simpa [ofK] using hk))
        · refine ifT_neg (by simpa using h4) ⟨by omega, ?_⟩
          by_cases h5 : k % 2 = 1
          · have e : ofK k = some ⟨false, ((k + 1) / 2).toNat, false⟩ := by unfold ofK; rw [if_neg h1, if_neg (by omega), if_neg h4, if_pos h5]
            rw [e] at hk
            refine ifT_pos (by rw [Int.tmod_eq_emod_of_nonneg (by omega)]; simpa using h5) (rg_of (by omega) (by omega) ⟨by omega, rg_of (by rw [Int.tdiv_eq_ediv_of_nonneg (by omega)]; omega) (by rw [Int.tdiv_eq_ediv_of_nonneg (by omega)]; omega) ?_⟩)
            have := fin ⟨false, ((k + 1) / 2).toNat, false⟩ true hk
            unfold Rung.cells at this
            simp only [Int.toNat_of_nonneg (show 0 ≤ (k + 1) / 2 by omega)] at this
            rw [Int.tdiv_eq_ediv_of_nonneg (by omega)]
            exact this
          · have e : ofK k = some ⟨false, (k / 2 - 1).toNat, true⟩ := by unfold ofK; rw [if_neg h1, if_neg (by omega), if_neg h4, if_neg h5]
            rw [e] at hk
            refine ifT_neg (by rw [Int.tmod_eq_emod_of_nonneg (by omega)]; simpa using h5) ⟨by omega, rg_of (by rw [Int.tdiv_eq_ediv_of_nonneg (by omega)]; omega) (by rw [Int.tdiv_eq_ediv_of_nonneg (by omega)]; omega) (rg_of (by rw [Int.tdiv_eq_ediv_of_nonneg (by omega)]; omega) (by rw [Int.tdiv_eq_ediv_of_nonneg (by omega)]; omega) ?_)⟩
            have := fin ⟨false, (k / 2 - 1).toNat, true⟩ true hk
            unfold Rung.cells at this
            simp only [Int.toNat_of_nonneg (show 0 ≤ k / 2 - 1 by omega)] at this
            rw [Int.tdiv_eq_ediv_of_nonneg (by omega)]
            exact this

theorem has_ok {r : Rung} (hr : r.low ≤ 100000) (w : Nat) (hk : K (.bool (r.has w)) h) : ACalls prog 85 [r.v, .int .i64 w] h K := by
  obtain ⟨all, low, gap⟩ := r
  refine s85_ok ?_
  unfold s85
  unfold Rung.has at hk
  simp only at hk hr
  cases all with
  | true => exact ifT_pos rfl (retG_of (by simpa using hk))
  | false =>
    refine ifT_neg rfl ?_
    by_cases h1 : w < low
    · exact ifT_pos (by simp; omega) (retG_of (by simpa [h1] using hk))
    · refine ifT_neg (by simp; omega) ?_
      cases gap with
      | false => exact ifT_neg rfl (retG_of (by simpa [h1] using hk))
      | true =>
        refine ifT_pos rfl (rg_of (by dsimp only; omega) (by dsimp only; omega) (retG_of ?_))
        rw [show ((w : Int) == (low : Int) + 1) = (w == low + 1) by rw [Bool.eq_iff_iff]; simp; omega]
        simpa [h1] using hk

theorem number_ok {r : Rung} (hr : r.low ≤ 100000) (hk : K (.int .i64 r.num) h) : ACalls prog 44 [r.v] h K := by
  obtain ⟨all, low, gap⟩ := r
  refine s44_ok ?_
  unfold s44
  unfold Rung.num at hk
  simp only at hk hr
  cases all with
  | true => exact ifT_pos rfl (retG_of (by simpa using hk))
  | false =>
    refine ifT_neg rfl ?_
    cases gap with
    | true => exact ifT_pos rfl (rg_of (by dsimp only; omega) (by dsimp only; omega) (rg_of (by dsimp only; omega) (by dsimp only; omega) (retG_of (by simpa using hk))))
    | false =>
      refine ifT_neg rfl ?_
      by_cases h1 : low = 0
      · subst h1
        exact ifT_pos rfl (retG_of (by simpa using hk))
      · exact ifT_neg (by simp; omega) (rg_of (by dsimp only; omega) (by dsimp only; omega) (rg_of (by dsimp only; omega) (by dsimp only; omega) (retG_of (by simpa [h1] using hk))))
end Go.Proofs.YtobpfhmjdoekfaaGreat

namespace Go.Proofs.YtobpfhmjdoekfaaGreat
open Go Go.Sym Go.Proofs.Tryz

variable {K : AVal → Heap → Prop} {h : Heap}

theorem max2_ok (a b : Int) (hk : K (.int .i64 (max a b)) h) : ACalls prog 104 [.lsl 1 [.int .i64 a, .int .i64 b]] h K := by
  refine s104_ok ?_
  unfold s104
  refine callG_of (s132_ok ?_)
  unfold s132
  have hv : Ints (.lsl 1 [.int .i64 a, .int .i64 b]) [a, b] := .inl rfl
  rw [hv.len]
  refine ifT_neg rfl ?_
  unfold s132c1
  rw [show (0 : Int) = ((0 : Nat) : Int) from rfl, hv.ix (i := 0) (by simp), ld1_lptr, tInt_int]
  refine s132l2_in 2 ?_
  unfold s132l2
  rw [hv.len]
  refine ifT_pos rfl ?_
  rw [show (1 : Int) = ((1 : Nat) : Int) from rfl, hv.ix (i := 1) (by simp), ld1_lptr, tInt_int]
  refine rg_of (by omega) (by omega) (s132l2_go ?_)
  unfold s132l2
  rw [hv.len]
  refine ifT_neg rfl (retG_of ?_)
  rw [tInt_int]
  exact retG_of hk

theorem far_ok {a b : Rung} (ha : a.low ≤ 50000) (hb : b.low ≤ 50000) (hk : K (.int .i64 ((max a.low b.low + 3 : Nat) : Int)) h) : ACalls prog 83 [a.v, b.v] h K := by
  refine s83_ok (a_all := a.all) (a_low := a.low) (a_gap := a.gap) (b_all := b.all) (b_low := b.low) (b_gap := b.gap) ?_
  unfold s83
  refine callG_of (max2_ok _ _ ?_)
  rw [tInt_int]
  have e : max (a.low : Int) (b.low : Int) + 3 = ((max a.low b.low + 3 : Nat) : Int) := by omega
  rw [e]
  exact rg_of (by omega) (by omega) (retG_of hk)

/-- what a function value tells of a world -/
def Tells (f : AVal) (p : Nat → Bool) : Prop := ∀ (w : Nat) (h : Heap) (K : AVal → Heap → Prop), K (.bool (p w)) h → callV prog f [.int .i64 w] h K

theorem meet_tells {a b : Rung} (ha : a.low ≤ 50000) (hb : b.low ≤ 50000) : Tells (.func (.func 84) [] [.lptr a.cells, .lptr b.cells]) (fun w => a.has w && b.has w) := by
  intro w h K hk
  show callG prog 84 ([] ++ [.int .i64 w] ++ [.lptr a.cells, .lptr b.cells]) h K
  refine callG_of (s84_ok ?_)
  unfold s84
  refine ldL ?_
  simp only [tCons_cons, tBool_bool, tInt_int, tNil_nil]
  refine callG_of (has_ok (r := a) (by omega) w ?_)
  rw [tBool_bool]
  cases e : a.has w with
  | false => exact ifT_neg rfl (retG_of (by simpa [e] using hk))
  | true =>
    refine ifT_pos rfl (ldL ?_)
    simp only [tCons_cons, tBool_bool, tInt_int, tNil_nil]
    refine callG_of (has_ok (r := b) (by omega) w ?_)
    rw [tBool_bool]
    exact retG_of (by simpa [e] using hk)
theorem join_tells {a b : Rung} (ha : a.low ≤ 50000) (hb : b.low ≤ 50000) : Tells (.func (.func 86) [] [.lptr a.cells, .lptr b.cells]) (fun w => a.has w || b.has w) := by
  intro w h K hk
  show callG prog 86 ([] ++ [.int .i64 w] ++ [.lptr a.cells, .lptr b.cells]) h K
  refine callG_of (s86_ok ?_)
  unfold s86
  refine ldL ?_
  simp only [tCons_cons, tBool_bool, tInt_int, tNil_nil]
  refine callG_of (has_ok (r := a) (by omega) w ?_)
  rw [tBool_bool]
  cases e : a.has w with
  | true => exact ifT_pos rfl (retG_of (by simpa [e] using hk))
  | false =>
    refine ifT_neg rfl (ldL ?_)
    simp only [tCons_cons, tBool_bool, tInt_int, tNil_nil]
    refine callG_of (has_ok (r := b) (by omega) w ?_)
    rw [tBool_bool]
    exact retG_of (by simpa [e] using hk)
theorem bars_tells {a b : Rung} (ha : a.low ≤ 50000) (hb : b.low ≤ 50000) : Tells (.func (.func 87) [] [.lptr a.cells, .lptr b.cells]) (fun w => a.has w && !b.has w) := by
  intro w h K hk
  show callG prog 87 ([] ++ [.int .i64 w] ++ [.lptr a.cells, .lptr b.cells]) h K
  refine callG_of (s87_ok ?_)
  unfold s87
  refine ldL ?_
  simp only [tCons_cons, tBool_bool, tInt_int, tNil_nil]
  refine callG_of (has_ok (r := a) (by omega) w ?_)
  rw [tBool_bool]
  cases e : a.has w with
  | false => exact ifT_neg rfl (retG_of (by simpa [e] using hk))
  | true =>
    refine ifT_pos rfl (ldL ?_)
    simp only [tCons_cons, tBool_bool, tInt_int, tNil_nil]
    refine callG_of (has_ok (r := b) (by omega) w ?_)
    rw [tBool_bool]
    exact retG_of (by simpa [e] using hk)

/-- the first world that is not in, and whether the next one is; all: there is none -/
def setR (p : Nat → Bool) : Nat → Nat → Rung
  | 0, _ => ⟨true, 0, false⟩
  | d + 1, w => if p w then setR p d (w + 1) else ⟨false, w, p (w + 1)⟩

theorem fin3 {g : Rung} {r : Nat} {hh h0 : Heap} {a' b' c' : AVal} (hr : hh r = some (.row 3 [.agg [a', b', c']])) (hn : h0 r = none) (x : Ext h0 hh) {X : AVal → Heap → Prop} (hX : ∀ h', Ext h0 h' → X g.v h') :
    st false hh (.ptr r 0 0) g.cells fun h_1 => ldN 3 h_1 (.ptr r 0 0) fun l_ => tCons l_ fun v l_1 => tBool v fun v1 => tCons l_1 fun v2 l_2 => tInt .i64 v2 fun v3 => tCons l_2 fun v4 l_3 => tBool v4 fun v5 => tNil l_3 (retG (.agg [.bool v1, .int .i64 v3, .bool v5]) h_1 X) := by
  refine st3 hr (ld3 (Heap.set_same _ _ _) ?_)
  simp only [tCons_cons, tBool_bool, tInt_int, tNil_nil]
  exact retG_of (hX _ (x.put hn _))

theorem set_loop {f : AVal} {p : Nat → Bool} (hf : Tells f p) {far r : Nat} (hfar : far ≤ 100000) {hh h0 : Heap} {a' b' c' : AVal} (hr : hh r = some (.row 3 [.agg [a', b', c']])) (hn : h0 r = none) (x : Ext h0 hh) :
    ∀ d w : Nat, w + d = far → (∀ h', Ext h0 h' → K (setR p d w).v h') → s82l1 K (d + 1) f (.ptr r 0 0) (far : Int) (w : Int) hh
  | 0, w, hd, hk => by
    unfold s82l1
    exact ifT_neg (by simp; omega) (fin3 (g := ⟨true, 0, false⟩) hr hn x hk)
  | d + 1, w, hd, hk => by
    unfold s82l1
    refine ifT_pos (by simp; omega) (hf w _ _ ?_)
    rw [tBool_bool]
    unfold setR at hk
    by_cases hp : p w = true
    · rw [if_pos hp] at hk
      exact ifT_neg (by simp [hp]) (rg_of (by omega) (by omega) (s82l1_go (set_loop hf hfar hr hn x d (w + 1) (by omega) hk)))
    · rw [if_neg hp] at hk
      refine ifT_pos (by simpa using hp) (rg_of (by omega) (by omega) (hf (w + 1) _ _ ?_))
      rw [tBool_bool]
      exact fin3 (g := ⟨false, w, p (w + 1)⟩) hr hn x hk
theorem set_ok {f : AVal} {p : Nat → Bool} (hf : Tells f p) {far : Nat} (hfar : far ≤ 100000) (hk : ∀ h', Ext h h' → K (setR p far 0).v h') : ACalls prog 82 [.int .i64 far, f] h K := by
  refine s82_ok ?_
  unfold s82
  refine newRow_in fun r hr => s82l1_in (far + 1) ?_
  exact set_loop hf hfar (Heap.set_same _ _ _) hr (Ext.new hr _) far 0 (by omega) hk
end Go.Proofs.YtobpfhmjdoekfaaGreat

namespace Go.Proofs.YtobpfhmjdoekfaaGreat
open Go Go.Sym Go.Proofs.Tryz

variable {K : AVal → Heap → Prop} {h : Heap}

def farN (a b : Rung) : Nat := max a.low b.low + 3
def meetR (a b : Rung) : Rung := setR (fun w => a.has w && b.has w) (farN a b) 0
def joinR (a b : Rung) : Rung := setR (fun w => a.has w || b.has w) (farN a b) 0
def barB (a b : Rung) (w : Nat) : Bool := !(a.has w && !b.has w)
def impR (a b : Rung) : Rung := setR (barB a b) (farN a b) 0
theorem setR_low {p : Nat → Bool} : ∀ d w : Nat, (setR p d w).low ≤ w + d
  | 0, w => by simp [setR]
  | d + 1, w => by
    unfold setR
    split
    · have := setR_low (p := p) d (w + 1); omega
    · dsimp only; omega

/-- a function that makes a rung of two -/
def HowOK (f : FuncId) (R : Rung → Rung → Rung) : Prop := (∀ a b : Rung, a.low ≤ 50000 → b.low ≤ 50000 → (R a b).low ≤ 100000) ∧
  ∀ (a b : Rung) (h : Heap) (K : AVal → Heap → Prop), a.low ≤ 50000 → b.low ≤ 50000 → (∀ h', Ext h h' → K (R a b).v h') → ACalls prog f [a.v, b.v] h K

theorem meet_how : HowOK 41 meetR := by
  refine ⟨fun a b ha hb => by have := setR_low (p := fun w => a.has w && b.has w) (farN a b) 0; unfold farN at this; show (setR _ _ _).low ≤ _; unfold farN; omega, fun a b h K ha hb hk => ?_⟩
  refine s41_ok (a_all := a.all) (a_low := a.low) (a_gap := a.gap) (b_all := b.all) (b_low := b.low) (b_gap := b.gap) ?_
  unfold s41
  refine newRow_in fun r hr => callG_of (far_ok (a := a) (b := b) ha hb ?_)
  rw [tInt_int]
  refine callG_of (set_ok (meet_tells ha hb) (by omega) fun h2 x2 => ?_)
  simp only [Rung.v, Rung.cells, tAgg_agg, tCons_cons, tBool_bool, tInt_int, tNil_nil]
  exact fin3 (g := meetR a b) (x2 r _ (Heap.set_same _ _ _)) hr ((Ext.new hr _).trans x2) hk
theorem join_how : HowOK 42 joinR := by
  refine ⟨fun a b ha hb => by have := setR_low (p := fun w => a.has w || b.has w) (farN a b) 0; unfold farN at this; show (setR _ _ _).low ≤ _; unfold farN; omega, fun a b h K ha hb hk => ?_⟩
  refine s42_ok (a_all := a.all) (a_low := a.low) (a_gap := a.gap) (b_all := b.all) (b_low := b.low) (b_gap := b.gap) ?_
  unfold s42
  refine newRow_in fun r hr => callG_of (far_ok (a := a) (b := b) ha hb ?_)
  rw [tInt_int]
  refine callG_of (set_ok (join_tells ha hb) (by omega) fun h2 x2 => ?_)
  simp only [Rung.v, Rung.cells, tAgg_agg, tCons_cons, tBool_bool, tInt_int, tNil_nil]
  exact fin3 (g := joinR a b) (x2 r _ (Heap.set_same _ _ _)) hr ((Ext.new hr _).trans x2) hk

theorem bar_no {a b : Rung} {w : Nat} (h : barB a b w = true) : (a.has w && !b.has w) = false := by
  unfold barB at h
  cases e : (a.has w && !b.has w) with
  | false => rfl
  | true => rw [e] at h; cases h
theorem bar_yes {a b : Rung} {w : Nat} (h : ¬ barB a b w = true) : (a.has w && !b.has w) = true := by
  unfold barB at h
  cases e : (a.has w && !b.has w) with
  | false => rw [e] at h; exact absurd rfl h
  | true => rfl
theorem imp_loop {f : AVal} {a b : Rung} (hf : Tells f (fun w => a.has w && !b.has w)) {far r : Nat} (hfar : far ≤ 100000) {hh h0 : Heap} {a' b' c' : AVal} (hr : hh r = some (.row 3 [.agg [a', b', c']])) (hn : h0 r = none) (x : Ext h0 hh) :
    ∀ d w : Nat, w + d = far → (∀ h', Ext h0 h' → K (setR (barB a b) d w).v h') → s43l1 K (d + 1) (.ptr r 0 0) f (far : Int) (w : Int) hh
  | 0, w, hd, hk => by
    unfold s43l1
    exact ifT_neg (by simp; omega) (fin3 (g := ⟨true, 0, false⟩) hr hn x hk)
  | d + 1, w, hd, hk => by
    unfold s43l1
    refine ifT_pos (by simp; omega) (hf w _ _ ?_)
    rw [tBool_bool]
    unfold setR at hk
    by_cases hp : barB a b w = true
    · rw [if_pos hp] at hk
      refine ifT_neg (bar_no hp) (rg_of (by omega) (by omega) (s43l1_go (imp_loop hf hfar hr hn x d (w + 1) (by omega) hk)))
    · rw [if_neg hp] at hk
      refine ifT_pos (bar_yes hp) (rg_of (by omega) (by omega) (hf (w + 1) _ _ ?_))
      rw [tBool_bool]
      exact fin3 (g := ⟨false, w, barB a b (w + 1)⟩) hr hn x hk
theorem imp_how : HowOK 43 impR := by
  refine ⟨fun a b ha hb => by have := setR_low (p := barB a b) (farN a b) 0; unfold farN at this; show (setR _ _ _).low ≤ _; unfold farN; omega, fun a b h K ha hb hk => ?_⟩
  refine s43_ok (a_all := a.all) (a_low := a.low) (a_gap := a.gap) (b_all := b.all) (b_low := b.low) (b_gap := b.gap) ?_
  unfold s43
  refine newRow_in fun r hr => callG_of (far_ok (a := a) (b := b) ha hb ?_)
  rw [tInt_int]
  exact s43l1_in (farN a b + 1) (imp_loop (bars_tells ha hb) (by omega) (Heap.set_same _ _ _) hr (Ext.new hr _) (farN a b) 0 (by unfold farN; omega) hk)

/-- the answer to two numbers -/
def twoV (R : Rung → Rung → Rung) (a b : Int) : Int × Int := match ofK a, ofK b with
  | some x, some y => if 4096 < (R x y).num then (0, 2) else ((R x y).num, 0)
  | _, _ => (0, 2)
theorem getD_low (k : Int) : ((ofK k).getD Rung.zero).low ≤ 50000 := by
  cases e : ofK k with
  | none => simp [Rung.zero]
  | some r => exact ofK_low e
theorem two_c1 {f : FuncId} {R : Rung → Rung → Rung} (H : HowOK f R) {x y : Rung} (hx : x.low ≤ 50000) (hy : y.low ≤ 50000) {r r1 : Nat} {hh h0 : Heap} (x0 : Ext h0 hh) (h1 : hh r = some (.row 3 [x.v])) (h2 : hh r1 = some (.row 3 [y.v]))
    (hk : ∀ h', Ext h0 h' → K (.tuple [.int .i64 (if 4096 < (R x y).num then 0 else (R x y).num), .int .i64 (if 4096 < (R x y).num then 2 else 0)]) h') :
    s72c1 K (.func (.func f) [] []) (.ptr r 0 0) (.ptr r1 0 0) false hh := by
  unfold s72c1
  refine ifT_neg rfl (ld3 h1 ?_)
  simp only [tCons_cons, tBool_bool, tInt_int, tNil_nil]
  refine ld3 h2 ?_
  simp only [tCons_cons, tBool_bool, tInt_int, tNil_nil]
  show callG prog f ([] ++ [x.v, y.v] ++ []) hh _
  refine callG_of (H.2 x y hh _ hx hy fun h3 x3 => ?_)
  simp only [Rung.v, Rung.cells, tAgg_agg, tCons_cons, tBool_bool, tInt_int, tNil_nil]
  refine callG_of (number_ok (r := R x y) (H.1 x y hx hy) ?_)
  rw [tInt_int]
  by_cases hb : 4096 < (R x y).num
  · exact ifT_pos (by simpa using hb) (retG_of (by have := hk h3 (x0.trans x3); simpa [hb] using this))
  · exact ifT_neg (by simpa using hb) (retG_of (by have := hk h3 (x0.trans x3); simpa [hb] using this))
theorem two_ok {f : FuncId} {R : Rung → Rung → Rung} (H : HowOK f R) (a b : Int) (hk : ∀ h', Ext h h' → K (.tuple [.int .i64 (twoV R a b).1, .int .i64 (twoV R a b).2]) h') : ACalls prog 72 [.int .i64 a, .int .i64 b, .func (.func f) [] []] h K := by
  refine s72_ok ?_
  unfold s72
  refine callG_of (of_ok a fun h1 x1 => ?_)
  simp only [Rung.v, Rung.cells, tTup_tuple, tAgg_agg, tCons_cons, tBool_bool, tInt_int, tNil_nil]
  refine newRow_in fun r hr => st3 (Heap.set_same _ _ _) (callG_of (of_ok b fun h2 x2 => ?_))
  simp only [Rung.v, Rung.cells, tTup_tuple, tAgg_agg, tCons_cons, tBool_bool, tInt_int, tNil_nil]
  refine newRow_in fun r1 hr1 => st3 (Heap.set_same _ _ _) ?_
  have x3 := x1.trans (((Ext.new hr (.row 3 [.agg [.bool false, .int .i64 0, .bool false]])).put hr (.row 3 [((ofK a).getD Rung.zero).v])).trans x2)
  have x4 := x3.trans ((Ext.new hr1 (.row 3 [.agg [.bool false, .int .i64 0, .bool false]])).put hr1 (.row 3 [((ofK b).getD Rung.zero).v]))
  have hra : h2 r = some (.row 3 [((ofK a).getD Rung.zero).v]) := x2 r _ (Heap.set_same _ _ _)
  have hne : r ≠ r1 := fun e => by rw [← e, hra] at hr1; cases hr1
  unfold twoV at hk
  cases ea : ofK a with
  | none =>
    rw [ea] at hk
    refine ifT_pos rfl ?_
    exact ifT_pos rfl (retG_of (hk _ x4))
  | some x =>
    rw [ea] at hk hra
    refine ifT_neg rfl ?_
    cases eb : ofK b with
    | none =>
      rw [eb] at hk x4
      exact ifT_pos rfl (retG_of (hk _ x4))
    | some y =>
      rw [eb] at hk x4
      refine two_c1 H (ofK_low ea) (ofK_low eb) x4 ?_ (Heap.set_same _ _ _) fun h' x' => ?_
      · rw [Heap.set_other _ _ hne, Heap.set_other _ _ hne]
        exact hra
      · have := hk h' x'
        by_cases hb : 4096 < (R x y).num
        · simpa [hb] using this
        · simpa [hb] using this
end Go.Proofs.YtobpfhmjdoekfaaGreat

namespace Go.Proofs.YtobpfhmjdoekfaaGreat
open Go Go.Sym Go.Proofs.Tryz

variable {K : AVal → Heap → Prop} {h : Heap}

theorem meetP_ok (a b : Int) (hk : ∀ h', Ext h h' → K (.tuple [.int .i64 (twoV meetR a b).1, .int .i64 (twoV meetR a b).2]) h') : ACalls prog 35 [.int .i64 a, .int .i64 b] h K := by
  refine s35_ok ?_
  unfold s35
  refine callG_of (two_ok meet_how a b fun h1 x1 => ?_)
  simp only [tTup_tuple, tCons_cons, tInt_int, tNil_nil]
  exact retG_of (hk _ x1)
theorem joinP_ok (a b : Int) (hk : ∀ h', Ext h h' → K (.tuple [.int .i64 (twoV joinR a b).1, .int .i64 (twoV joinR a b).2]) h') : ACalls prog 34 [.int .i64 a, .int .i64 b] h K := by
  refine s34_ok ?_
  unfold s34
  refine callG_of (two_ok join_how a b fun h1 x1 => ?_)
  simp only [tTup_tuple, tCons_cons, tInt_int, tNil_nil]
  exact retG_of (hk _ x1)
theorem impP_ok (a b : Int) (hk : ∀ h', Ext h h' → K (.tuple [.int .i64 (twoV impR a b).1, .int .i64 (twoV impR a b).2]) h') : ACalls prog 33 [.int .i64 a, .int .i64 b] h K := by
  refine s33_ok ?_
  unfold s33
  refine callG_of (two_ok imp_how a b fun h1 x1 => ?_)
  simp only [tTup_tuple, tCons_cons, tInt_int, tNil_nil]
  exact retG_of (hk _ x1)

/-- is one rung below the other? -/
def belowV (a b : Int) : Bool × Int := match ofK a, ofK b with
  | some x, some y => ((impR x y).all, 0)
  | _, _ => (false, 2)
theorem below_ok {x y : Rung} (hx : x.low ≤ 50000) (hy : y.low ≤ 50000) (hk : ∀ h', Ext h h' → K (.bool (impR x y).all) h') : ACalls prog 74 [x.v, y.v] h K := by
  refine s74_ok (a_all := x.all) (a_low := x.low) (a_gap := x.gap) (b_all := y.all) (b_low := y.low) (b_gap := y.gap) ?_
  unfold s74
  refine callG_of (imp_how.2 x y h _ hx hy fun h1 x1 => ?_)
  simp only [Rung.v, Rung.cells, tAgg_agg, tCons_cons, tBool_bool, tInt_int, tNil_nil]
  exact retG_of (hk _ x1)
theorem belowP_ok (a b : Int) (hk : ∀ h', Ext h h' → K (.tuple [.bool (belowV a b).1, .int .i64 (belowV a b).2]) h') : ACalls prog 36 [.int .i64 a, .int .i64 b] h K := by
  refine s36_ok ?_
  unfold s36
  refine callG_of (of_ok a fun h1 x1 => ?_)
  simp only [Rung.v, Rung.cells, tTup_tuple, tAgg_agg, tCons_cons, tBool_bool, tInt_int, tNil_nil]
  refine newRow_in fun r hr => st3 (Heap.set_same _ _ _) (callG_of (of_ok b fun h2 x2 => ?_))
  simp only [Rung.v, Rung.cells, tTup_tuple, tAgg_agg, tCons_cons, tBool_bool, tInt_int, tNil_nil]
  refine newRow_in fun r1 hr1 => st3 (Heap.set_same _ _ _) ?_
  have x3 := x1.trans (((Ext.new hr (.row 3 [.agg [.bool false, .int .i64 0, .bool false]])).put hr (.row 3 [((ofK a).getD Rung.zero).v])).trans x2)
  have x4 := x3.trans ((Ext.new hr1 (.row 3 [.agg [.bool false, .int .i64 0, .bool false]])).put hr1 (.row 3 [((ofK b).getD Rung.zero).v]))
  have hra : h2 r = some (.row 3 [((ofK a).getD Rung.zero).v]) := x2 r _ (Heap.set_same _ _ _)
  have hne : r ≠ r1 := fun e => by rw [← e, hra] at hr1; cases hr1
  unfold belowV at hk
  cases ea : ofK a with
  | none =>
    rw [ea] at hk
    refine ifT_pos rfl ?_
    exact ifT_pos rfl (retG_of (hk _ x4))
  | some x =>
    rw [ea] at hk hra
    refine ifT_neg rfl ?_
    cases eb : ofK b with
    | none =>
      rw [eb] at hk x4
      exact ifT_pos rfl (retG_of (hk _ x4))
    | some y =>
      rw [eb] at hk x4
      unfold s36c1
      refine ifT_neg rfl (ld3 (a := .bool x.all) (b := .int .i64 x.low) (c := .bool x.gap) (by rw [Heap.set_other _ _ hne, Heap.set_other _ _ hne]; exact hra) ?_)
      simp only [tCons_cons, tBool_bool, tInt_int, tNil_nil]
      refine ld3 (a := .bool y.all) (b := .int .i64 y.low) (c := .bool y.gap) (Heap.set_same _ _ _) ?_
      simp only [tCons_cons, tBool_bool, tInt_int, tNil_nil]
      refine callG_of (below_ok (ofK_low ea) (ofK_low eb) fun h3 x5 => ?_)
      rw [tBool_bool]
      exact retG_of (hk _ (x4.trans x5))
end Go.Proofs.YtobpfhmjdoekfaaGreat

namespace Go.Proofs.YtobpfhmjdoekfaaGreat
open Go Go.Sym

theorem has_iff (r : Rung) (w : Nat) : r.has w = true ↔ r.all = true ∨ w < r.low ∨ (r.gap = true ∧ w = r.low + 1) := by
  unfold Rung.has
  simp
theorem has_down {r : Rung} {v w : Nat} (h : r.has w = true) (hv : v + 2 ≤ w) : r.has v = true := by
  rw [has_iff] at h ⊢
  rcases h with h | h | ⟨_, h⟩
  · exact .inl h
  · exact .inr (.inl (by omega))
  · exact .inr (.inl (by omega))
/-- where the search stops -/
theorem setR_cases {p : Nat → Bool} : ∀ d w : Nat, ((∀ v, w ≤ v → v < w + d → p v = true) ∧ setR p d w = ⟨true, 0, false⟩) ∨
    ∃ F, w ≤ F ∧ F < w + d ∧ p F = false ∧ (∀ v, w ≤ v → v < F → p v = true) ∧ setR p d w = ⟨false, F, p (F + 1)⟩
  | 0, w => .inl ⟨fun v h1 h2 => by omega, rfl⟩
  | d + 1, w => by
    unfold setR
    by_cases hp : p w = true
    · rw [if_pos hp]
      rcases setR_cases (p := p) d (w + 1) with ⟨h1, h2⟩ | ⟨F, h1, h2, h3, h4, h5⟩
      · refine .inl ⟨fun v a b => ?_, h2⟩
        rcases Nat.lt_or_ge w v with e | e
        · exact h1 v e (by omega)
        · obtain rfl : v = w := by omega
          exact hp
      · refine .inr ⟨F, by omega, by omega, h3, fun v a b => ?_, h5⟩
        rcases Nat.lt_or_ge w v with e | e
        · exact h4 v e b
        · obtain rfl : v = w := by omega
          exact hp
    · rw [if_neg hp]
      exact .inr ⟨w, by omega, by omega, by simpa using hp, fun v a b => by omega, rfl⟩
/-- what the reckoned rung has: what is told, but nothing behind the world behind the next one that is not told -/
theorem setR_has {p : Nat → Bool} {far : Nat} (hf : (∀ v, v < far → p v = true) → ∀ v, p v = true) (w : Nat) : (setR p far 0).has w = true ↔ p w = true ∧ ∀ v, v + 2 ≤ w → p v = true := by
  rcases setR_cases (p := p) far 0 with ⟨h1, h2⟩ | ⟨F, h1, h2, h3, h4, h5⟩
  · rw [h2]
    have := hf fun v hv => h1 v (by omega) (by omega)
    simp [has_iff, this]
  · rw [h5, has_iff]
    simp only [Bool.false_eq_true, false_or]
    constructor
    · rintro (h | ⟨h, rfl⟩)
      · exact ⟨h4 w (by omega) h, fun v hv => h4 v (by omega) (by omega)⟩
      · exact ⟨h, fun v hv => h4 v (by omega) (by omega)⟩
    · rintro ⟨ha, hb⟩
      rcases Nat.lt_trichotomy w F with e | e | e
      · exact .inl e
      · subst e; rw [h3] at ha; cases ha
      · rcases Nat.lt_or_ge w (F + 2) with e2 | e2
        · obtain rfl : w = F + 1 := by omega
          exact .inr ⟨ha, rfl⟩
        · have := hb F e2
          rw [h3] at this; cases this
theorem far_has {r : Rung} {n : Nat} (hn : r.low + 2 ≤ n) : r.has n = r.all := by
  rw [Bool.eq_iff_iff, has_iff]
  constructor
  · rintro (h | h | ⟨_, h⟩)
    · exact h
    · omega
    · omega
  · exact .inl
theorem all_has {r : Rung} (h : r.all = true) (w : Nat) : r.has w = true := (has_iff r w).2 (.inl h)
theorem meet_has (a b : Rung) (w : Nat) : (meetR a b).has w = true ↔ a.has w = true ∧ b.has w = true := by
  unfold meetR
  rw [setR_has]
  · constructor
    · rintro ⟨h, _⟩
      simpa using h
    · intro h
      exact ⟨by simpa using h, fun v hv => by simp [has_down h.1 hv, has_down h.2 hv]⟩
  · intro h v
    have := h (max a.low b.low + 2) (by unfold farN; omega)
    rw [far_has (by omega), far_has (by omega)] at this
    simp only [Bool.and_eq_true] at this
    simp [all_has this.1, all_has this.2]
theorem join_has (a b : Rung) (w : Nat) : (joinR a b).has w = true ↔ a.has w = true ∨ b.has w = true := by
  unfold joinR
  rw [setR_has]
  · constructor
    · rintro ⟨h, _⟩
      simpa using h
    · rintro (h | h)
      · exact ⟨by simp [h], fun v hv => by simp [has_down h hv]⟩
      · exact ⟨by simp [h], fun v hv => by simp [has_down h hv]⟩
  · intro h v
    have := h (max a.low b.low + 2) (by unfold farN; omega)
    rw [far_has (by omega), far_has (by omega)] at this
    simp only [Bool.or_eq_true] at this
    rcases this with e | e <;> simp [all_has e]
theorem bar_far (a b : Rung) (h : ∀ v, v < farN a b → barB a b v = true) : ∀ v, barB a b v = true := by
  intro v
  rcases Nat.lt_or_ge v (farN a b) with e | e
  · exact h v e
  · have := h (max a.low b.low + 2) (by unfold farN; omega)
    unfold barB at this ⊢
    unfold farN at e
    rw [far_has (by omega), far_has (by omega)] at this ⊢
    exact this
theorem imp_has (a b : Rung) (w : Nat) : (impR a b).has w = true ↔ barB a b w = true ∧ ∀ v, v + 2 ≤ w → barB a b v = true := setR_has (bar_far a b) w
theorem imp_all (a b : Rung) : (impR a b).all = true ↔ ∀ w, a.has w = true → b.has w = true := by
  have hb : ∀ w, barB a b w = true ↔ (a.has w = true → b.has w = true) := fun w => by unfold barB; cases a.has w <;> cases b.has w <;> simp
  unfold impR
  rcases setR_cases (p := barB a b) (farN a b) 0 with ⟨h1, h2⟩ | ⟨F, h1, h2, h3, h4, h5⟩
  · rw [h2]
    have := bar_far a b fun v hv => h1 v (by omega) (by omega)
    simp only [true_iff]
    exact fun w => (hb w).1 (this w)
  · rw [h5]
    simp only [Bool.false_eq_true, false_iff]
    intro h
    rw [(hb F).2 (h F)] at h3
    cases h3
/-- a reckoned rung's number is its own -/
theorem ofK_num {p : Nat → Bool} {far : Nat} (h : (setR p far 0).num ≤ 4096) : ofK (setR p far 0).num = some (setR p far 0) := by
  have key : ∀ (F : Nat) (g : Bool), (Rung.mk false F g).num ≤ 4096 → ofK (Rung.mk false F g).num = some ⟨false, F, g⟩ := by
    intro F g h
    cases g with
    | true =>
      simp only [Rung.num, Bool.false_eq_true, if_false, if_true] at h ⊢
      unfold ofK
      rw [if_neg (by omega), if_neg (by omega), if_neg (by omega), if_neg (by omega)]
      simp only [Option.some.injEq, Rung.mk.injEq, true_and, and_true]
      omega
    | false =>
      simp only [Rung.num, Bool.false_eq_true, if_false] at h ⊢
      by_cases hF : F = 0
      · subst hF; rfl
      · rw [if_neg hF] at h ⊢
        unfold ofK
        rw [if_neg (by omega), if_neg (by omega), if_neg (by omega), if_pos (by omega)]
        simp only [Option.some.injEq, Rung.mk.injEq, true_and, and_true]
        omega
  rcases setR_cases (p := p) far 0 with ⟨_, h2⟩ | ⟨F, _, _, _, _, h5⟩
  · rw [h2]; rfl
  · rw [h5] at h ⊢
    exact key _ _ h
end Go.Proofs.YtobpfhmjdoekfaaGreat

namespace Go.Proofs.YtobpfhmjdoekfaaGreat
open Go Go.Sym

theorem num_ofK {k : Int} {r : Rung} (e : ofK k = some r) : r.num ≤ 4096 := by
  unfold ofK at e
  repeat' split at e
  all_goals first
    | cases e
    | skip
  all_goals simp [Rung.num, Rung.zero]
  all_goals omega
theorem low_not {r : Rung} (h : r.all = false) : r.has r.low = false := by
  cases e : r.has r.low with
  | false => rfl
  | true =>
    rcases (has_iff r _).1 e with h1 | h1 | ⟨_, h1⟩
    · rw [h] at h1; cases h1
    · omega
    · omega
theorem meet_num {a b : Rung} (ha : a.num ≤ 4096) (hb : b.num ≤ 4096) : (meetR a b).num ≤ 4096 := by
  have one : ∀ (r : Rung) (F : Nat), r.num ≤ 4096 → r.has F = false → (∀ v, v < F → r.has v = true) → F = r.low ∧ r.all = false := by
    intro r F _ h1 h2
    have hall : r.all = false := by
      cases e : r.all with
      | false => rfl
      | true => rw [all_has e] at h1; cases h1
    refine ⟨?_, hall⟩
    have h3 := low_not hall
    rcases Nat.lt_trichotomy F r.low with e | e | e
    · rw [(has_iff r F).2 (.inr (.inl e))] at h1; cases h1
    · exact e
    · rw [h2 _ e] at h3; cases h3
  have fin : ∀ (r : Rung) (F : Nat) (g : Bool), r.num ≤ 4096 → F = r.low → r.all = false → (g = true → r.has (F + 1) = true) → (Rung.mk false F g).num ≤ 4096 := by
    intro r F g h1 h2 h3 h4
    subst h2
    unfold Rung.num at h1 ⊢
    rw [h3] at h1
    simp only [Bool.false_eq_true, if_false] at h1 ⊢
    cases g with
    | true =>
      have := (has_iff r _).1 (h4 rfl)
      rcases this with e | e | ⟨e, _⟩
      · rw [h3] at e; cases e
      · omega
      · rw [e] at h1; simpa using h1
    | false =>
      simp only [Bool.false_eq_true, if_false]
      by_cases hl : r.low = 0
      · rw [if_pos hl]; omega
      · rw [if_neg hl]
        rw [if_neg hl] at h1
        split at h1 <;> omega
  unfold meetR
  rcases setR_cases (p := fun w => a.has w && b.has w) (farN a b) 0 with ⟨_, h2⟩ | ⟨F, _, _, h3, h4, h5⟩
  · rw [h2]; simp [Rung.num]
  · rw [h5]
    have h4' : ∀ v, v < F → a.has v = true ∧ b.has v = true := fun v hv => by simpa using h4 v (by omega) hv
    by_cases e : a.has F = true
    · have e2 : b.has F = false := by rw [e] at h3; simpa using h3
      obtain ⟨x1, x2⟩ := one b F hb e2 fun v hv => (h4' v hv).2
      exact fin b F _ hb x1 x2 fun h => by simp at h; exact h.2
    · obtain ⟨x1, x2⟩ := one a F ha (by simpa using e) fun v hv => (h4' v hv).1
      exact fin a F _ ha x1 x2 fun h => by simp at h; exact h.1

/-- one below another, of rungs -/
def Le (x y : Rung) : Prop := ∀ w, x.has w = true → y.has w = true
theorem heyting (a b c : Rung) : Le (meetR c a) b ↔ Le c (impR a b) := by
  have hb : ∀ w, barB a b w = true ↔ (a.has w = true → b.has w = true) := fun w => by unfold barB; cases a.has w <;> cases b.has w <;> simp
  constructor
  · intro h w hc
    rw [imp_has]
    exact ⟨(hb w).2 fun ha => h w ((meet_has c a w).2 ⟨hc, ha⟩), fun v hv => (hb v).2 fun ha => h v ((meet_has c a v).2 ⟨has_down hc hv, ha⟩)⟩
  · intro h w hm
    obtain ⟨hc, ha⟩ := (meet_has c a w).1 hm
    exact (hb w).1 ((imp_has a b w).1 (h w hc)).1 ha
end Go.Proofs.YtobpfhmjdoekfaaGreat

namespace Go.Proofs.YtobpfhmjdoekfaaGreat
open Go Go.Sym Go.Proofs.Tryz

variable {K : AVal → Heap → Prop} {h : Heap}

/-- a number's rung, of any number -/
def rK (k : Int) : Rung := if k = -1 then ⟨true, 0, false⟩ else if k = 0 then Rung.zero else if k % 2 = 1 then ⟨false, ((k + 1) / 2).toNat, false⟩ else ⟨false, (k / 2 - 1).toNat, true⟩
theorem ofK_rK (k : Int) : ofK k = if -1 ≤ k ∧ k ≤ 4096 then some (rK k) else none := by
  by_cases h1 : k = -1
  · subst h1; rfl
  · by_cases h2 : k < 0 ∨ 4096 < k
    · rw [if_neg (show ¬(-1 ≤ k ∧ k ≤ 4096) by omega)]
      unfold ofK
      rw [if_neg h1, if_pos h2]
    · rw [if_pos (show -1 ≤ k ∧ k ≤ 4096 by omega)]
      unfold ofK rK
      rw [if_neg h1, if_neg h2, if_neg h1]
      split
      · rfl
      · split <;> rfl
theorem num_rK {k : Int} (hk : -1 ≤ k) : (rK k).num = k := by
  unfold rK
  by_cases h1 : k = -1
  · subst h1; rfl
  · rw [if_neg h1]
    by_cases h3 : k = 0
    · subst h3; rfl
    · rw [if_neg h3]
      by_cases h4 : k % 2 = 1
      · rw [if_pos h4]
        simp only [Rung.num, Bool.false_eq_true, if_false]
        rw [if_neg (by omega)]
        omega
      · rw [if_neg h4]
        simp only [Rung.num, Bool.false_eq_true, if_false, if_true]
        omega

theorem hasD_ok {k : Int} (h1 : -1 ≤ k) (h2 : k ≤ 1000000) (w : Nat) (hk : K (.bool ((rK k).has w)) h) : ACalls prog 20 [.int .i64 k, .int .i64 w] h K := by
  refine s20_ok ?_
  unfold s20
  by_cases e1 : k = -1
  · subst e1
    exact rg_of (by decide) (by decide) ⟨by decide, rg_of (by decide) (by decide) (ifT_pos rfl (retG_of (by simpa [rK, Rung.has] using hk)))⟩
  · by_cases e2 : k = 0
    · subst e2
      exact rg_of (by decide) (by decide) ⟨by decide, rg_of (by decide) (by decide) (ifT_neg rfl (ifT_pos rfl (retG_of (by simpa [rK, Rung.has, Rung.zero] using hk))))⟩
    · rw [Int.tdiv_eq_ediv_of_nonneg (show 0 ≤ k - 1 by omega), Int.tdiv_eq_ediv_of_nonneg (show 0 ≤ k by omega), Int.tmod_eq_emod_of_nonneg (show 0 ≤ k by omega)]
      refine rg_of (by omega) (by omega) ⟨by decide, rg_of (by omega) (by omega) (ifT_neg (by simpa using e1) (ifT_neg (by simpa using e2) ⟨by decide, ?_⟩))⟩
      unfold rK at hk
      rw [if_neg e1, if_neg e2] at hk
      by_cases e3 : k % 2 = 1
      · rw [if_pos e3] at hk
        refine ifT_pos (by simpa using e3) (retG_of ?_)
        have : decide ((w : Int) ≤ (k - 1) / 2) = (Rung.mk false ((k + 1) / 2).toNat false).has w := by
          rw [Bool.eq_iff_iff, has_iff]
          simp only [decide_eq_true_eq, Bool.false_eq_true, false_or, false_and, or_false]
          omega
        rw [this]
        exact hk
      · rw [if_neg e3] at hk
        refine ifT_neg (by simpa using e3) ⟨by decide, rg_of (by omega) (by omega) (rg_of (by omega) (by omega) ?_)⟩
        by_cases e4 : (w : Int) < k / 2 - 1
        · refine ifT_pos (by simpa using e4) (retG_of ?_)
          have : (Rung.mk false (k / 2 - 1).toNat true).has w = true := (has_iff _ _).2 (.inr (.inl (by show w < (k / 2 - 1).toNat; omega)))
          rw [this] at hk
          exact hk
        · refine ifT_neg (by simpa using e4) ⟨by decide, rg_of (by omega) (by omega) (retG_of ?_)⟩
          have : ((w : Int) == k / 2) = (Rung.mk false (k / 2 - 1).toNat true).has w := by
            rw [Bool.eq_iff_iff, has_iff]
            simp only [beq_iff_eq, Bool.false_eq_true, false_or, true_and]
            omega
          rw [this]
          exact hk

/-- so many worlds tell two rungs -/
def wN (a b : Int) : Nat := if max a b < 0 then 5 else (max a b / 2).toNat + 5
theorem wN_low {a b : Int} (ha : -1 ≤ a) (hb : -1 ≤ b) : max (rK a).low (rK b).low + 4 ≤ wN a b := by
  have one : ∀ k : Int, -1 ≤ k → (rK k).low = 0 ∨ ((rK k).low : Int) ≤ k / 2 + 1 := by
    intro k h
    unfold rK
    by_cases h1 : k = -1
    · rw [if_pos h1]; exact .inl rfl
    · rw [if_neg h1]
      by_cases h3 : k = 0
      · rw [if_pos h3]; exact .inl rfl
      · rw [if_neg h3]
        by_cases h4 : k % 2 = 1
        · rw [if_pos h4]; dsimp only; omega
        · rw [if_neg h4]; dsimp only; omega
  have x := one a ha
  have y := one b hb
  unfold wN
  split <;> omega
theorem worlds_ok {a b : Int} (ha : -1 ≤ a) (hb : -1 ≤ b) (ha2 : a ≤ 1000000) (hb2 : b ≤ 1000000) (hk : K (.int .i64 (wN a b)) h) : ACalls prog 90 [.int .i64 a, .int .i64 b] h K := by
  refine s90_ok ?_
  unfold s90
  have e : Int.tdiv (max a b) 2 + 5 = (wN a b : Int) := by
    unfold wN
    split
    · rw [show max a b = -1 by omega]; rfl
    · rw [Int.tdiv_eq_ediv_of_nonneg (by omega)]; omega
  have b1 : (wN a b : Int) ≤ 600000 := by
    unfold wN
    split <;> omega
  rw [e]
  exact ⟨by decide, rg_of (by omega) (by omega) (rg_of (by omega) (by omega) (retG_of hk))⟩

theorem is_ok (k : Int) (hk : K (.bool (ofK k).isSome) h) : ACalls prog 29 [.int .i64 k] h K := by
  refine s29_ok ?_
  unfold s29
  rw [ofK_rK] at hk
  by_cases h1 : -1 ≤ k
  · refine ifT_pos (by simpa using h1) (retG_of ?_)
    by_cases h2 : k ≤ 4096
    · rw [if_pos ⟨h1, h2⟩] at hk
      rw [decide_eq_true h2]
      exact hk
    · rw [if_neg (fun h => h2 h.2)] at hk
      rw [decide_eq_false h2]
      exact hk
  · rw [if_neg (fun h => h1 h.1)] at hk
    exact ifT_neg (by simpa using h1) (retG_of hk)
theorem belowD_loop {a b : Int} (ha : -1 ≤ a) (hb : -1 ≤ b) (ha2 : a ≤ 1000000) (hb2 : b ≤ 1000000) (hk : ∀ c : Bool, (c = true ↔ ∀ w, w < wN a b → (rK a).has w = true → (rK b).has w = true) → K (.bool c) h) :
    ∀ d w : Nat, w + d = wN a b → (∀ v, v < w → (rK a).has v = true → (rK b).has v = true) → s92l1 K (d + 1) a b (w : Int) h
  | 0, w, hd, hi => by
    unfold s92l1
    refine callG_of (worlds_ok ha hb ha2 hb2 ?_)
    rw [tInt_int]
    exact ifT_neg (by simp; omega) (retG_of (hk true ⟨fun _ v hv => hi v (by omega), fun _ => rfl⟩))
  | d + 1, w, hd, hi => by
    unfold s92l1
    refine callG_of (worlds_ok ha hb ha2 hb2 ?_)
    rw [tInt_int]
    have hw : w < wN a b := by omega
    have b1 : wN a b ≤ 600000 := by unfold wN; split <;> omega
    refine ifT_pos (by simpa using hw) (callG_of (hasD_ok ha ha2 w ?_))
    rw [tBool_bool]
    have go : ((rK a).has w = true → (rK b).has w = true) → s92c2 K (s92l1_G (s92l1 K (d + 1))) a b (w : Int) false h := fun e => by
      unfold s92c2
      refine ifT_neg rfl (rg_of (by omega) (by omega) (s92l1_go (belowD_loop ha hb ha2 hb2 hk d (w + 1) (by omega) fun v hv h1 => ?_)))
      rcases Nat.lt_or_ge v w with h2 | h2
      · exact hi v h2 h1
      · obtain rfl : v = w := by omega
        exact e h1
    cases e1 : (rK a).has w with
    | false => exact ifT_neg rfl (go fun h => by rw [e1] at h; cases h)
    | true =>
      refine ifT_pos rfl (callG_of (hasD_ok hb hb2 w ?_))
      rw [tBool_bool]
      cases e2 : (rK b).has w with
      | true => exact go fun _ => e2
      | false =>
        unfold s92c2
        exact ifT_pos rfl (retG_of (hk false ⟨(fun h => by cases h), (fun h => by have := h w hw e1; rw [e2] at this; cases this)⟩))
theorem belowD_ok {a b : Int} (ha : -1 ≤ a) (hb : -1 ≤ b) (ha2 : a ≤ 1000000) (hb2 : b ≤ 1000000) (hk : K (.bool (impR (rK a) (rK b)).all) h) : ACalls prog 92 [.int .i64 a, .int .i64 b] h K := by
  refine s92_ok ?_
  unfold s92
  refine s92l1_in (wN a b + 1) (belowD_loop ha hb ha2 hb2 (fun c hc => ?_) (wN a b) 0 (by omega) (fun v hv => by omega))
  have : c = (impR (rK a) (rK b)).all := by
    rw [Bool.eq_iff_iff, hc, imp_all]
    constructor
    · intro H w hw
      have hl := wN_low ha hb
      rcases Nat.lt_or_ge w (wN a b) with e | e
      · exact H w e hw
      · rw [far_has (by omega)] at hw
        have := H (wN a b - 1) (by omega) (all_has hw _)
        rw [far_has (by omega)] at this
        exact all_has this w
    · exact fun H w _ => H w
  rw [this]
  exact hk

/- ---- a row of truths ---- -/
def bRow (n : Nat) (p : Nat → Bool) : AObj := .row 1 ((List.range n).map fun w => .bool (p w))
theorem bRow_zero (n : Nat) : AObj.row 1 (List.replicate n (.bool false)) = bRow n fun _ => false := by
  unfold bRow
  congr 1
  apply List.ext_getElem <;> simp
theorem bRow_rd {r n : Nat} {p : Nat → Bool} {hh : Heap} (hr : hh r = some (bRow n p)) {w : Nat} (hw : w < n) {K : AVal → Prop} (hk : K (.bool (p w))) : ixS 1 (.sl r 1 0 n) (w : Int) fun q => ld1 hh q K := by
  refine ixS_sl0 hw ?_
  rw [ld1_ptr hr (e := .bool (p w)) (by simp [hw]) rfl]
  exact hk
theorem bRow_wr {r n : Nat} {p : Nat → Bool} {hh : Heap} (hr : hh r = some (bRow n p)) {w : Nat} (hw : w < n) (b : Bool) {K : Heap → Prop} (hk : K (hh.set r (bRow n fun v => if v = w then b else p v))) : ixS 1 (.sl r 1 0 n) (w : Int) fun q => st true hh q [.bool b] K := by
  refine ixS_sl0 hw (st_elem hr (e := .bool (p w)) (by simp [hw]) rfl ?_)
  have : ((List.range n).map fun v => AVal.bool (p v)).set w (.bool b) = (List.range n).map fun v => .bool (if v = w then b else p v) := by
    apply List.ext_getElem
    · simp
    · intro i h1 h2
      rw [List.getElem_set]
      simp only [List.getElem_map, List.getElem_range]
      by_cases e : w = i
      · subst e; simp
      · rw [if_neg e, if_neg (fun h => e h.symm)]
  rw [this]
  exact hk

/-- the first worlds tell a rung -/
theorem tell_one {n : Nat} {k : Int} {R : Rung} (h0 : 0 ≤ k) (hR : R.all = false) (hl : R.low + 1 < n) (hkR : k ≤ R.num) (hs : ∀ w, w < n → (rK k).has w = R.has w) : k = R.num := by
  have hk : (rK k).all = false := by
    unfold rK
    rw [if_neg (by omega)]
    split
    · rfl
    · split <;> rfl
  have hn := num_rK (show -1 ≤ k by omega)
  have e0 := low_not hR
  have e1 := low_not hk
  have b0 : (rK k).low ≤ R.low := by
    rcases Nat.lt_or_ge R.low (rK k).low with e | e
    · have := hs R.low (by omega)
      rw [e0, (has_iff _ _).2 (.inr (.inl e))] at this
      cases this
    · exact e
  have el : (rK k).low = R.low := by
    rcases Nat.lt_or_ge (rK k).low R.low with e | e
    · have := hs (rK k).low (by omega)
      rw [e1, (has_iff _ _).2 (.inr (.inl e))] at this
      cases this
    · omega
  have eg : (rK k).gap = R.gap := by
    have h1 := hs (R.low + 1) hl
    have f : ∀ r : Rung, r.all = false → r.has (r.low + 1) = r.gap := fun r hr => by
      rw [Bool.eq_iff_iff, has_iff, hr]
      constructor
      · rintro (h | h | ⟨h, _⟩)
        · cases h
        · omega
        · exact h
      · exact fun h => .inr (.inr ⟨h, rfl⟩)
    rw [f R hR, ← el, f _ hk] at h1
    exact h1
  rw [← hn]
  unfold Rung.num
  rw [hk, hR, el, eg]

theorem named_l4 {n r : Nat} {p : Nat → Bool} {k : Int} (h0 : -1 ≤ k) (h1 : k ≤ 900000) (hn : n ≤ 1000000) (hr : h r = some (bRow n p)) {L3 : AVal → Int → Int → Heap → Prop}
    (hyes : (∀ v, v < n → (rK k).has v = p v) → K (.tuple [.int .i64 k, .bool true]) h) (hno : (∃ v, v < n ∧ (rK k).has v ≠ p v) → L3 (.sl r 1 0 n) n (k + 1) h) :
    ∀ d w : Nat, w + d = n → (∀ v, v < w → (rK k).has v = p v) → s91l4 K L3 (d + 2) (.sl r 1 0 n) n k true (w : Int) h
  | 0, w, hd, hi => by
    unfold s91l4
    refine ifT_neg (by simp; omega) ?_
    unfold s91c5
    exact ifT_neg rfl (ifT_pos rfl (retG_of (hyes fun v hv => hi v (by omega))))
  | d + 1, w, hd, hi => by
    unfold s91l4
    refine ifT_pos (by simp; omega) ?_
    unfold s91c5
    refine ifT_pos rfl ?_
    have hw : w < n := by omega
    refine ixS_sl0 hw ?_
    rw [ld1_ptr hr (e := .bool (p w)) (by simp [hw]) rfl, tBool_bool]
    refine callG_of (hasD_ok h0 (by omega) w ?_)
    rw [tBool_bool]
    refine ⟨by rw [ld1_ptr hr (e := .bool (p w)) (by simp [hw]) rfl], eqQ_bool ?_⟩
    refine rg_of (by omega) (by omega) (s91l4_go ?_)
    by_cases e : (rK k).has w = p w
    · rw [show ((rK k).has w == p w) = true by simp [e]]
      refine named_l4 h0 h1 hn hr hyes hno d (w + 1) (by omega) fun v hv => ?_
      rcases Nat.lt_or_ge v w with h2 | h2
      · exact hi v h2
      · obtain rfl : v = w := by omega
        exact e
    · rw [show ((rK k).has w == p w) = false by simp [e]]
      have stop : ∀ m : Nat, s91l4 K L3 (m + 1) (.sl r 1 0 n) n k false ((w : Int) + 1) h := fun m => by
        unfold s91l4
        have end5 : s91c5 K L3 (s91l4_G (s91l4 K L3 m)) (.sl r 1 0 n) n k false ((w : Int) + 1) false h := by
          unfold s91c5
          exact ifT_neg rfl (ifT_neg rfl (rg_of (by omega) (by omega) (hno ⟨w, by omega, e⟩)))
        by_cases e2 : (w : Int) + 1 < n
        · exact ifT_pos (by simpa using e2) end5
        · exact ifT_neg (by simpa using e2) end5
      exact stop _
theorem named_l3 {n r : Nat} {p : Nat → Bool} {R : Rung} (hn : n ≤ 300000) (hr : h r = some (bRow n p)) (hR : R.all = false) (hl : R.low + 1 < n) (hs : ∀ w, w < n → p w = R.has w) (hk : K (.tuple [.int .i64 R.num, .bool true]) h) :
    ∀ d k : Nat, (k : Int) + d = R.num → s91l3 K (d + 1) (.sl r 1 0 n) n (k : Int) h
  | d, k, hd => by
    have hnum : R.num ≤ 2 * R.low + 2 := by
      unfold Rung.num
      rw [hR]
      simp only [Bool.false_eq_true, if_false]
      split
      · omega
      · split <;> omega
    unfold s91l3
    refine rg_of (by omega) (by omega) (ifT_pos (by simp; omega) ?_)
    refine s91l4_in (n + 2) (named_l4 (by omega) (by omega) (by omega) hr (fun h1 => ?_) (fun h1 => ?_) n 0 (by omega) (fun v hv => by omega))
    · have := tell_one (R := R) (k := (k : Int)) (by omega) hR hl (by omega) fun w hw => by rw [h1 w hw, hs w hw]
      rw [this]
      exact hk
    · match d, hd with
      | 0, hd =>
        exfalso
        obtain ⟨v, hv, e⟩ := h1
        have e2 : (rK (k : Int)).has v = R.has v := by
          have e3 : (k : Int) = R.num := by omega
          rw [e3]
          have hasN : ∀ r : Rung, r.all = false → ∀ v, (rK r.num).has v = r.has v := by
            intro r hr v
            obtain ⟨a, low, gap⟩ := r
            cases hr
            unfold Rung.num rK
            simp only [Bool.false_eq_true, if_false]
            cases gap with
            | true =>
              simp only [if_true]
              rw [if_neg (by omega), if_neg (by omega), if_neg (by omega)]
              rw [show ((2 * (low : Int) + 2) / 2 - 1).toNat = low by omega]
            | false =>
              simp only [Bool.false_eq_true, if_false]
              by_cases e : low = 0
              · subst e; rfl
              · rw [if_neg e, if_neg (by omega), if_neg (by omega), if_pos (by omega)]
                rw [show ((2 * (low : Int) - 1 + 1) / 2).toNat = low by omega]
          exact hasN R hR v
        exact e (by rw [e2, hs v hv])
      | d + 1, hd =>
        refine s91l3_go ?_
        exact named_l3 hn hr hR hl hs hk d (k + 1) (by omega)
theorem named_l1 {n r : Nat} {p : Nat → Bool} {R : Rung} (hn : n ≤ 300000) (hr : h r = some (bRow n p)) (hl : R.all = false → R.low + 1 < n) (hs : ∀ w, w < n → p w = R.has w) (hk : K (.tuple [.int .i64 R.num, .bool true]) h) :
    ∀ d w : Nat, w + d = n → ∀ c : Bool, (c = true ↔ ∀ v, v < w → p v = true) → s91l1 K (d + 1) (.sl r 1 0 n) n c (w : Int) h
  | 0, w, hd, c, hc => by
    unfold s91l1
    refine ifT_neg (by simp; omega) ?_
    cases c with
    | true =>
      have hp := hc.1 rfl
      cases hR : R.all with
      | true => exact ifT_pos rfl (retG_of (by simpa [Rung.num, hR] using hk))
      | false =>
        exfalso
        have h1 := hl hR
        have h2 := hp R.low (by omega)
        rw [hs _ (by omega), low_not hR] at h2
        cases h2
    | false =>
      have hR : R.all = false := by
        cases hR : R.all with
        | false => rfl
        | true =>
          have : false = true := hc.2 fun v hv => by rw [hs v (by omega)]; exact all_has hR v
          cases this
      have hnum : 0 ≤ R.num := by
        unfold Rung.num
        rw [hR]
        simp only [Bool.false_eq_true, if_false]
        split
        · omega
        · split <;> omega
      obtain ⟨m, hm⟩ := Int.eq_ofNat_of_zero_le hnum
      exact ifT_neg rfl (s91l3_in (m + 1) (named_l3 hn hr hR (hl hR) hs hk m 0 (by omega)))
  | d + 1, w, hd, c, hc => by
    unfold s91l1
    refine ifT_pos (by simp; omega) ?_
    have go : ∀ c' : Bool, (c' = true ↔ ∀ v, v < w + 1 → p v = true) → s91c2 K (s91l1_G (s91l1 K (d + 1))) (.sl r 1 0 n) n c' (w : Int) h := fun c' hc' => by
      unfold s91c2
      exact rg_of (by omega) (by omega) (s91l1_go (named_l1 hn hr hl hs hk d (w + 1) (by omega) c' hc'))
    cases c with
    | true =>
      refine ifT_pos rfl (bRow_rd hr (by omega) ?_)
      rw [tBool_bool]
      refine go _ ⟨fun h1 v hv => ?_, fun h1 => h1 w (by omega)⟩
      rcases Nat.lt_or_ge v w with h2 | h2
      · exact hc.1 rfl v h2
      · obtain rfl : v = w := by omega
        exact h1
    | false =>
      refine ifT_neg rfl (go _ ⟨(fun h1 => by cases h1), fun h1 => hc.2 fun v hv => h1 v (by omega)⟩)
theorem named_ok {n r : Nat} {p : Nat → Bool} {R : Rung} (hn : n ≤ 300000) (hr : h r = some (bRow n p)) (hl : R.all = false → R.low + 1 < n) (hs : ∀ w, w < n → p w = R.has w) (hk : K (.tuple [.int .i64 R.num, .bool true]) h) :
    ACalls prog 91 [.sl r 1 0 n] h K := by
  refine s91_ok ?_
  unfold s91
  rw [lenN_sl]
  exact s91l1_in (n + 1) (named_l1 hn hr hl hs hk n 0 (by omega) true ⟨fun _ v hv => by omega, fun _ => rfl⟩)
end Go.Proofs.YtobpfhmjdoekfaaGreat

/- Contracts: the document's Below, Occurs, Signs. No condition. Contracts: the document's Occurs and Signs. No condition. Contracts: the document's Signs, Rung and Equal; NishimuraRungs over its inputs. No condition. NishimuraRungs over its inputs. No condition. -/
import Derived.Test.YtobpfhmjdoekfaaGreatNRun
import Derived.Test.YtobpfhmjdoekfaaGreatNP

set_option linter.unusedVariables false
set_option linter.unusedSimpArgs false

namespace Go.Proofs.YtobpfhmjdoekfaaGreat
open Go Go.Sym Go.Proofs.Tryz

variable {K : AVal → Heap → Prop} {h h0 hb : Heap}

section
variable {t : AVal} {xs : List Nd} {j : Nat}
/-- what the document's marks hold when the formulas from i on have been looked at -/
structure MK (xs : List Nd) (j i : Nat) (p : Nat → Bool) : Prop where
  top : p j = true
  sub : ∀ c, p c = true → Sub xs j c
  kid : ∀ c, i ≤ c → p c = true → ∀ k, Kid xs c k → p k = true
theorem MK.full {p : Nat → Bool} (M : MK xs j 0 p) (c : Nat) : p c = true ↔ Sub xs j c := by
  refine ⟨M.sub c, fun s => ?_⟩
  have : ∀ a b, Sub xs a b → p a = true → p b = true := fun a b s => by
    induction s with
    | refl => exact fun h => h
    | step k _ ih => exact fun h => ih (M.kid _ (Nat.zero_le _) h _ k)
  exact this j c s M.top
theorem belowT_l4 {r n : Nat} {p : Nat → Bool} (hjn : j < n) (hn : n ≤ 1024) (hp : ∀ c, p c = true ↔ Sub xs j c) (yes : ∀ v, Ints v (natI (subL xs j)) → K (.tuple [v, .int .i64 0]) h0) :
    ∀ (d i : Nat) (out : AVal) (h : Heap), i + d = j + 1 → Own h0 [.cell r (bRow n p), .slc 1 out ((natI ((List.range i).filter p)).map (.int .i64))] h → s17l4 K (d + 1) (j : Int) (.sl r 1 0 n) out (i : Int) h
  | 0, i, out, h, hd, O => by
    unfold s17l4
    refine ifT_neg (by simp; omega) ?_
    have hi : i = j + 1 := by omega
    subst hi
    have e : (List.range (j + 1)).filter p = subL xs j := by
      unfold subL
      refine List.filter_congr fun c _ => ?_
      rw [Bool.eq_iff_iff, hp c]
      exact ⟨fun h => @decide_eq_true _ (Classical.propDecidable _) h, fun h => @of_decide_eq_true _ (Classical.propDecidable _) h⟩
    rw [e] at O
    obtain ⟨v', lv, sv⟩ := O.lit (i := 1) rfl (S := nameOf out) (fun n hn => hn) (Lits.refl _)
    exact ⟨_, .tuple [v', .int .i64 0], h0, .tuple (.cons lv (.cons (.refl _) .nil)), toBaseG O _ (fun n hn => O.new 1 _ n rfl hn), yes v' sv⟩
  | d + 1, i, out, h, hd, O => by
    unfold s17l4
    refine ifT_pos (by simp; omega) (bRow_rd (O.get 0 _ r rfl rfl) (by omega) ?_)
    rw [tBool_bool]
    have hf := range_filter_succ p i
    have hlen := List.length_filter_le p (List.range i)
    rw [List.length_range] at hlen
    cases hpi : p i with
    | true =>
      rw [hpi, if_pos rfl] at hf
      refine ifT_pos rfl (O.app (i := 1) rfl (by simp [natI]; omega) (by simp [natI]; omega) fun v2 h2 O2 => ?_)
      unfold s17c5
      refine rg_of (by omega) (by omega) (s17l4_go (belowT_l4 hjn hn hp yes d (i + 1) v2 h2 (by omega) ?_))
      rw [hf]
      have e2 : (natI ((List.range i).filter p ++ [i])).map (AVal.int .i64) = (natI ((List.range i).filter p)).map (.int .i64) ++ [.int .i64 (i : Int)] := by simp [natI]
      rw [e2]
      exact O2
    | false =>
      rw [hpi] at hf
      refine ifT_neg rfl ?_
      unfold s17c5
      refine rg_of (by omega) (by omega) (s17l4_go (belowT_l4 hjn hn hp yes d (i + 1) out h (by omega) ?_))
      rw [hf]
      simpa using O
theorem belowT_l1 {r : Nat} (D : DRd h0 t xs) (G : GoodT xs) (hj : j < xs.length) (hl : xs.length ≤ 1024) (yes : ∀ v, Ints v (natI (subL xs j)) → K (.tuple [v, .int .i64 0]) h0) :
    ∀ (d : Nat) (p : Nat → Bool) (h : Heap), d ≤ j + 1 → MK xs j d p → Own h0 [.cell r (bRow xs.length p)] h → s17l1 K (d + 1) t (j : Int) (.sl r 1 0 xs.length) .nilsl ((d : Int) - 1) h
  | 0, p, h, hd, M, O => by
    unfold s17l1
    refine ifT_neg (by simp) (s17l4_in (j + 2) (belowT_l4 hj hl M.full yes (j + 1) 0 .nilsl h (by omega) ?_))
    exact O.newN 1
  | d + 1, p, h, hd, M, O => by
    have hdl : d < xs.length := by omega
    have hx := List.getElem?_eq_getElem hdl
    unfold s17l1
    rw [show ((d + 1 : Nat) : Int) - 1 = (d : Int) by omega]
    refine ifT_pos (by simp) (bRow_rd (O.get 0 _ r rfl rfl) hdl ?_)
    rw [tBool_bool]
    have go : ∀ (p' : Nat → Bool) (h' : Heap), MK xs j d p' → Own h0 [.cell r (bRow xs.length p')] h' → s17c2 K (s17l1_G (s17l1 K (d + 1))) t (j : Int) (.sl r 1 0 xs.length) .nilsl (d : Int) h' := fun p' h' M' O' => by
      unfold s17c2
      exact rg_of (by omega) (by omega) (s17l1_go (belowT_l1 D G hj hl yes d p' h' (by omega) M' O'))
    have keep : (p d = true → ∀ k, Kid xs d k → p k = true) → MK xs j d p := fun hk => ⟨M.top, M.sub, fun c hc hpc => by
      rcases Nat.lt_or_ge d c with e | e
      · exact M.kid c e hpc
      · obtain rfl : c = d := by omega
        exact hk hpc⟩
    cases hpd : p d with
    | false => exact ifT_pos rfl (go p h (keep fun e => by rw [hpd] at e; cases e) O)
    | true =>
      refine ifT_neg rfl ?_
      obtain ⟨vN, RN, hld⟩ := (D.ext O.old).ld
      rw [hld]
      refine RN.fld hx (o := 0) rfl ?_
      rw [tInt_int]
      have g := G d _ hx
      by_cases k1 : xs[d].k = 1
      · refine ifT_neg (by simp [k1]) ?_
        unfold s17c3
        refine ifT_neg rfl (go p h (keep fun _ k ⟨x, hx', h3, _⟩ => ?_) O)
        rw [hx] at hx'; cases hx'; omega
      · refine ifT_pos (by simpa using k1) ?_
        rw [hld]
        refine RN.fld hx (o := 0) rfl ?_
        rw [tInt_int]
        unfold s17c3
        by_cases k2 : xs[d].k = 2
        · refine ifT_neg (by simp [k2]) (go p h (keep fun _ k ⟨x, hx', h3, _⟩ => ?_) O)
          rw [hx] at hx'; cases hx'; omega
        · refine ifT_pos (by simpa using k2) ?_
          obtain ⟨e, ⟨l1, l2⟩, r1, r2⟩ := (g.resolve_left k1).resolve_left k2
          obtain ⟨a, ha⟩ := Int.eq_ofNat_of_zero_le l1
          obtain ⟨b, hb'⟩ := Int.eq_ofNat_of_zero_le r1
          rw [hld]
          refine RN.fld hx (o := 2) rfl ?_
          rw [tInt_int, ha]
          refine bRow_wr (O.get 0 _ r rfl rfl) (by omega) true ?_
          have O2 := O.put (i := 0) rfl (bRow xs.length fun v => if v = a then true else p v)
          obtain ⟨vN2, RN2, hld2⟩ := (D.ext O2.old).ld
          rw [hld2]
          refine RN2.fld hx (o := 3) rfl ?_
          rw [tInt_int, hb']
          refine bRow_wr (O2.get 0 _ r rfl rfl) (by omega) true ?_
          have O3 := O2.put (i := 0) rfl (bRow xs.length fun v => if v = b then true else if v = a then true else p v)
          refine go _ _ ⟨?_, fun c hc => ?_, fun c hc hpc k hk => ?_⟩ O3
          · split
            · rfl
            · split
              · rfl
              · exact M.top
          · have sd := M.sub d hpd
            split at hc
            · rename_i h1; subst h1
              exact sd.trans (.step ⟨_, hx, by omega, .inr hb'⟩ (.refl _))
            · split at hc
              · rename_i h1; subst h1
                exact sd.trans (.step ⟨_, hx, by omega, .inl ha⟩ (.refl _))
              · exact M.sub c hc
          · rcases Nat.lt_or_ge d c with h1 | h1
            · have hpc' : p c = true := by
                rw [if_neg (by omega), if_neg (by omega)] at hpc
                exact hpc
              have := M.kid c h1 hpc' k hk
              split
              · rfl
              · split
                · rfl
                · exact this
            · obtain rfl : c = d := by omega
              obtain ⟨x, hx', _, h4⟩ := hk
              rw [hx] at hx'; cases hx'
              rcases h4 with h4 | h4
              · rw [if_pos (show k = a by omega)]
                split <;> rfl
              · rw [if_pos (show k = b by omega)]
theorem belowT_ok (D : DRd h t xs) (G : GoodT xs) (hl : xs.length ≤ 1024) (hj : j < xs.length) (yes : ∀ v, Ints v (natI (subL xs j)) → K (.tuple [v, .int .i64 0]) h) : ACalls prog 17 [t, .int .i64 (j : Int)] h K := by
  refine s17_ok ?_
  unfold s17
  refine callG_of (hasT_ok D _ ?_)
  rw [tBool_bool, hasN_iff.2 (show 0 ≤ (j : Int) ∧ (j : Int) < xs.length by omega)]
  refine ifT_neg rfl ?_
  obtain ⟨vN, RN, hld⟩ := D.ld
  rw [hld, RN.len]
  refine mkS_own (n := xs.length) (by omega) (by omega) fun r hr => ?_
  rw [bRow_zero]
  have O := (Own.start h).newC hr (bRow xs.length fun _ => false)
  refine bRow_wr (Heap.set_same _ _ _) hj true ?_
  have O2 := O.put (i := 0) rfl (bRow xs.length fun v => if v = j then true else false)
  refine s17l1_in (j + 2) ?_
  have := belowT_l1 D G hj hl yes (j + 1) _ _ (by omega) ⟨by simp, fun c hc => ?_, fun c hc hpc => ?_⟩ O2
  · rw [show ((j + 1 : Nat) : Int) - 1 = (j : Int) by omega] at this
    exact this
  · by_cases e : c = j
    · subst e; exact .refl _
    · simp [e] at hc
  · by_cases e : c = j
    · omega
    · simp [e] at hpc
end
end Go.Proofs.YtobpfhmjdoekfaaGreat

namespace Go.Proofs.YtobpfhmjdoekfaaGreat
open Go Go.Sym Go.Proofs.Tryz

variable {K : AVal → Heap → Prop} {h h0 hb : Heap}

/- ---- a row of numbers ---- -/
def iRow (n : Nat) (f : Nat → Int) : AObj := .row 1 ((List.range n).map fun w => .int .i64 (f w))
theorem iRow_zero (n : Nat) : AObj.row 1 (List.replicate n (.int .i64 0)) = iRow n fun _ => 0 := by
  unfold iRow
  congr 1
  apply List.ext_getElem <;> simp
theorem iRow_rd {r n : Nat} {f : Nat → Int} {hh : Heap} (hr : hh r = some (iRow n f)) {w : Nat} (hw : w < n) {K : AVal → Prop} (hk : K (.int .i64 (f w))) : ixS 1 (.sl r 1 0 n) (w : Int) fun q => ld1 hh q K := by
  refine ixS_sl0 hw ?_
  rw [ld1_ptr hr (e := .int .i64 (f w)) (by simp [hw]) rfl]
  exact hk
theorem iRow_wr {r n : Nat} {f : Nat → Int} {hh : Heap} (hr : hh r = some (iRow n f)) {w : Nat} (hw : w < n) (b : Int) {K : Heap → Prop} (hk : K (hh.set r (iRow n (upd f w b)))) : ixS 1 (.sl r 1 0 n) (w : Int) fun q => st true hh q [.int .i64 b] K := by
  refine ixS_sl0 hw (st_elem hr (e := .int .i64 (f w)) (by simp [hw]) rfl ?_)
  have : ((List.range n).map fun v => AVal.int .i64 (f v)).set w (.int .i64 b) = (List.range n).map fun v => .int .i64 (upd f w b v) := by
    apply List.ext_getElem
    · simp
    · intro i h1 h2
      rw [List.getElem_set]
      simp only [List.getElem_map, List.getElem_range]
      unfold upd
      by_cases e : w = i
      · subst e; simp
      · rw [if_neg e, if_neg (fun h => e h.symm)]
  rw [this]
  exact hk
def topN : Int := 1099511627776
theorem sum_ok {a b : Int} (ha : 0 ≤ a) (ha2 : a ≤ topN) (hb : 0 ≤ b) (hb2 : b ≤ topN) (hk : K (.int .i64 (min (a + b) topN)) h) : ACalls prog 106 [.int .i64 a, .int .i64 b] h K := by
  unfold topN at *
  refine s106_ok ?_
  unfold s106
  refine rg_of (by omega) (by omega) ?_
  by_cases e : 1099511627776 < a + b
  · refine ifT_pos (by simpa using e) (retG_of ?_)
    rwa [show min (a + b) 1099511627776 = 1099511627776 by omega] at hk
  · refine ifT_neg (by simpa using e) (rg_of (by omega) (by omega) (retG_of ?_))
    rwa [show min (a + b) 1099511627776 = a + b by omega] at hk
theorem two6_ok (x : Nd) (hk : K (.bool (x.k != 1 && x.k != 2)) h) : ACalls prog 105 [nodeV x] h K := by
  refine s105_ok (n_Kind := x.k) (n_Name := x.s) (n_L := x.l) (n_R := x.r) ?_
  unfold s105
  by_cases e : x.k = 1
  · exact ifT_neg (by simp [e]) (retG_of (by simpa [e] using hk))
  · rw [show (x.k != 1) = true by simpa using e, Bool.true_and] at hk
    exact ifT_pos (by simpa using e) (retG_of hk)
/-- a count grows -/
def bump (f : Nat → Int) (a : Nat) (z : Int) : Nat → Int := upd f a (min (f a + z) topN)
theorem bump_ok {r n rn o a : Nat} {f : Nat → Int} {x : Nd} {z0 z : Int} {h : Heap} (hr : h r = some (iRow n f)) (hn : h rn = some (.row 4 [nodeV x])) (hne : rn ≠ r) (ho : (nodeC x)[o]? = some (.int .i64 z0)) (hz0 : z0 = (a : Int)) (ha : a < n) (hf : 0 ≤ f a ∧ f a ≤ topN) (hz : 0 ≤ z ∧ z ≤ topN) {K : Heap → Prop}
    (hk : K (h.set r (iRow n (bump f a z)))) :
      addOff (.ptr rn 0 0) o fun p20 =>
      ld1 h p20 fun v37 =>
      tInt .i64 v37 fun v38 =>
      addOff (.ptr rn 0 0) o fun p21 =>
      ld1 h p21 fun v39 =>
      tInt .i64 v39 fun v40 =>
      ixS 1 (.sl r 1 0 n) v40 fun p22 =>
      ld1 h p22 fun v41 =>
      tInt .i64 v41 fun v42 =>
      callG prog 106 [(.int .i64 v42), (.int .i64 z)] h fun v43 h_9 =>
      tInt .i64 v43 fun v44 =>
      (ld1 h_9 p20 fun v45 =>
      v45 = (.int .i64 v38)) ∧
      ixS 1 (.sl r 1 0 n) v38 fun p23 =>
      st true h_9 p23 [(.int .i64 v44)] K := by
  subst hz0
  have e : ∀ X : AVal → Prop, ld1 h (.ptr rn 0 (0 + o)) X = X (.int .i64 (a : Int)) := fun X => by
    rw [Nat.zero_add]
    exact ld1_fld hn ho X
  rw [addOff_ptr, e, tInt_int, addOff_ptr, e, tInt_int]
  refine iRow_rd hr ha ?_
  rw [tInt_int]
  refine callG_of (sum_ok hf.1 hf.2 hz.1 hz.2 ?_)
  rw [tInt_int]
  exact ⟨by rw [e], iRow_wr hr ha _ hk⟩

/-- what the counts hold -/
structure OC (xs : List Nd) (j i : Nat) (f g : Nat → Int) : Prop where
  fb : ∀ c, 0 ≤ f c ∧ f c ≤ topN
  gb : ∀ c, 0 ≤ g c ∧ g c ≤ topN
  top : 0 < f j + g j
  sub : ∀ c, 0 < f c + g c → Sub xs j c
  kid : ∀ c, i < c → 0 < f c + g c → ∀ k, Kid xs c k → 0 < f k + g k
theorem OC.at_ {xs : List Nd} {j i : Nat} {f g : Nat → Int} (O : OC xs j i f g) (G : GoodT xs) : 0 < f i + g i ↔ Sub xs j i := by
  refine ⟨O.sub i, fun s => ?_⟩
  have : ∀ a b, Sub xs a b → b = i → 0 < f a + g a → 0 < f b + g b := fun a b s => by
    induction s with
    | refl => exact fun _ h => h
    | @step u v w k s ih =>
      intro e hu
      have h1 := s.le G
      have h2 := k.lt G
      exact ih e (O.kid u (by omega) hu v k)
  exact this j i s rfl O.top
theorem bump_b {f : Nat → Int} {a : Nat} {z : Int} (hf : ∀ c, 0 ≤ f c ∧ f c ≤ topN) (hz : 0 ≤ z) : ∀ c, 0 ≤ bump f a z c ∧ bump f a z c ≤ topN := fun c => by
  have := hf c
  have h2 := hf a
  unfold bump upd
  split <;> omega
theorem bump_le {f : Nat → Int} {a : Nat} {z : Int} (hf : ∀ c, 0 ≤ f c ∧ f c ≤ topN) (hz : 0 ≤ z) (c : Nat) : f c ≤ bump f a z c := by
  have h2 := hf a
  unfold bump upd
  split
  · rename_i e; subst e; omega
  · omega
theorem bump_at {f : Nat → Int} {a : Nat} {z : Int} (hf : ∀ c, 0 ≤ f c ∧ f c ≤ topN) (hz : 0 < z) : 0 < bump f a z a := by
  have h2 := hf a
  unfold bump upd
  rw [if_pos rfl]
  unfold topN
  omega
theorem bump_ne {f : Nat → Int} {a c : Nat} {z : Int} (h : c ≠ a) : bump f a z c = f c := by
  unfold bump upd
  rw [if_neg h]
theorem OC.step {xs : List Nd} {j i : Nat} {f g : Nat → Int} (O : OC xs j (i + 1) f g) {x : Nd} (hx : xs[i + 1]? = some x) (hk : 3 ≤ x.k) (hm : 0 < f (i + 1) + g (i + 1)) {a b : Nat} (ha : x.l = (a : Int)) (hb : x.r = (b : Int)) (hai : a < i + 1) (hbi : b < i + 1) {p q z1 z2 : Int} (hp : 0 ≤ p) (hq : 0 ≤ q) (hz1 : 0 ≤ z1) (hz2 : 0 ≤ z2) (h1 : 0 < p + q) (h2 : 0 < z1 + z2) :
    OC xs j i (bump (bump f a z1) b p) (bump (bump g a z2) b q) := by
  have fb1 := bump_b (a := a) O.fb hz1
  have gb1 := bump_b (a := a) O.gb hz2
  have fle : ∀ c, f c ≤ bump (bump f a z1) b p c := fun c => Int.le_trans (bump_le O.fb hz1 c) (bump_le fb1 hp c)
  have gle : ∀ c, g c ≤ bump (bump g a z2) b q c := fun c => Int.le_trans (bump_le O.gb hz2 c) (bump_le gb1 hq c)
  have hS := O.sub _ hm
  have ma : 0 < bump (bump f a z1) b p a + bump (bump g a z2) b q a := by
    have e1 := bump_le (a := b) fb1 hp a
    have e2 := bump_le (a := b) gb1 hq a
    have b1 := (fb1 a).1
    have b2 := (gb1 a).1
    rcases Int.lt_or_le 0 z1 with e | e
    · have := bump_at (a := a) O.fb e; omega
    · have := bump_at (a := a) (z := z2) O.gb (by omega); omega
  have mb : 0 < bump (bump f a z1) b p b + bump (bump g a z2) b q b := by
    have b1 := (bump_b (a := b) fb1 hp b).1
    have b2 := (bump_b (a := b) gb1 hq b).1
    rcases Int.lt_or_le 0 p with e | e
    · have := bump_at (a := b) fb1 e; omega
    · have := bump_at (a := b) (z := q) gb1 (by omega); omega
  refine ⟨bump_b fb1 hp, bump_b gb1 hq, by have := fle j; have := gle j; have := O.top; omega, fun c hc => ?_, fun c hc hmc k hk2 => ?_⟩
  · by_cases e1 : c = b
    · subst e1
      exact hS.trans (.step ⟨_, hx, hk, .inr hb⟩ (.refl _))
    · rw [bump_ne e1, bump_ne e1] at hc
      by_cases e2 : c = a
      · subst e2
        exact hS.trans (.step ⟨_, hx, hk, .inl ha⟩ (.refl _))
      · rw [bump_ne e2, bump_ne e2] at hc
        exact O.sub c hc
  · rcases Nat.lt_or_ge (i + 1) c with e | e
    · have hmc' : 0 < f c + g c := by rwa [bump_ne (by omega), bump_ne (by omega), bump_ne (by omega), bump_ne (by omega)] at hmc
      have := O.kid c e hmc' k hk2
      have := fle k
      have := gle k
      omega
    · obtain rfl : c = i + 1 := by omega
      obtain ⟨y, hy, _, h4⟩ := hk2
      rw [hx] at hy; cases hy
      rcases h4 with h4 | h4
      · rw [show k = a by omega]; exact ma
      · rw [show k = b by omega]; exact mb
theorem OC.skip {xs : List Nd} {j i : Nat} {f g : Nat → Int} (O : OC xs j (i + 1) f g) (hk : 0 < f (i + 1) + g (i + 1) → ∀ k, ¬ Kid xs (i + 1) k) : OC xs j i f g :=
  ⟨O.fb, O.gb, O.top, O.sub, fun c hc hm k hk2 => by
    rcases Nat.lt_or_ge (i + 1) c with e | e
    · exact O.kid c e hm k hk2
    · obtain rfl : c = i + 1 := by omega
      exact absurd hk2 (hk hm k)⟩

section
variable {t : AVal} {xs : List Nd} {j a0 : Nat}
theorem occ_c3 {rp rn : Nat} {L2 : AVal → Int → Int → AVal → AVal → Int → Heap → Prop} {i : Nat} {h : Heap} (hi : i < 1024) (go : L2 t (a0 : Int) (j : Int) (.sl rp 1 0 xs.length) (.sl rn 1 0 xs.length) (i : Int) h) :
    s88c3 K L2 t (a0 : Int) (j : Int) (.sl rp 1 0 xs.length) (.sl rn 1 0 xs.length) ((i + 1 : Nat) : Int) h := by
  unfold s88c3
  rw [show ((i + 1 : Nat) : Int) - 1 = (i : Int) by omega]
  exact rg_of (by omega) (by omega) go
theorem occ_c5 {rp rn rx : Nat} {f g : Nat → Int} {x : Nd} {b : Nat} (hb : x.r = (b : Int)) (hbl : b < xs.length) (hf : ∀ c, 0 ≤ f c ∧ f c ≤ topN) (hg : ∀ c, 0 ≤ g c ∧ g c ≤ topN) {p q : Int} (hp : 0 ≤ p ∧ p ≤ topN) (hq : 0 ≤ q ∧ q ≤ topN) {L2 : AVal → Int → Int → AVal → AVal → Int → Heap → Prop} {i : Nat} {h : Heap} (hi : i < 1024)
    (O : Own h0 [.cell rp (iRow xs.length f), .cell rn (iRow xs.length g), .cell rx (.row 4 [nodeV x])] h) (go : ∀ h', Own h0 [.cell rp (iRow xs.length (bump f b p)), .cell rn (iRow xs.length (bump g b q)), .cell rx (.row 4 [nodeV x])] h' → L2 t (a0 : Int) (j : Int) (.sl rp 1 0 xs.length) (.sl rn 1 0 xs.length) (i : Int) h') :
    s88c5 K L2 t (a0 : Int) (j : Int) (.sl rp 1 0 xs.length) (.sl rn 1 0 xs.length) ((i + 1 : Nat) : Int) (.ptr rx 0 0) p q h := by
  unfold s88c5
  have n1 : rx ≠ rp := fun e => by have := O.one 2 0 _ _ rx rfl rfl rfl e; omega
  have n2 : rx ≠ rn := fun e => by have := O.one 2 1 _ _ rx rfl rfl rfl e; omega
  refine bump_ok (O.get 0 _ rp rfl rfl) (O.get 2 _ rx rfl rfl) n1 (x := x) (o := 3) rfl hb hbl (hf b) hp ?_
  have O2 := O.put (i := 0) rfl (iRow xs.length (bump f b p))
  refine bump_ok (O2.get 1 _ rn rfl rfl) (O2.get 2 _ rx rfl rfl) n2 (x := x) (o := 3) rfl hb hbl (hg b) hq ?_
  exact occ_c3 hi (go _ (O2.put (i := 1) rfl (iRow xs.length (bump g b q))))
theorem occ_l2 {rp rn : Nat} (D : DRd h0 t xs) (G : GoodT xs) (hj : j < xs.length) (hl : xs.length ≤ 1024) (ha0 : a0 ≤ j) (hk : ∀ p q : Int, 0 ≤ p → p ≤ topN → 0 ≤ q → q ≤ topN → (0 < p + q ↔ Sub xs j a0) → K (.tuple [.int .i64 p, .int .i64 q, .int .i64 0]) h0) :
    ∀ (d : Nat) (f g : Nat → Int) (h : Heap), a0 + d ≤ j → OC xs j (a0 + d) f g → Own h0 [.cell rp (iRow xs.length f), .cell rn (iRow xs.length g)] h → s88l2 K (d + 1) t (a0 : Int) (j : Int) (.sl rp 1 0 xs.length) (.sl rn 1 0 xs.length) ((a0 + d : Nat) : Int) h
  | 0, f, g, h, hd, C, O => by
    unfold s88l2
    refine ifT_neg (by simp) (ifT_neg (by simp; omega) ?_)
    refine iRow_rd (O.get 0 _ rp rfl rfl) (by omega) ?_
    rw [tInt_int]
    refine iRow_rd (O.get 1 _ rn rfl rfl) (by omega) ?_
    rw [tInt_int]
    exact retG_drop O.old (hk _ _ (C.fb _).1 (C.fb _).2 (C.gb _).1 (C.gb _).2 (C.at_ G))
  | d + 1, f, g, h, hd, C, O => by
    have hil : a0 + (d + 1) < xs.length := by omega
    have hx := List.getElem?_eq_getElem hil
    unfold s88l2
    refine ifT_pos (by simp; omega) ?_
    obtain ⟨vN, RN, hld⟩ := (D.ext O.old).ld
    rw [hld]
    refine RN.ix hx ?_
    rw [nodeC, tCons_cons, tInt_int, tCons_cons, tStr_str, tCons_cons, tInt_int, tCons_cons, tInt_int, tNil_nil]
    refine newRow_in fun rx hrx => st4 (Heap.set_same _ _ _) rfl rfl ?_
    rw [Heap.set_set]
    have O1 : Own h0 ([.cell rp (iRow xs.length f), .cell rn (iRow xs.length g)] ++ [.cell rx (.row 4 [nodeV xs[a0 + (d + 1)]])]) (h.set rx (.row 4 [nodeV xs[a0 + (d + 1)]])) := O.newC hrx (.row 4 [nodeV xs[a0 + (d + 1)]])
    refine Eq.mpr (ldN_elem (n := 4) (i := 0) (cs := nodeC xs[a0 + (d + 1)]) (Heap.set_same _ _ _) rfl rfl _) ?_
    rw [nodeC, tCons_cons, tInt_int, tCons_cons, tStr_str, tCons_cons, tInt_int, tCons_cons, tInt_int, tNil_nil]
    refine callG_of (two6_ok xs[a0 + (d + 1)] ?_)
    rw [tBool_bool]
    have out : ∀ (f' g' : Nat → Int) (h' : Heap), OC xs j (a0 + d) f' g' → Own h0 ([.cell rp (iRow xs.length f'), .cell rn (iRow xs.length g')] ++ [.cell rx (.row 4 [nodeV xs[a0 + (d + 1)]])]) h' → s88l2_G (s88l2 K (d + 1)) t (a0 : Int) (j : Int) (.sl rp 1 0 xs.length) (.sl rn 1 0 xs.length) ((a0 + d : Nat) : Int) h' := fun f' g' h' C' O' =>
      s88l2_go (occ_l2 D G hj hl ha0 hk d f' g' h' (by omega) C' O'.pop)
    have skip : (0 < f (a0 + (d + 1)) + g (a0 + (d + 1)) → ∀ k, ¬ Kid xs (a0 + (d + 1)) k) → s88c4 K (s88l2_G (s88l2 K (d + 1))) t (a0 : Int) (j : Int) (.sl rp 1 0 xs.length) (.sl rn 1 0 xs.length) ((a0 + (d + 1) : Nat) : Int) (.ptr rx 0 0) true (h.set rx (.row 4 [nodeV xs[a0 + (d + 1)]])) := fun hs => by
      unfold s88c4
      refine ifT_pos rfl (occ_c3 (i := a0 + d) (by omega) (out f g _ (OC.skip (i := a0 + d) C hs) O1))
    have g0 := G _ _ hx
    by_cases h3 : 3 ≤ xs[a0 + (d + 1)].k
    · refine ifT_neg (by simp; omega) ?_
      obtain ⟨e, ⟨l1, l2⟩, r1, r2⟩ := (g0.resolve_left (by omega)).resolve_left (by omega)
      obtain ⟨a, ha⟩ := Int.eq_ofNat_of_zero_le l1
      obtain ⟨b, hb'⟩ := Int.eq_ofNat_of_zero_le r1
      have fb := C.fb (a0 + (d + 1))
      have gb := C.gb (a0 + (d + 1))
      refine iRow_rd (O1.get 0 _ rp rfl rfl) hil ?_
      rw [tInt_int]
      refine iRow_rd (O1.get 1 _ rn rfl rfl) hil ?_
      rw [tInt_int]
      refine rg_of (by unfold topN at *; omega) (by unfold topN at *; omega) ?_
      by_cases hz : f (a0 + (d + 1)) + g (a0 + (d + 1)) = 0
      · rw [show (f (a0 + (d + 1)) + g (a0 + (d + 1)) == 0) = true by simpa using hz]
        exact skip fun h => by omega
      · rw [show (f (a0 + (d + 1)) + g (a0 + (d + 1)) == 0) = false by simpa using hz]
        unfold s88c4
        refine ifT_neg rfl ?_
        refine iRow_rd (O1.get 0 _ rp rfl rfl) hil ?_
        rw [tInt_int]
        refine iRow_rd (O1.get 1 _ rn rfl rfl) hil ?_
        rw [tInt_int, addOff_ptr]
        refine Eq.mpr (ld1_fld (o := 0) (cs := nodeC xs[a0 + (d + 1)]) (Heap.set_same _ _ _) rfl _) ?_
        rw [tInt_int]
        have hpos : 0 < f (a0 + (d + 1)) + g (a0 + (d + 1)) := by omega
        have hpos2 : 0 < g (a0 + (d + 1)) + f (a0 + (d + 1)) := by omega
        have n1 : rx ≠ rp := fun e => by have := O1.one 2 0 _ _ rx rfl rfl rfl e; omega
        have n2 : rx ≠ rn := fun e => by have := O1.one 2 1 _ _ rx rfl rfl rfl e; omega
        by_cases h5 : xs[a0 + (d + 1)].k = 5
        · refine ifT_pos (by simpa using h5) ?_
          refine bump_ok (a := a) (O1.get 0 _ rp rfl rfl) (O1.get 2 _ rx rfl rfl) n1 (x := xs[a0 + (d + 1)]) (o := 2) rfl ha (by omega) (C.fb a) gb ?_
          have O2 := O1.put (i := 0) rfl (iRow xs.length (bump f a (g (a0 + (d + 1)))))
          refine bump_ok (a := a) (O2.get 1 _ rn rfl rfl) (O2.get 2 _ rx rfl rfl) n2 (x := xs[a0 + (d + 1)]) (o := 2) rfl ha (by omega) (C.gb a) fb ?_
          have O3 := O2.put (i := 1) rfl (iRow xs.length (bump g a (f (a0 + (d + 1)))))
          refine occ_c5 (i := a0 + d) (b := b) hb' (by omega) (bump_b C.fb gb.1) (bump_b C.gb fb.1) fb gb (by omega) O3 fun h' O4 => out _ _ h' (OC.step (i := a0 + d) C hx h3 hpos ha hb' (by omega) (by omega) fb.1 gb.1 gb.1 fb.1 hpos hpos2) O4
        · refine ifT_neg (by simpa using h5) ?_
          refine bump_ok (a := a) (O1.get 0 _ rp rfl rfl) (O1.get 2 _ rx rfl rfl) n1 (x := xs[a0 + (d + 1)]) (o := 2) rfl ha (by omega) (C.fb a) fb ?_
          have O2 := O1.put (i := 0) rfl (iRow xs.length (bump f a (f (a0 + (d + 1)))))
          refine bump_ok (a := a) (O2.get 1 _ rn rfl rfl) (O2.get 2 _ rx rfl rfl) n2 (x := xs[a0 + (d + 1)]) (o := 2) rfl ha (by omega) (C.gb a) gb ?_
          have O3 := O2.put (i := 1) rfl (iRow xs.length (bump g a (g (a0 + (d + 1)))))
          refine occ_c5 (i := a0 + d) (b := b) hb' (by omega) (bump_b C.fb fb.1) (bump_b C.gb gb.1) fb gb (by omega) O3 fun h' O4 => out _ _ h' (OC.step (i := a0 + d) C hx h3 hpos ha hb' (by omega) (by omega) fb.1 gb.1 fb.1 gb.1 hpos hpos) O4
    · refine ifT_pos ?_ (skip fun _ k ⟨y, hy, h4, _⟩ => by rw [hx] at hy; cases hy; exact h3 h4)
      rcases g0 with e | e | ⟨e, _⟩
      · simp [e]
      · simp [e]
      · omega
theorem occ_ok (D : DRd h t xs) (G : GoodT xs) (hj : j < xs.length) (hl : xs.length ≤ 1024) (ha0 : a0 ≤ j) (hk : ∀ p q : Int, 0 ≤ p → p ≤ topN → 0 ≤ q → q ≤ topN → (0 < p + q ↔ Sub xs j a0) → K (.tuple [.int .i64 p, .int .i64 q, .int .i64 0]) h) : ACalls prog 88 [t, .int .i64 (a0 : Int), .int .i64 (j : Int)] h K := by
  refine s88_ok ?_
  unfold s88
  refine callG_of (hasT_ok D _ ?_)
  rw [tBool_bool, hasN_iff.2 (show 0 ≤ (a0 : Int) ∧ (a0 : Int) < xs.length by omega)]
  refine ifT_neg rfl (callG_of (hasT_ok D _ ?_))
  rw [tBool_bool, hasN_iff.2 (show 0 ≤ (j : Int) ∧ (j : Int) < xs.length by omega)]
  show s88c1 K t (a0 : Int) (j : Int) false h
  unfold s88c1
  refine ifT_neg rfl ?_
  obtain ⟨vN, RN, hld⟩ := D.ld
  rw [hld, RN.len]
  refine mkS_own (n := xs.length) (by omega) (by omega) fun rp hrp => ?_
  rw [iRow_zero]
  have O := (Own.start h).newC hrp (iRow xs.length fun _ => 0)
  obtain ⟨vN2, RN2, hld2⟩ := (D.ext O.old).ld
  rw [hld2, RN2.len]
  refine mkS_own (n := xs.length) (by omega) (by omega) fun rn hrn => ?_
  rw [iRow_zero]
  have O2 := O.newC hrn (iRow xs.length fun _ => 0)
  refine iRow_wr (O2.get 0 _ rp rfl rfl) hj 1 ?_
  have O3 := O2.put (i := 0) rfl (iRow xs.length (upd (fun _ => 0) j 1))
  obtain ⟨d, hd⟩ : ∃ d, j = a0 + d := ⟨j - a0, by omega⟩
  refine s88l2_in (d + 1) ?_
  have := occ_l2 (K := K) D G hj hl ha0 hk d (upd (fun _ => 0) j 1) (fun _ => 0) _ (by omega) ⟨fun c => ?_, fun c => ⟨Int.le_refl _, by unfold topN; decide⟩, ?_, fun c hc => ?_, fun c hc hm => ?_⟩ O3
  · rw [← hd] at this
    exact this
  · unfold upd topN
    split
    · exact ⟨by decide, by decide⟩
    · exact ⟨Int.le_refl _, by show (0 : Int) ≤ 1099511627776; decide⟩
  · unfold upd
    simp
  · unfold upd at hc
    by_cases e : c = j
    · subst e; exact .refl _
    · simp [e] at hc
  · unfold upd at hm
    simp [show c ≠ j by omega] at hm
end
end Go.Proofs.YtobpfhmjdoekfaaGreat

namespace Go.Proofs.YtobpfhmjdoekfaaGreat
open Go Go.Sym Go.Proofs.Tryz

variable {K : AVal → Heap → Prop} {h h0 hb : Heap}

theorem shift_set {l : List ByteArray} {a : Nat} (ha : a + 1 ≤ l.length) (s : ByteArray) : (l.take (a + 1) ++ s :: l.drop (a + 1)).set (a + 1) l[a] = l.take a ++ l[a] :: l.drop a := by
  rw [List.set_append_right _ _ (by rw [List.length_take]; omega)]
  rw [show a + 1 - (l.take (a + 1)).length = 0 by rw [List.length_take]; omega, List.set_cons_zero, List.take_succ_eq_append_getElem (by omega), List.append_assoc]
  congr 1
  rw [List.drop_eq_getElem_cons (l := l) (i := a) (by omega)]
  rfl
theorem put6_l1 {os : List Ow} {i : Nat} {r : Nat} {l : List ByteArray} {s : ByteArray} (hl : l.length ≤ 1024) (hk : ∀ (h' : Heap) (l' : List ByteArray), l'.length = l.length + 1 → l'.Perm (l ++ [s]) → Own hb (os.set i (.slc 1 (.sl r 1 0 (l.length + 1)) (l'.map .str))) h' → K (.sl r 1 0 (l.length + 1)) h') :
    ∀ (a : Nat) (s' : ByteArray) (h : Heap), a ≤ l.length → i < os.length → Own hb (os.set i (.slc 1 (.sl r 1 0 (l.length + 1)) ((l.take a ++ s' :: l.drop a).map .str))) h → s89l1 K (a + 1) (.sl r 1 0 (l.length + 1)) s (a : Int) h := by
  intro a
  induction a with
  | zero =>
    intro s' h ha hi O
    unfold s89l1
    refine ifT_neg (by simp) ?_
    unfold s89c2
    refine ifT_neg rfl ?_
    have hi2 : (os.set i (.slc 1 (.sl r 1 0 (l.length + 1)) ((l.take 0 ++ s' :: l.drop 0).map .str)))[i]? = some (.slc 1 (.sl r 1 0 (l.length + 1)) ((l.take 0 ++ s' :: l.drop 0).map .str)) := List.getElem?_set_self hi
    have hr := O.get i _ r hi2 rfl
    refine ixS_sl0 (i := 0) (by omega) (st_elem hr (e := .str s') (by simp) rfl (retG_of ?_))
    refine hk _ (s :: l) (by simp) (List.perm_append_singleton s l).symm ?_
    have hlen : ((l.take 0 ++ s' :: l.drop 0).map AVal.str).length = l.length + 1 := by simp
    have O2 := O.putS (i := i) (r := r) (es := 1) (l := (l.take 0 ++ s' :: l.drop 0).map .str) (by rw [hlen]; exact hi2) (l' := ((l.take 0 ++ s' :: l.drop 0).map AVal.str).set 0 (.str s)) (by simp)
    rw [hlen, List.set_set] at O2
    simpa using O2
  | succ a ih =>
    intro s' h ha hi O
    unfold s89l1
    have hi2 : (os.set i (.slc 1 (.sl r 1 0 (l.length + 1)) ((l.take (a + 1) ++ s' :: l.drop (a + 1)).map .str)))[i]? = some (.slc 1 (.sl r 1 0 (l.length + 1)) ((l.take (a + 1) ++ s' :: l.drop (a + 1)).map .str)) := List.getElem?_set_self hi
    have hr := O.get i _ r hi2 rfl
    have hlen : ((l.take (a + 1) ++ s' :: l.drop (a + 1)).map AVal.str).length = l.length + 1 := by simp <;> omega
    have hga : ((l.take (a + 1) ++ s' :: l.drop (a + 1)).map AVal.str)[a]? = some (.str l[a]) := by
      rw [List.getElem?_map, List.getElem?_append_left (by rw [List.length_take]; omega), List.getElem?_take, if_pos (by omega), List.getElem?_eq_getElem (by omega)]
      rfl
    have hgs : ((l.take (a + 1) ++ s' :: l.drop (a + 1)).map AVal.str)[a + 1]? = some (.str s') := by
      rw [List.getElem?_map, List.getElem?_append_right (by rw [List.length_take]; omega)]
      rw [show a + 1 - (l.take (a + 1)).length = 0 by rw [List.length_take]; omega]
      rfl
    refine ifT_pos (by simp) (rg_of (by omega) (by omega) ?_)
    rw [show ((a + 1 : Nat) : Int) - 1 = (a : Int) by omega]
    refine ixS_sl0 (by omega) ?_
    rw [ld1_ptr hr hga rfl, tStr_str]
    have c2 : ∀ b : Bool, s89c2 K (s89l1_G (s89l1 K (a + 1))) (.sl r 1 0 (l.length + 1)) s ((a + 1 : Nat) : Int) b h := by
      intro b
      unfold s89c2
      cases b with
      | true =>
        refine ifT_pos rfl (rg_of (by omega) (by omega) ?_)
        rw [show ((a + 1 : Nat) : Int) - 1 = (a : Int) by omega]
        refine ixS_sl0 (by omega) ?_
        rw [ld1_ptr hr hga rfl, tStr_str]
        refine ixS_sl0 (i := a + 1) (by omega) (st_elem hr hgs rfl (rg_of (by omega) (by omega) (s89l1_go ?_)))
        have O2 := O.putS (i := i) (r := r) (es := 1) (l := (l.take (a + 1) ++ s' :: l.drop (a + 1)).map .str) (by rw [hlen]; exact hi2) (l' := ((l.take (a + 1) ++ s' :: l.drop (a + 1)).map AVal.str).set (a + 1) (.str l[a])) (by simp)
        rw [hlen, List.set_set] at O2
        have e : ((l.take (a + 1) ++ s' :: l.drop (a + 1)).map AVal.str).set (a + 1) (.str l[a]) = (l.take a ++ l[a] :: l.drop a).map AVal.str := by
          rw [← shift_set (by omega) s', ← List.map_set]
        rw [e] at O2 ⊢
        exact ih l[a] _ (by omega) hi O2
      | false =>
        refine ifT_neg rfl (ixS_sl0 (i := a + 1) (by omega) (st_elem hr hgs rfl (retG_of ?_)))
        have O2 := O.putS (i := i) (r := r) (es := 1) (l := (l.take (a + 1) ++ s' :: l.drop (a + 1)).map .str) (by rw [hlen]; exact hi2) (l' := ((l.take (a + 1) ++ s' :: l.drop (a + 1)).map AVal.str).set (a + 1) (.str s)) (by simp)
        rw [hlen, List.set_set] at O2
        have e : ((l.take (a + 1) ++ s' :: l.drop (a + 1)).map AVal.str).set (a + 1) (.str s) = (l.take (a + 1) ++ s :: l.drop (a + 1)).map AVal.str := by
          rw [← List.map_set, List.set_append_right _ _ (by rw [List.length_take]; omega)]
          rw [show a + 1 - (l.take (a + 1)).length = 0 by rw [List.length_take]; omega, List.set_cons_zero]
        rw [e] at O2 ⊢
        refine hk _ (l.take (a + 1) ++ s :: l.drop (a + 1)) (by simp; omega) ?_ O2
        refine List.perm_middle.trans ?_
        rw [List.take_append_drop]
        exact (List.perm_append_singleton s l).symm
    exact c2 _
theorem put6_ok {os : List Ow} {i : Nat} {v : AVal} {l : List ByteArray} (O : Own hb os h) (hi : os[i]? = some (.slc 1 v (l.map .str))) (hl : l.length ≤ 1024) (s : ByteArray) (hk : ∀ (v' : AVal) (h' : Heap) (l' : List ByteArray), l'.length = l.length + 1 → l'.Perm (l ++ [s]) → Own hb (os.set i (.slc 1 v' (l'.map .str))) h' → K v' h') : ACalls prog 89 [v, .str s] h K := by
  refine s89_ok ?_
  unfold s89
  rw [O.len hi, List.length_map]
  refine O.app hi (by rw [List.length_map]; omega) (by rw [List.length_map]; omega) fun v2 h2 O2 => ?_
  have hil := (List.getElem?_eq_some_iff.1 hi).1
  have hi2 : (os.set i (.slc 1 v2 (l.map AVal.str ++ [.str s])))[i]? = some (.slc 1 v2 (l.map AVal.str ++ [.str s])) := List.getElem?_set_self hil
  rcases O2.fit i _ hi2 with ⟨_, e⟩ | ⟨r, rfl⟩
  · simp at e
  · have hlen : (l.map AVal.str ++ [AVal.str s]).length = l.length + 1 := by simp
    rw [hlen] at O2 ⊢
    refine s89l1_in (l.length + 1) (put6_l1 hl (fun h' l' h1 h2 O3 => hk _ h' l' h1 h2 O3) l.length s h2 (Nat.le_refl _) hil ?_)
    rw [List.take_length, List.drop_length]
    simpa using O2

section
variable {t : AVal} {xs : List Nd} {j : Nat}
/-- the atoms among the first formulas -/
noncomputable def atomF (xs : List Nd) (j i : Nat) : List ByteArray := ((List.range i).filter fun c => @decide (Sub xs j c) (Classical.propDecidable _)).filterMap (atomN xs)
theorem atomF_succ (i : Nat) : atomF xs j (i + 1) = atomF xs j i ++ if @decide (Sub xs j i) (Classical.propDecidable _) = true then (match atomN xs i with | some s => [s] | none => []) else [] := by
  unfold atomF
  rw [range_filter_succ, List.filterMap_append]
  congr 1
  split
  · rw [List.filterMap_cons]
    cases atomN xs i <;> rfl
  · rfl
theorem signs_l1 (D : DRd h0 t xs) (G : GoodT xs) (hl : xs.length ≤ 1024) (hj : j < xs.length) (yes : ∀ w p n l, Strs w l → l.Perm (atomL xs j) → K (.tuple [w, p, n, .int .i64 0]) h0) :
    ∀ (d i : Nat) (va vp vn : AVal) (la lp ln : List ByteArray) (h : Heap), i + d = j + 1 → la.Perm (atomF xs j i) → la.length ≤ i → lp.length ≤ i → ln.length ≤ i → Own h0 [.slc 1 va (la.map .str), .slc 1 vp (lp.map .str), .slc 1 vn (ln.map .str)] h →
      s45l1 K (d + 1) t (j : Int) va vp vn (i : Int) h
  | 0, i, va, vp, vn, la, lp, ln, h, hd, hp, h1, h2, h3, O => by
    unfold s45l1
    refine ifT_neg (by simp; omega) ?_
    have hi : i = j + 1 := by omega
    subst hi
    obtain ⟨v', lv, sv⟩ := O.lit (i := 0) rfl (S := nameOf va) (fun n hn => hn) (Lits.refl _)
    exact ⟨_, .tuple [v', vp, vn, .int .i64 0], h0, .tuple (.cons lv (.cons (.refl _) (.cons (.refl _) (.cons (.refl _) .nil)))), toBaseG O _ (fun n hn => O.new 0 _ n rfl hn), yes v' _ _ _ sv hp⟩
  | d + 1, i, va, vp, vn, la, lp, ln, h, hd, hp, h1, h2, h3, O => by
    have hil : i < xs.length := by omega
    have hx := List.getElem?_eq_getElem hil
    unfold s45l1
    refine ifT_pos (by simp; omega) ?_
    obtain ⟨vN, RN, hld⟩ := (D.ext O.old).ld
    rw [hld]
    refine RN.fld hx (o := 0) rfl ?_
    rw [tInt_int]
    have hsucc := atomF_succ (xs := xs) (j := j) i
    have next : ∀ (va vp vn : AVal) (la lp ln : List ByteArray) (h : Heap), la.Perm (atomF xs j (i + 1)) → la.length ≤ i + 1 → lp.length ≤ i + 1 → ln.length ≤ i + 1 → Own h0 [.slc 1 va (la.map .str), .slc 1 vp (lp.map .str), .slc 1 vn (ln.map .str)] h →
        s45c2 K (s45l1_G (s45l1 K (d + 1))) t (j : Int) va vp vn (i : Int) h := fun va vp vn la lp ln h e1 e2 e3 e4 O => by
      unfold s45c2
      exact rg_of (by omega) (by omega) (s45l1_go (signs_l1 D G hl hj yes d (i + 1) va vp vn la lp ln h (by omega) e1 e2 e3 e4 O))
    by_cases k1 : xs[i].k = 1
    · refine ifT_neg (by simp [k1]) ?_
      have hat : atomN xs i = some xs[i].s := by
        unfold atomN
        rw [hx]
        exact if_pos k1
      rw [hat] at hsucc
      refine callG_of (occ_ok (D.ext O.old) G hj hl (by omega) fun p q hp0 hp1 hq0 hq1 hpq => ?_)
      rw [tTup_tuple, tCons_cons, tInt_int, tCons_cons, tInt_int, tCons_cons, tInt_int, tNil_nil]
      refine rg_of (by unfold topN at *; omega) (by unfold topN at *; omega) ?_
      have c4 : ∀ (va vp vn : AVal) (la lp ln : List ByteArray) (h : Heap), la.Perm (atomF xs j (i + 1)) → la.length ≤ i + 1 → lp.length ≤ i + 1 → ln.length ≤ i → Own h0 [.slc 1 va (la.map .str), .slc 1 vp (lp.map .str), .slc 1 vn (ln.map .str)] h →
          s45c4 K (s45l1_G (s45l1 K (d + 1))) t (j : Int) va vp vn (i : Int) q h := fun va vp vn la lp ln h e1 e2 e3 e4 O => by
        unfold s45c4
        by_cases hq : 0 < q
        · refine ifT_pos (by simpa using hq) ?_
          obtain ⟨vN, RN, hld⟩ := (D.ext O.old).ld
          rw [hld]
          refine RN.fld hx (o := 1) rfl ?_
          rw [tStr_str]
          refine callG_of (put6_ok O (i := 2) rfl (by omega) _ fun v' h' l' f1 f2 O' => ?_)
          exact next va vp v' la lp l' h' e1 e2 e3 (by omega) O'
        · exact ifT_neg (by simpa using hq) (next va vp vn la lp ln h e1 e2 e3 (by omega) O)
      have c3 : ∀ (va vp vn : AVal) (la lp ln : List ByteArray) (h : Heap), la.Perm (atomF xs j (i + 1)) → la.length ≤ i + 1 → lp.length ≤ i → ln.length ≤ i → Own h0 [.slc 1 va (la.map .str), .slc 1 vp (lp.map .str), .slc 1 vn (ln.map .str)] h →
          s45c3 K (s45l1_G (s45l1 K (d + 1))) t (j : Int) va vp vn (i : Int) p q h := fun va vp vn la lp ln h e1 e2 e3 e4 O => by
        unfold s45c3
        by_cases hp : 0 < p
        · refine ifT_pos (by simpa using hp) ?_
          obtain ⟨vN, RN, hld⟩ := (D.ext O.old).ld
          rw [hld]
          refine RN.fld hx (o := 1) rfl ?_
          rw [tStr_str]
          refine callG_of (put6_ok O (i := 1) rfl (by omega) _ fun v' h' l' f1 f2 O' => ?_)
          exact c4 va v' vn la l' ln h' e1 e2 (by omega) e4 O'
        · exact ifT_neg (by simpa using hp) (c4 va vp vn la lp ln h e1 e2 (by omega) e4 O)
      by_cases hpos : 0 < p + q
      · refine ifT_pos (by simpa using hpos) ?_
        rw [if_pos (@decide_eq_true _ (Classical.propDecidable _) (hpq.1 hpos))] at hsucc
        rw [hld]
        refine RN.fld hx (o := 1) rfl ?_
        rw [tStr_str]
        refine callG_of (put6_ok O (i := 0) rfl (by omega) _ fun v' h' l' f1 f2 O' => ?_)
        refine c3 v' vp vn l' lp ln h' ?_ (by omega) h2 h3 O'
        rw [hsucc]
        exact f2.trans (hp.append_right _)
      · refine ifT_neg (by simpa using hpos) ?_
        rw [if_neg (fun e => hpos (hpq.2 (@of_decide_eq_true _ (Classical.propDecidable _) e))), List.append_nil] at hsucc
        exact c3 va vp vn la lp ln h (by rw [hsucc]; exact hp) (by omega) h2 h3 O
    · refine ifT_pos (by simpa using k1) ?_
      have hat : atomN xs i = none := by
        unfold atomN
        rw [hx]
        exact if_neg k1
      have e : atomF xs j (i + 1) = atomF xs j i := by
        rw [hsucc, hat]
        split <;> simp
      exact next va vp vn la lp ln h (by rw [e]; exact hp) (by omega) (by omega) (by omega) O
theorem signsT_ok (D : DRd h t xs) (G : GoodT xs) (hl : xs.length ≤ 1024) (i : Int) (no : hasN xs.length i = false → K (.tuple [.nilsl, .nilsl, .nilsl, .int .i64 31]) h)
    (yes : ∀ j : Nat, i = (j : Int) → j < xs.length → ∀ w p n l, Strs w l → l.Perm (atomL xs j) → K (.tuple [w, p, n, .int .i64 0]) h) : ACalls prog 45 [t, .int .i64 i] h K := by
  refine s45_ok ?_
  unfold s45
  refine callG_of (hasT_ok D i ?_)
  rw [tBool_bool]
  cases e : hasN xs.length i with
  | false => exact ifT_pos rfl (retG_of (no e))
  | true =>
    obtain ⟨j, x, rfl, hx⟩ := hasN_get e
    have hj := (List.getElem?_eq_some_iff.1 hx).1
    refine ifT_neg rfl (s45l1_in (j + 2) (signs_l1 D G hl hj (yes j rfl hj) (j + 1) 0 .nilsl .nilsl .nilsl [] [] [] h (by omega) (.refl _) (by simp) (by simp) (by simp) ?_))
    exact (((Own.start h).newN 1).newN 1).newN 1

/- ---- Rung ---- -/
def Nrm (r : Rung) : Prop := r.all = true → r = ⟨true, 0, false⟩
theorem setR_nrm (p : Nat → Bool) (d w : Nat) : Nrm (setR p d w) := by
  rcases setR_cases (p := p) d w with ⟨_, h2⟩ | ⟨F, h1, h2, h3, h4, h5⟩
  · rw [h2]; exact fun _ => rfl
  · rw [h5]; exact fun h => by cases h
theorem rK_num {r : Rung} (h : Nrm r) : rK r.num = r := by
  cases e : r.all with
  | true => rw [h e]; rfl
  | false =>
    obtain ⟨a, low, gap⟩ := r
    dsimp only at e
    subst e
    unfold Rung.num rK
    simp only [Bool.false_eq_true, if_false]
    cases gap with
    | true =>
      simp only [if_true]
      rw [if_neg (by omega), if_neg (by omega), if_neg (by omega)]
      rw [show ((2 * (low : Int) + 2) / 2 - 1).toNat = low by omega]
    | false =>
      simp only [Bool.false_eq_true, if_false]
      by_cases e : low = 0
      · subst e; rfl
      · rw [if_neg e, if_neg (by omega), if_neg (by omega), if_pos (by omega)]
        rw [show ((2 * (low : Int) - 1 + 1) / 2).toNat = low by omega]
theorem rungOf_nrm (G : GoodT xs) (i : Nat) : Nrm (rungOf xs i) := by
  cases hx : xs[i]? with
  | none =>
    rw [rungOf, hx]
    exact fun h => by cases h
  | some x =>
    rcases G i x hx with e | e | ⟨e, ⟨l1, l2⟩, r1, r2⟩
    · rw [rungOf_1 hx e]; exact fun h => by cases h
    · rw [rungOf_2 hx e]; exact fun h => by cases h
    · obtain ⟨a, ha⟩ := Int.eq_ofNat_of_zero_le l1
      obtain ⟨b, hb⟩ := Int.eq_ofNat_of_zero_le r1
      rcases e with e | e | e
      · rw [rungOf_3 hx e ha hb (by omega) (by omega)]; exact setR_nrm _ _ _
      · rw [rungOf_4 hx e ha hb (by omega) (by omega)]; exact setR_nrm _ _ _
      · rw [rungOf_5 hx e ha hb (by omega) (by omega)]; exact setR_nrm _ _ _
theorem num_bounds {r : Rung} {n : Nat} (h : r.low ≤ n) : -1 ≤ r.num ∧ r.num ≤ 2 * n + 2 := by
  unfold Rung.num
  split
  · omega
  · split
    · omega
    · split <;> omega
theorem RdN.pt {v : AVal} {xs : List Nd} (R : RdN h v xs) {i : Nat} {x : Nd} (hi : xs[i]? = some x) : ∃ p, (∀ X : AVal → Prop, X p → ixS 4 v (i : Int) X) ∧ ∀ h', Ext h h' → ∀ X : List AVal → Prop, ldN 4 h' p X = X (nodeC x) := by
  have hlt := (List.getElem?_eq_some_iff.1 hi).1
  rcases R with ⟨rfl, rfl⟩ | ⟨r, L, rfl, hr, hL⟩ | R
  · simp at hlt
  · exact ⟨.ptr r i 0, fun X hX => ixS_sl0 hlt hX, fun h' x' X => ldN_elem (n := 4) (x' _ _ hr) (hL i x hi) rfl X⟩
  · refine ⟨.lptr (nodeC x), fun X hX => ?_, fun h' _ X => ldN_node h' x X⟩
    rw [R.ix hlt, (List.getElem?_eq_some_iff.1 hi).2]
    exact hX
/-- the rungs reckoned so far -/
structure RV (xs : List Nd) (j i : Nat) (f : Nat → Int) : Prop where
  val : ∀ c ∈ (subL xs j).take i, f c = (rungOf xs c).num
theorem RV.next {i : Nat} {f : Nat → Int} (R : RV xs j i f) (hi : i < (subL xs j).length) : RV xs j (i + 1) (upd f (subL xs j)[i] (rungOf xs (subL xs j)[i]).num) where
  val c hc := by
    rw [List.take_succ_eq_append_getElem hi] at hc
    unfold upd
    split
    · rename_i e; rw [e]
    · rename_i e
      rcases List.mem_append.1 hc with h | h
      · exact R.val c h
      · exact absurd (List.mem_singleton.1 h) e
theorem rungT_l1 {v vN : AVal} {r rt : Nat} (ht : h0 rt = some (.row 1 [.agg [vN]])) (RN : RdN h0 vN xs) (G : GoodT xs) (hl : xs.length ≤ 1024) (hj : j < xs.length) (hv : Ints v (natI (subL xs j))) (yes : K (.tuple [.int .i64 (rungOf xs j).num, .int .i64 0]) h0) :
    ∀ (d i : Nat) (f : Nat → Int) (h : Heap), i + d = (subL xs j).length → RV xs j i f → Own h0 [.cell r (iRow (j + 1) f)] h → s13l1 K (d + 1) (.ptr rt 0 0) (j : Int) v (.sl r 1 0 (j + 1)) (i : Int) h
  | 0, i, f, h, hd, R, O => by
    unfold s13l1
    rw [hv.len, show (natI (subL xs j)).length = (subL xs j).length by simp [natI]]
    refine ifT_neg (by simp; omega) (iRow_rd (O.get 0 _ r rfl rfl) (by omega) ?_)
    rw [tInt_int, R.val j (by rw [List.take_of_length_le (by omega)]; exact (mem_subL G).2 (.refl _))]
    exact retG_drop O.old yes
  | d + 1, i, f, h, hd, R, O => by
    have hi : i < (subL xs j).length := by omega
    have hsub := (mem_subL G).1 (List.getElem_mem hi)
    have hle := hsub.le G
    have h1 := subL_len xs j
    have hcl : (subL xs j)[i] < xs.length := by omega
    have hx := List.getElem?_eq_getElem hcl
    unfold s13l1
    rw [hv.len, show (natI (subL xs j)).length = (subL xs j).length by simp [natI]]
    refine ifT_pos (by simp; omega) ?_
    have ht' := O.old _ _ ht
    rw [nilCheck_ptr, addOff_ptr, ld1_fld ht' rfl]
    have hg : (natI (subL xs j))[i]'(by simpa [natI] using hi) = (((subL xs j)[i] : Nat) : Int) := by simp [natI]
    rw [hv.ix (i := i) (by simpa [natI] using hi), ld1_lptr, hg, tInt_int]
    obtain ⟨pp, hp1, hp2⟩ := (RN.ext O.old).pt hx
    refine hp1 _ ?_
    rw [hp2 h (Ext.refl h), nodeC, tCons_cons, tInt_int, tCons_cons, tStr_str, tCons_cons, tInt_int, tCons_cons, tInt_int, tNil_nil]
    refine newRow_in fun rx hrx => ⟨?_, ?_, ?_, ?_⟩
    · rw [hp2 _ (Ext.new hrx _)]
      rfl
    · rw [ld1_lptr]
    · rw [ld1_fld (Heap.set_sub hrx _ _ ht') rfl]
    refine st4 (Heap.set_same _ _ _) rfl rfl ?_
    rw [Heap.set_set, ld1_fld (o := 0) (Heap.set_same _ _ _) rfl, tInt_int]
    have O1 : Own h0 [.cell r (iRow (j + 1) f)] (h.set rx (.row 4 [.agg [.int .i64 xs[(subL xs j)[i]].k, .str xs[(subL xs j)[i]].s, .int .i64 xs[(subL xs j)[i]].l, .int .i64 xs[(subL xs j)[i]].r]])) := Own.skip O hrx (.row 4 [nodeV xs[(subL xs j)[i]]])
    have next : ∀ (h2 : Heap), Own h0 [.cell r (iRow (j + 1) f)] h2 → s13c2 K (s13l1_G (s13l1 K (d + 1))) (.ptr rt 0 0) (j : Int) v (.sl r 1 0 (j + 1)) (i : Int) (rungOf xs (subL xs j)[i]).num h2 := fun h2 O2 => by
      unfold s13c2
      rw [hv.ix (i := i) (by simpa [natI] using hi), ld1_lptr, hg, tInt_int]
      refine iRow_wr (O2.get 0 _ r rfl rfl) (by omega) _ (rg_of (by omega) (by omega) (s13l1_go ?_))
      exact rungT_l1 ht RN G hl hj hv yes d (i + 1) _ _ (by omega) (R.next hi) (O2.put (i := 0) rfl (iRow (j + 1) (upd f (subL xs j)[i] (rungOf xs (subL xs j)[i]).num)))
    rcases G _ _ hx with e | e | ⟨e, ⟨l1, l2⟩, r1', r2'⟩
    · refine ifT_pos (by simpa using e) ?_
      have := next _ O1
      rw [rungOf_1 hx e] at this
      exact this
    · refine ifT_neg (by simp [e]) (ifT_neg (by simp [e]) (ifT_neg (by simp [e]) (ifT_neg (by simp [e]) ?_)))
      have := next _ O1
      rw [rungOf_2 hx e] at this
      exact this
    · obtain ⟨a', ha'⟩ := Int.eq_ofNat_of_zero_le l1
      obtain ⟨b', hb'⟩ := Int.eq_ofNat_of_zero_le r1'
      have hk3 : 3 ≤ xs[(subL xs j)[i]].k := by omega
      have sa : Sub xs j a' := hsub.trans (.step ⟨_, hx, hk3, .inl ha'⟩ (.refl _))
      have sb : Sub xs j b' := hsub.trans (.step ⟨_, hx, hk3, .inr hb'⟩ (.refl _))
      have va := R.val a' (subL_lt hi ((mem_subL G).2 sa) (by omega))
      have vb := R.val b' (subL_lt hi ((mem_subL G).2 sb) (by omega))
      have la := num_bounds (rungOf_low G a')
      have lb := num_bounds (rungOf_low G b')
      have na := rK_num (rungOf_nrm G a')
      have nb := rK_num (rungOf_nrm G b')
      have rd : ∀ (z : Int) (c : Nat) (hz : z = (c : Int)) (hc : c < j + 1) {X : AVal → Prop}, X (.int .i64 (f c)) → ixS 1 (.sl r 1 0 (j + 1)) z fun p => ld1 (h.set rx (.row 4 [.agg [.int .i64 xs[(subL xs j)[i]].k, .str xs[(subL xs j)[i]].s, .int .i64 xs[(subL xs j)[i]].l, .int .i64 xs[(subL xs j)[i]].r]])) p X := fun z c hz hc X hX => by
        subst hz
        exact iRow_rd (O1.get 0 _ r rfl rfl) hc hX
      rcases e with e | e | e
      · refine ifT_neg (by simp [e]) (ifT_pos (by simp [e]) ?_)
        rw [ld1_fld (o := 2) (Heap.set_same _ _ _) rfl, tInt_int]
        refine rd _ a' ha' (by omega) ?_
        rw [tInt_int, ld1_fld (o := 3) (Heap.set_same _ _ _) rfl, tInt_int]
        refine rd _ b' hb' (by omega) ?_
        rw [tInt_int, va, vb]
        refine callG_of (meetD_ok (by omega) (by omega) (by omega) (by omega) fun h3 x3 => ?_)
        rw [tInt_int, na, nb]
        have := next h3 (Own.ext O1 x3)
        rw [rungOf_3 hx e ha' hb' (by omega) (by omega)] at this
        exact this
      · refine ifT_neg (by simp [e]) (ifT_neg (by simp [e]) (ifT_pos (by simp [e]) ?_))
        rw [ld1_fld (o := 2) (Heap.set_same _ _ _) rfl, tInt_int]
        refine rd _ a' ha' (by omega) ?_
        rw [tInt_int, ld1_fld (o := 3) (Heap.set_same _ _ _) rfl, tInt_int]
        refine rd _ b' hb' (by omega) ?_
        rw [tInt_int, va, vb]
        refine callG_of (joinD_ok (by omega) (by omega) (by omega) (by omega) fun h3 x3 => ?_)
        rw [tInt_int, na, nb]
        have := next h3 (Own.ext O1 x3)
        rw [rungOf_4 hx e ha' hb' (by omega) (by omega)] at this
        exact this
      · refine ifT_neg (by simp [e]) (ifT_neg (by simp [e]) (ifT_neg (by simp [e]) (ifT_pos (by simp [e]) ?_)))
        rw [ld1_fld (o := 2) (Heap.set_same _ _ _) rfl, tInt_int]
        refine rd _ a' ha' (by omega) ?_
        rw [tInt_int, ld1_fld (o := 3) (Heap.set_same _ _ _) rfl, tInt_int]
        refine rd _ b' hb' (by omega) ?_
        rw [tInt_int, va, vb]
        refine callG_of (impD_ok (by omega) (by omega) (by omega) (by omega) fun h3 x3 => ?_)
        rw [tInt_int, na, nb]
        have := next h3 (Own.ext O1 x3)
        rw [rungOf_5 hx e ha' hb' (by omega) (by omega)] at this
        exact this
theorem rungD_ok (D : DRd h t xs) (G : GoodT xs) (hl : xs.length ≤ 1024) (i : Int) (no : hasN xs.length i = false → K (.tuple [.int .i64 0, .int .i64 31]) h)
    (many : ∀ j : Nat, i = (j : Int) → j < xs.length → 1 < (atomL xs j).length → K (.tuple [.int .i64 0, .int .i64 220]) h)
    (yes : ∀ j : Nat, i = (j : Int) → j < xs.length → (atomL xs j).length ≤ 1 → K (.tuple [.int .i64 (rungOf xs j).num, .int .i64 0]) h) : ACalls prog 13 [t, .int .i64 i] h K := by
  refine s13_ok ?_
  unfold s13
  refine callG_of (signsT_ok D G hl i (fun hn => ?_) (fun j hij hj w p n l hw hp => ?_))
  · rw [tTup_tuple, tCons_cons, tCons_cons, tCons_cons, tCons_cons, tInt_int, tNil_nil]
    exact ifT_pos rfl (retG_of (no hn))
  · rw [tTup_tuple, tCons_cons, tCons_cons, tCons_cons, tCons_cons, tInt_int, tNil_nil]
    refine ifT_neg rfl ?_
    rw [hw.len, hp.length_eq]
    by_cases hm : 1 < (atomL xs j).length
    · exact ifT_pos (by simp; omega) (retG_of (many j hij hj hm))
    · refine ifT_neg (by simp; omega) ?_
      rw [hij]
      have D' := D
      obtain ⟨rt, vN, rfl, ht, RN⟩ := D
      refine callG_of (belowT_ok D' G hl hj fun v hv => ?_)
      rw [tTup_tuple, tCons_cons, tCons_cons, tInt_int, tNil_nil]
      refine rg_of (by omega) (by omega) ?_
      rw [show (j : Int) + 1 = ((j + 1 : Nat) : Int) by omega]
      refine mkS_own (n := j + 1) (by omega) (by omega) fun r hr => ?_
      rw [iRow_zero]
      exact s13l1_in ((subL xs j).length + 1) (rungT_l1 ht RN G hl hj hv (yes j hij hj (by omega)) _ 0 _ _ (by omega) ⟨fun c hc => by simp at hc⟩ ((Own.start h).newC hr _))

/- ---- Equal ---- -/
theorem no_atoms (G : GoodT xs) (ha : atomL xs j = []) : ∀ c : Nat, Sub xs j c → c < xs.length → rungOf xs c = Rung.zero ∨ rungOf xs c = ⟨true, 0, false⟩ := by
  intro c
  induction c using Nat.strongRecOn with
  | _ c ih =>
  intro s hc
  have hx := List.getElem?_eq_getElem hc
  rcases G c _ hx with e | e | ⟨e, ⟨l1, l2⟩, r1, r2⟩
  · exfalso
    have hm : xs[c].s ∈ atomL xs j := by
      unfold atomL
      refine List.mem_filterMap.2 ⟨c, (mem_subL G).2 s, ?_⟩
      unfold atomN
      rw [hx]
      exact if_pos e
    rw [ha] at hm
    cases hm
  · exact .inl (rungOf_2 hx e)
  · obtain ⟨a, ha'⟩ := Int.eq_ofNat_of_zero_le l1
    obtain ⟨b, hb'⟩ := Int.eq_ofNat_of_zero_le r1
    have iha := ih a (by omega) (s.trans (.step ⟨_, hx, by omega, .inl ha'⟩ (.refl _))) (by omega)
    have ihb := ih b (by omega) (s.trans (.step ⟨_, hx, by omega, .inr hb'⟩ (.refl _))) (by omega)
    rcases e with e | e | e
    · rw [rungOf_3 hx e ha' hb' (by omega) (by omega)]
      rcases iha with x | x <;> rcases ihb with y | y <;> rw [x, y]
      · exact .inl rfl
      · exact .inl rfl
      · exact .inl rfl
      · exact .inr rfl
    · rw [rungOf_4 hx e ha' hb' (by omega) (by omega)]
      rcases iha with x | x <;> rcases ihb with y | y <;> rw [x, y]
      · exact .inl rfl
      · exact .inr rfl
      · exact .inr rfl
      · exact .inr rfl
    · rw [rungOf_5 hx e ha' hb' (by omega) (by omega)]
      rcases iha with x | x <;> rcases ihb with y | y <;> rw [x, y]
      · exact .inr rfl
      · exact .inr rfl
      · exact .inl rfl
      · exact .inr rfl
theorem has_atom (G : GoodT xs) (hj : j < xs.length) (h0 : (rungOf xs j).num ≠ 0) (h1 : (rungOf xs j).num ≠ -1) (hl : (atomL xs j).length ≤ 1) : ∃ s, atomL xs j = [s] := by
  match e : atomL xs j, hl with
  | [], _ =>
    rcases no_atoms G e j (.refl _) hj with x | x
    · rw [x] at h0; exact absurd rfl h0
    · rw [x] at h1; exact absurd rfl h1
  | [s], _ => exact ⟨s, rfl⟩
theorem equalD_ok (D : DRd h t xs) (G : GoodT xs) (hl : xs.length ≤ 1024) (i k : Int) (err : ∀ e : Int, ((hasN xs.length i = false ∧ e = 31) ∨ (∃ a : Nat, i = (a : Int) ∧ a < xs.length ∧ 1 < (atomL xs a).length ∧ e = 220) ∨ (∃ a : Nat, i = (a : Int) ∧ a < xs.length ∧ (atomL xs a).length ≤ 1 ∧ hasN xs.length k = false ∧ e = 31) ∨ (∃ a b : Nat, i = (a : Int) ∧ a < xs.length ∧ (atomL xs a).length ≤ 1 ∧ k = (b : Int) ∧ b < xs.length ∧ 1 < (atomL xs b).length ∧ e = 220)) → K (.tuple [.bool false, .int .i64 e]) h)
    (yes : ∀ a b : Nat, i = (a : Int) → k = (b : Int) → a < xs.length → b < xs.length → (atomL xs a).length ≤ 1 → (atomL xs b).length ≤ 1 → K (.tuple [.bool (eqV xs a b), .int .i64 0]) h) : ACalls prog 15 [t, .int .i64 i, .int .i64 k] h K := by
  refine s15_ok ?_
  unfold s15
  have contra : ∀ (z : Int) (a : Nat), z = (a : Int) → a < xs.length → hasN xs.length z = false → False := fun z a h1 h2 h3 => by
    have := hasN_iff.2 (show 0 ≤ z ∧ z < (xs.length : Int) by omega)
    rw [h3] at this
    cases this
  refine callG_of (rungD_ok D G hl i (fun hn => ?_) (fun a ha hal hm => ?_) (fun a ha hal hm => ?_))
  · rw [tTup_tuple, tCons_cons, tInt_int, tCons_cons, tInt_int, tNil_nil]
    exact ifT_pos rfl (retG_of (err 31 (.inl ⟨hn, rfl⟩)))
  · rw [tTup_tuple, tCons_cons, tInt_int, tCons_cons, tInt_int, tNil_nil]
    exact ifT_pos rfl (retG_of (err 220 (.inr (.inl ⟨a, ha, hal, hm, rfl⟩))))
  · rw [tTup_tuple, tCons_cons, tInt_int, tCons_cons, tInt_int, tNil_nil]
    refine ifT_neg rfl (callG_of (rungD_ok D G hl k (fun hn => ?_) (fun b hb hbl hmb => ?_) (fun b hb hbl hmb => ?_)))
    · rw [tTup_tuple, tCons_cons, tInt_int, tCons_cons, tInt_int, tNil_nil]
      exact ifT_pos rfl (retG_of (err 31 (.inr (.inr (.inl ⟨a, ha, hal, hm, hn, rfl⟩)))))
    · rw [tTup_tuple, tCons_cons, tInt_int, tCons_cons, tInt_int, tNil_nil]
      exact ifT_pos rfl (retG_of (err 220 (.inr (.inr (.inr ⟨a, b, ha, hal, hm, hb, hbl, hmb, rfl⟩)))))
    · rw [tTup_tuple, tCons_cons, tInt_int, tCons_cons, tInt_int, tNil_nil]
      have yes := yes a b ha hb hal hbl hm hmb
      unfold eqV at yes
      refine ifT_neg rfl (callG_of (signsT_ok D G hl i (fun hn => absurd hn (fun h => contra _ a ha hal h)) (fun a' ha' _ w p n l hw hp => ?_)))
      obtain rfl : a' = a := by omega
      rw [tTup_tuple, tCons_cons, tCons_cons, tCons_cons, tCons_cons, tInt_int, tNil_nil]
      refine callG_of (signsT_ok D G hl k (fun hn => absurd hn (fun h => contra _ b hb hbl h)) (fun b' hb' _ w' p' n' l' hw' hp' => ?_))
      obtain rfl : b' = b := by omega
      rw [tTup_tuple, tCons_cons, tCons_cons, tCons_cons, tCons_cons, tInt_int, tNil_nil]
      by_cases e1 : (rungOf xs a').num = (rungOf xs b').num
      · refine ifT_pos (by simp [e1]) ?_
        by_cases e2 : (rungOf xs a').num = 0
        · rw [if_pos (.inr (.inl e2)), show ((rungOf xs a').num == (rungOf xs b').num) = true by simp [e1]] at yes
          exact ifT_pos (by simpa using e2) (retG_of yes)
        · refine ifT_neg (by simpa using e2) ?_
          by_cases e3 : (rungOf xs a').num = -1
          · rw [if_pos (.inr (.inr e3)), show ((rungOf xs a').num == (rungOf xs b').num) = true by simp [e1]] at yes
            exact ifT_pos (by simpa using e3) (retG_of yes)
          · refine ifT_neg (by simpa using e3) ?_
            rw [if_neg (by omega)] at yes
            obtain rfl := perm_one hp hm
            obtain rfl := perm_one hp' hmb
            obtain ⟨s, hs⟩ := has_atom G hal e2 e3 hm
            obtain ⟨s', hs'⟩ := has_atom G hbl (by omega) (by omega) hmb
            rw [hs] at hw yes
            rw [hs'] at hw' yes
            rw [show (0 : Int) = ((0 : Nat) : Int) from rfl, hw.ix (i := 0) (by simp), ld1_lptr, tStr_str, hw'.ix (i := 0) (by simp), ld1_lptr, tStr_str]
            refine retG_of ?_
            rw [strEq_dec]
            simpa using yes
      · rw [if_pos (.inl e1), show ((rungOf xs a').num == (rungOf xs b').num) = false by simp [e1]] at yes
        exact ifT_neg (by simpa using e1) (retG_of yes)
end
end Go.Proofs.YtobpfhmjdoekfaaGreat

namespace Go.Proofs.YtobpfhmjdoekfaaGreat
open Go Go.Sym Go.Proofs.Tryz

variable {K : AVal → Heap → Prop} {h h0 hb : Heap}

/-- what is answered of a formula's rung -/
noncomputable def rungOut (xs : List Nd) (i : Int) : Int × Int := if hasN xs.length i = true then (if 1 < (atomL xs i.toNat).length then (0, 220) else ((rungOf xs i.toNat).num, 0)) else (0, 31)
noncomputable def eqOut (xs : List Nd) (i k : Int) : Bool × Int := if (rungOut xs i).2 ≠ 0 then (false, (rungOut xs i).2) else if (rungOut xs k).2 ≠ 0 then (false, (rungOut xs k).2) else (eqV xs i.toNat k.toNat, 0)
theorem hasN_nat {xs : List Nd} {j : Nat} (h : j < xs.length) : hasN xs.length (j : Int) = true := hasN_iff.2 ⟨by omega, by omega⟩
theorem out_no {xs : List Nd} {i : Int} (h : hasN xs.length i = false) : rungOut xs i = (0, 31) := by
  unfold rungOut
  rw [h]
  rfl
theorem out_many {xs : List Nd} {j : Nat} (h : j < xs.length) (hm : 1 < (atomL xs j).length) : rungOut xs (j : Int) = (0, 220) := by
  unfold rungOut
  rw [hasN_nat h, if_pos rfl, Int.toNat_natCast, if_pos hm]
theorem out_yes {xs : List Nd} {j : Nat} (h : j < xs.length) (hm : (atomL xs j).length ≤ 1) : rungOut xs (j : Int) = ((rungOf xs j).num, 0) := by
  unfold rungOut
  rw [hasN_nat h, if_pos rfl, Int.toNat_natCast, if_neg (by omega)]
theorem rungP_f {t : AVal} {xs : List Nd} (P : PRd h t xs) (G : GoodT xs) (hl : xs.length ≤ 1024) (i : Int) (hk : K (.tuple [.int .i64 (rungOut xs i).1, .int .i64 (rungOut xs i).2]) h) : ACalls prog 12 [t, .int .i64 i] h K :=
  rungP_ok P G hl i (fun hn => by rwa [out_no hn] at hk) (fun j hj hjl hm => by subst hj; rwa [out_many hjl hm] at hk) (fun j hj hjl hm => by subst hj; rwa [out_yes hjl hm] at hk)
theorem rungD_f {t : AVal} {xs : List Nd} (D : DRd h t xs) (G : GoodT xs) (hl : xs.length ≤ 1024) (i : Int) (hk : K (.tuple [.int .i64 (rungOut xs i).1, .int .i64 (rungOut xs i).2]) h) : ACalls prog 13 [t, .int .i64 i] h K :=
  rungD_ok D G hl i (fun hn => by rwa [out_no hn] at hk) (fun j hj hjl hm => by subst hj; rwa [out_many hjl hm] at hk) (fun j hj hjl hm => by subst hj; rwa [out_yes hjl hm] at hk)
theorem eq_err {xs : List Nd} {i k e : Int} (he : (hasN xs.length i = false ∧ e = 31) ∨ (∃ a : Nat, i = (a : Int) ∧ a < xs.length ∧ 1 < (atomL xs a).length ∧ e = 220) ∨ (∃ a : Nat, i = (a : Int) ∧ a < xs.length ∧ (atomL xs a).length ≤ 1 ∧ hasN xs.length k = false ∧ e = 31) ∨ (∃ a b : Nat, i = (a : Int) ∧ a < xs.length ∧ (atomL xs a).length ≤ 1 ∧ k = (b : Int) ∧ b < xs.length ∧ 1 < (atomL xs b).length ∧ e = 220)) : eqOut xs i k = (false, e) := by
  unfold eqOut
  rcases he with ⟨h1, rfl⟩ | ⟨a, rfl, h1, h2, rfl⟩ | ⟨a, rfl, h1, h2, h3, rfl⟩ | ⟨a, b, rfl, h1, h2, rfl, h3, h4, rfl⟩
  · rw [out_no h1]
    exact if_pos (by decide)
  · rw [out_many h1 h2]
    exact if_pos (by decide)
  · rw [out_yes h1 h2, if_neg (fun h => h rfl), out_no h3]
    exact if_pos (by decide)
  · rw [out_yes h1 h2, if_neg (fun h => h rfl), out_many h3 h4]
    exact if_pos (by decide)
theorem eq_yes {xs : List Nd} {a b : Nat} (h1 : a < xs.length) (h2 : b < xs.length) (h3 : (atomL xs a).length ≤ 1) (h4 : (atomL xs b).length ≤ 1) : eqOut xs (a : Int) (b : Int) = (eqV xs a b, 0) := by
  unfold eqOut
  rw [out_yes h1 h3, if_neg (fun h => h rfl), out_yes h2 h4, if_neg (fun h => h rfl), Int.toNat_natCast, Int.toNat_natCast]
theorem equalP_f {t : AVal} {xs : List Nd} (P : PRd h t xs) (G : GoodT xs) (hl : xs.length ≤ 1024) (i k : Int) (hk : K (.tuple [.bool (eqOut xs i k).1, .int .i64 (eqOut xs i k).2]) h) : ACalls prog 14 [t, .int .i64 i, .int .i64 k] h K :=
  equalP_ok P G hl i k (fun e he => by rwa [eq_err he] at hk) (fun a b ha hb h1 h2 h3 h4 => by subst ha; subst hb; rwa [eq_yes h1 h2 h3 h4] at hk)
theorem equalD_f {t : AVal} {xs : List Nd} (D : DRd h t xs) (G : GoodT xs) (hl : xs.length ≤ 1024) (i k : Int) (hk : K (.tuple [.bool (eqOut xs i k).1, .int .i64 (eqOut xs i k).2]) h) : ACalls prog 15 [t, .int .i64 i, .int .i64 k] h K :=
  equalD_ok D G hl i k (fun e he => by rwa [eq_err he] at hk) (fun a b ha hb h1 h2 h3 h4 => by subst ha; subst hb; rwa [eq_yes h1 h2 h3 h4] at hk)
theorem TT.reads {rt rd : Nat} {xs ys : List Nd} {R : List Ow} (W : TT hb rt rd xs ys R h) : PRd h (.ptr rt 0 0) xs ∧ DRd h (.ptr rd 0 0) ys := by
  obtain ⟨vM, W⟩ := W
  refine ⟨W.prd, ?_⟩
  obtain ⟨vN, q, O⟩ := W
  have O2 := Own.rot (A := [.slc 4 vN (xs.map nodeV), .cell rt (.row 2 [.agg [vN, .mapr q]]), .cell q (.map (ents 0 xs))]) (B := [.slc 4 vM (ys.map nodeV), .cell rd (.row 1 [.agg [vM]])]) O
  exact DD.drd ⟨vM, O2⟩
theorem rungsL_ok (H : HeadsOK) {v : AVal} {xs : List Nd} (hv : Nodes v xs) (hxs : xs.length ≤ 1048576) (hns : ∀ x ∈ xs, x.s.size ≤ 1073741824) (a b : Int) (hk : ∀ h', K (.bool true) h') : ACalls prog 4 [v, .int .i64 a, .int .i64 b] h K := by
  refine s4_ok ?_
  unfold s4
  refine callG_of (tables_ok hv hxs hns fun ys ok hl hn rt rd h1 W => ?_)
  rw [tTup_tuple, tCons_cons, tCons_cons, tNil_nil]
  obtain ⟨P, D⟩ := W.reads
  have G := okTab_good ok
  refine callG_of (rungP_f P G hl a ?_)
  rw [tTup_tuple, tCons_cons, tInt_int, tCons_cons, tInt_int, tNil_nil]
  refine callG_of (rungD_f D G hl a ?_)
  rw [tTup_tuple, tCons_cons, tInt_int, tCons_cons, tInt_int, tNil_nil]
  refine callG_of (equalP_f P G hl a b ?_)
  rw [tTup_tuple, tCons_cons, tBool_bool, tCons_cons, tInt_int, tNil_nil]
  refine callG_of (equalD_f D G hl a b ?_)
  rw [tTup_tuple, tCons_cons, tBool_bool, tCons_cons, tInt_int, tNil_nil]
  refine ifT_pos (by simp) (callG_of (num26_ok ?_))
  rw [tInt_int]
  refine ifT_pos (by simp) (eqQ_bool (ifT_pos (by simp) (callG_of (num26_ok ?_))))
  rw [tInt_int]
  refine ifT_pos (by simp) (callG_of (likeT4_ok P D (by omega) fun h' _ => ?_))
  rw [tBool_bool]
  exact ifT_pos rfl (headsRet H hk)
end Go.Proofs.YtobpfhmjdoekfaaGreat

/- Contracts: the document's Below, Occurs, Signs. No condition. A rung as an answer (the program). No condition. -/
import Derived.Test.YtobpfhmjdoekfaaGreatNRun

set_option linter.unusedVariables false
set_option linter.unusedSimpArgs false

namespace Go.Proofs.YtobpfhmjdoekfaaGreat
open Go Go.Sym Go.Proofs.Tryz

variable {K : AVal → Heap → Prop} {h h0 hb : Heap}

section
variable {t : AVal} {xs : List Nd} {j : Nat}
/-- what the document's marks hold when the formulas from i on have been looked at -/
structure MK (xs : List Nd) (j i : Nat) (p : Nat → Bool) : Prop where
  top : p j = true
  sub : ∀ c, p c = true → Sub xs j c
  kid : ∀ c, i ≤ c → p c = true → ∀ k, Kid xs c k → p k = true
theorem MK.full {p : Nat → Bool} (M : MK xs j 0 p) (c : Nat) : p c = true ↔ Sub xs j c := by
  refine ⟨M.sub c, fun s => ?_⟩
  have : ∀ a b, Sub xs a b → p a = true → p b = true := fun a b s => by
    induction s with
    | refl => exact fun h => h
    | step k _ ih => exact fun h => ih (M.kid _ (Nat.zero_le _) h _ k)
  exact this j c s M.top
theorem belowT_l4 {r n : Nat} {p : Nat → Bool} (hjn : j < n) (hn : n ≤ 1024) (hp : ∀ c, p c = true ↔ Sub xs j c) (yes : ∀ v, Ints v (natI (subL xs j)) → K (.tuple [v, .int .i64 0]) h0) :
    ∀ (d i : Nat) (out : AVal) (h : Heap), i + d = j + 1 → Own h0 [.cell r (bRow n p), .slc 1 out ((natI ((List.range i).filter p)).map (.int .i64))] h → s17l4 K (d + 1) (j : Int) (.sl r 1 0 n) out (i : Int) h
  | 0, i, out, h, hd, O => by
    unfold s17l4
    refine ifT_neg (by simp; omega) ?_
    have hi : i = j + 1 := by omega
    subst hi
    have e : (List.range (j + 1)).filter p = subL xs j := by
      unfold subL
      refine List.filter_congr fun c _ => ?_
      rw [Bool.eq_iff_iff, hp c]
      exact ⟨fun h => @decide_eq_true _ (Classical.propDecidable _) h, fun h => @of_decide_eq_true _ (Classical.propDecidable _) h⟩
    rw [e] at O
    obtain ⟨v', lv, sv⟩ := O.lit (i := 1) rfl (S := nameOf out) (fun n hn => hn) (Lits.refl _)
    exact ⟨_, .tuple [v', .int .i64 0], h0, .tuple (.cons lv (.cons (.refl _) .nil)), toBaseG O _ (fun n hn => O.new 1 _ n rfl hn), yes v' sv⟩
  | d + 1, i, out, h, hd, O => by
    unfold s17l4
    refine ifT_pos (by simp; omega) (bRow_rd (O.get 0 _ r rfl rfl) (by omega) ?_)
    rw [tBool_bool]
    have hf := range_filter_succ p i
    have hlen := List.length_filter_le p (List.range i)
    rw [List.length_range] at hlen
    cases hpi : p i with
    | true =>
      rw [hpi, if_pos rfl] at hf
      refine ifT_pos rfl (O.app (i := 1) rfl (by simp [natI]; omega) (by simp [natI]; omega) fun v2 h2 O2 => ?_)
      unfold s17c5
      refine rg_of (by omega) (by omega) (s17l4_go (belowT_l4 hjn hn hp yes d (i + 1) v2 h2 (by omega) ?_))
      rw [hf]
      have e2 : (natI ((List.range i).filter p ++ [i])).map (AVal.int .i64) = (natI ((List.range i).filter p)).map (.int .i64) ++ [.int .i64 (i : Int)] := by simp [natI]
      rw [e2]
      exact O2
    | false =>
      rw [hpi] at hf
      refine ifT_neg rfl ?_
      unfold s17c5
      refine rg_of (by omega) (by omega) (s17l4_go (belowT_l4 hjn hn hp yes d (i + 1) out h (by omega) ?_))
      rw [hf]
      simpa using O
theorem belowT_l1 {r : Nat} (D : DRd h0 t xs) (G : GoodT xs) (hj : j < xs.length) (hl : xs.length ≤ 1024) (yes : ∀ v, Ints v (natI (subL xs j)) → K (.tuple [v, .int .i64 0]) h0) :
    ∀ (d : Nat) (p : Nat → Bool) (h : Heap), d ≤ j + 1 → MK xs j d p → Own h0 [.cell r (bRow xs.length p)] h → s17l1 K (d + 1) t (j : Int) (.sl r 1 0 xs.length) .nilsl ((d : Int) - 1) h
  | 0, p, h, hd, M, O => by
    unfold s17l1
    refine ifT_neg (by simp) (s17l4_in (j + 2) (belowT_l4 hj hl M.full yes (j + 1) 0 .nilsl h (by omega) ?_))
    exact O.newN 1
  | d + 1, p, h, hd, M, O => by
    have hdl : d < xs.length := by omega
    have hx := List.getElem?_eq_getElem hdl
    unfold s17l1
    rw [show ((d + 1 : Nat) : Int) - 1 = (d : Int) by omega]
    refine ifT_pos (by simp) (bRow_rd (O.get 0 _ r rfl rfl) hdl ?_)
    rw [tBool_bool]
    have go : ∀ (p' : Nat → Bool) (h' : Heap), MK xs j d p' → Own h0 [.cell r (bRow xs.length p')] h' → s17c2 K (s17l1_G (s17l1 K (d + 1))) t (j : Int) (.sl r 1 0 xs.length) .nilsl (d : Int) h' := fun p' h' M' O' => by
      unfold s17c2
      exact rg_of (by omega) (by omega) (s17l1_go (belowT_l1 D G hj hl yes d p' h' (by omega) M' O'))
    have keep : (p d = true → ∀ k, Kid xs d k → p k = true) → MK xs j d p := fun hk => ⟨M.top, M.sub, fun c hc hpc => by
      rcases Nat.lt_or_ge d c with e | e
      · exact M.kid c e hpc
      · obtain rfl : c = d := by omega
        exact hk hpc⟩
    cases hpd : p d with
    | false => exact ifT_pos rfl (go p h (keep fun e => by rw [hpd] at e; cases e) O)
    | true =>
      refine ifT_neg rfl ?_
      obtain ⟨vN, RN, hld⟩ := (D.ext O.old).ld
      rw [hld]
      refine RN.fld hx (o := 0) rfl ?_
      rw [tInt_int]
      have g := G d _ hx
      by_cases k1 : xs[d].k = 1
      · refine ifT_neg (by simp [k1]) ?_
        unfold s17c3
        refine ifT_neg rfl (go p h (keep fun _ k ⟨x, hx', h3, _⟩ => ?_) O)
        rw [hx] at hx'; cases hx'; omega
      · refine ifT_pos (by simpa using k1) ?_
        rw [hld]
        refine RN.fld hx (o := 0) rfl ?_
        rw [tInt_int]
        unfold s17c3
        by_cases k2 : xs[d].k = 2
        · refine ifT_neg (by simp [k2]) (go p h (keep fun _ k ⟨x, hx', h3, _⟩ => ?_) O)
          rw [hx] at hx'; cases hx'; omega
        · refine ifT_pos (by simpa using k2) ?_
          obtain ⟨e, ⟨l1, l2⟩, r1, r2⟩ := (g.resolve_left k1).resolve_left k2
          obtain ⟨a, ha⟩ := Int.eq_ofNat_of_zero_le l1
          obtain ⟨b, hb'⟩ := Int.eq_ofNat_of_zero_le r1
          rw [hld]
          refine RN.fld hx (o := 2) rfl ?_
          rw [tInt_int, ha]
          refine bRow_wr (O.get 0 _ r rfl rfl) (by omega) true ?_
          have O2 := O.put (i := 0) rfl (bRow xs.length fun v => if v = a then true else p v)
          obtain ⟨vN2, RN2, hld2⟩ := (D.ext O2.old).ld
          rw [hld2]
          refine RN2.fld hx (o := 3) rfl ?_
          rw [tInt_int, hb']
          refine bRow_wr (O2.get 0 _ r rfl rfl) (by omega) true ?_
          have O3 := O2.put (i := 0) rfl (bRow xs.length fun v => if v = b then true else if v = a then true else p v)
          refine go _ _ ⟨?_, fun c hc => ?_, fun c hc hpc k hk => ?_⟩ O3
          · split
            · rfl
            · split
              · rfl
              · exact M.top
          · have sd := M.sub d hpd
            split at hc
            · rename_i h1; subst h1
              exact sd.trans (.step ⟨_, hx, by omega, .inr hb'⟩ (.refl _))
            · split at hc
              · rename_i h1; subst h1
                exact sd.trans (.step ⟨_, hx, by omega, .inl ha⟩ (.refl _))
              · exact M.sub c hc
          · rcases Nat.lt_or_ge d c with h1 | h1
            · have hpc' : p c = true := by
                rw [if_neg (by omega), if_neg (by omega)] at hpc
                exact hpc
              have := M.kid c h1 hpc' k hk
              split
              · rfl
              · split
                · rfl
                · exact this
            · obtain rfl : c = d := by omega
              obtain ⟨x, hx', _, h4⟩ := hk
              rw [hx] at hx'; cases hx'
              rcases h4 with h4 | h4
              · rw [if_pos (show k = a by omega)]
                split <;> rfl
              · rw [if_pos (show k = b by omega)]
theorem belowT_ok (D : DRd h t xs) (G : GoodT xs) (hl : xs.length ≤ 1024) (hj : j < xs.length) (yes : ∀ v, Ints v (natI (subL xs j)) → K (.tuple [v, .int .i64 0]) h) : ACalls prog 17 [t, .int .i64 (j : Int)] h K := by
  refine s17_ok ?_
  unfold s17
  refine callG_of (hasT_ok D _ ?_)
  rw [tBool_bool, hasN_iff.2 (show 0 ≤ (j : Int) ∧ (j : Int) < xs.length by omega)]
  refine ifT_neg rfl ?_
  obtain ⟨vN, RN, hld⟩ := D.ld
  rw [hld, RN.len]
  refine mkS_own (n := xs.length) (by omega) (by omega) fun r hr => ?_
  rw [bRow_zero]
  have O := (Own.start h).newC hr (bRow xs.length fun _ => false)
  refine bRow_wr (Heap.set_same _ _ _) hj true ?_
  have O2 := O.put (i := 0) rfl (bRow xs.length fun v => if v = j then true else false)
  refine s17l1_in (j + 2) ?_
  have := belowT_l1 D G hj hl yes (j + 1) _ _ (by omega) ⟨by simp, fun c hc => ?_, fun c hc hpc => ?_⟩ O2
  · rw [show ((j + 1 : Nat) : Int) - 1 = (j : Int) by omega] at this
    exact this
  · by_cases e : c = j
    · subst e; exact .refl _
    · simp [e] at hc
  · by_cases e : c = j
    · omega
    · simp [e] at hpc
end
end Go.Proofs.YtobpfhmjdoekfaaGreat

namespace Go.Proofs.YtobpfhmjdoekfaaGreat
open Go Go.Sym Go.Proofs.Tryz

variable {K : AVal → Heap → Prop} {h h0 hb : Heap}

/-- what is answered of a formula's rung -/
noncomputable def rungOut (xs : List Nd) (i : Int) : Int × Int := if hasN xs.length i = true then (if 1 < (atomL xs i.toNat).length then (0, 220) else ((rungOf xs i.toNat).num, 0)) else (0, 31)
theorem hasN_nat {xs : List Nd} {j : Nat} (h : j < xs.length) : hasN xs.length (j : Int) = true := hasN_iff.2 ⟨by omega, by omega⟩
theorem out_no {xs : List Nd} {i : Int} (h : hasN xs.length i = false) : rungOut xs i = (0, 31) := by
  unfold rungOut
  rw [h]
  rfl
theorem out_many {xs : List Nd} {j : Nat} (h : j < xs.length) (hm : 1 < (atomL xs j).length) : rungOut xs (j : Int) = (0, 220) := by
  unfold rungOut
  rw [hasN_nat h, if_pos rfl, Int.toNat_natCast, if_pos hm]
theorem out_yes {xs : List Nd} {j : Nat} (h : j < xs.length) (hm : (atomL xs j).length ≤ 1) : rungOut xs (j : Int) = ((rungOf xs j).num, 0) := by
  unfold rungOut
  rw [hasN_nat h, if_pos rfl, Int.toNat_natCast, if_neg (by omega)]
theorem rungP_f {t : AVal} {xs : List Nd} (P : PRd h t xs) (G : GoodT xs) (hl : xs.length ≤ 1024) (i : Int) (hk : K (.tuple [.int .i64 (rungOut xs i).1, .int .i64 (rungOut xs i).2]) h) : ACalls prog 12 [t, .int .i64 i] h K :=
  rungP_ok P G hl i (fun hn => by rwa [out_no hn] at hk) (fun j hj hjl hm => by subst hj; rwa [out_many hjl hm] at hk) (fun j hj hjl hm => by subst hj; rwa [out_yes hjl hm] at hk)
theorem TT.reads {rt rd : Nat} {xs ys : List Nd} {R : List Ow} (W : TT hb rt rd xs ys R h) : PRd h (.ptr rt 0 0) xs ∧ DRd h (.ptr rd 0 0) ys := by
  obtain ⟨vM, W⟩ := W
  refine ⟨W.prd, ?_⟩
  obtain ⟨vN, q, O⟩ := W
  have O2 := Own.rot (A := [.slc 4 vN (xs.map nodeV), .cell rt (.row 2 [.agg [vN, .mapr q]]), .cell q (.map (ents 0 xs))]) (B := [.slc 4 vM (ys.map nodeV), .cell rd (.row 1 [.agg [vM]])]) O
  exact DD.drd ⟨vM, O2⟩
end Go.Proofs.YtobpfhmjdoekfaaGreat

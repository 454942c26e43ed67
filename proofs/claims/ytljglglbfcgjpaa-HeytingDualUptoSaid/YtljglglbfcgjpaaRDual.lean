/- HeytingDual over its inputs: an algebra's elements are the up-sets of its primes, in the same order. No condition. HeytingDual: the claim. No condition. -/
import Derived.Test.YtljglglbfcgjpaaRUps
import Derived.Test.YtljglglbfcgjpaaRHd

set_option linter.unusedVariables false
set_option linter.unusedSimpArgs false

namespace Go.Proofs.Ytljglglbfcgjpaa
open Go Go.Sym Go.Proofs.Try

variable {K : AVal → Heap → Prop} {h h0 hb : Heap} {n : Nat} {r : Nat → Nat → Bool}

section
variable (A : Lat n r) (hn : n ≤ 64) (hk : (primesL n r).length ≠ 0)
include A hn hk
theorem closed_primes {l : List Bool} : ClosedU (tidyUp (pUp n r)) l ↔ closedS n r l := by
  have W := pWF A hn hk
  have hl : (tidyUp (pUp n r)).length = (primesL n r).length := by rw [tidyUp_len, pUp_len]
  have hr : ∀ a b, a < (primesL n r).length → b < (primesL n r).length → (rb (tidyUp (pUp n r)) a b = true ↔ r ((primesL n r).getD b 0) ((primesL n r).getD a 0) = true) := fun a b ha hb => by
    rw [rb_iff, reach_tidy W (by rw [pUp_len]; exact ha), pReach A ha]
    exact ⟨fun h => h.2, fun h => ⟨hb, h⟩⟩
  constructor
  · intro C
    exact ⟨by rw [C.len, hl], fun w v hw hv h1 h2 => C.cl w v (by rw [hl]; exact hw) (by rw [hl]; exact hv) ((hr w v hw hv).2 h1) h2⟩
  · intro C
    exact ⟨by rw [hl]; exact C.1, fun a b ha hb h1 h2 => by
      rw [hl] at ha hb
      exact C.2 a b ha hb ((hr a b ha hb).1 h1) h2⟩
theorem phis_nodup : ((List.range n).map (phi n r)).Nodup := by
  have _ := hn
  have _ := hk
  unfold List.Nodup
  rw [List.pairwise_map]
  refine List.Pairwise.imp_of_mem (fun ha hb h e => h ?_) List.nodup_range
  exact A.phi_inj (List.mem_range.1 ha) (List.mem_range.1 hb) e
theorem mem_phis {l : List Bool} : l ∈ (List.range n).map (phi n r) ↔ closedS n r l := by
  have _ := hn
  have _ := hk
  rw [List.mem_map]
  constructor
  · rintro ⟨x, hx, rfl⟩
    exact A.phi_closed (List.mem_range.1 hx)
  · intro h
    obtain ⟨x, hx, e⟩ := A.phi_onto h
    exact ⟨x, List.mem_range.2 hx, e⟩
theorem primes_few : ¬ Many (tidyUp (pUp n r)) := by
  rintro ⟨V, h1, h2, h3⟩
  have := List.Nodup.length_le_of_subset h1 (l₂ := (List.range n).map (phi n r)) fun s hs => (mem_phis A hn hk).2 ((closed_primes A hn hk).1 (h3 s hs))
  rw [h2] at this
  simp at this
  omega
variable {V : List (List Bool)} (hV : IsUps (tidyUp (pUp n r)) V)
include hV
theorem dual_mem {l : List Bool} : l ∈ V ↔ closedS n r l := by rw [hV.mem, closed_primes A hn hk]
theorem dual_len : V.length = n := by
  have h1 := rising_nodup hV.rise
  have hp : V.Perm ((List.range n).map (phi n r)) := (List.perm_ext_iff_of_nodup h1 (phis_nodup A hn hk)).2 fun l => by rw [dual_mem A hn hk hV, mem_phis A hn hk]
  rw [hp.length_eq]
  simp
end

theorem natI_inj : ∀ {a b : List Nat}, natI a = natI b → a = b
  | [], [], _ => rfl
  | [], y :: b, h => by simp [natI] at h
  | x :: a, [], h => by simp [natI] at h
  | x :: a, y :: b, h => by
    simp only [natI, List.map_cons, List.cons.injEq] at h
    rw [natI_inj (a := a) (b := b) h.2, show x = y by omega]
/-- where an element's worlds stand -/
def img (V : List (List Bool)) (n : Nat) (r : Nat → Nat → Bool) (x : Nat) : Nat := V.idxOf (phi n r x)
section
variable (A : Lat n r) (hn : n ≤ 64) (hk : (primesL n r).length ≠ 0) {V : List (List Bool)} (hV : IsUps (tidyUp (pUp n r)) V)
include A hn hk hV
theorem img_lt {x : Nat} (hx : x < n) : img V n r x < V.length := List.idxOf_lt_length_of_mem ((dual_mem A hn hk hV).2 (A.phi_closed hx))
theorem img_get {x : Nat} (hx : x < n) : V[img V n r x]'(img_lt A hn hk hV hx) = phi n r x := List.getElem_idxOf _
theorem img_eq {x k : Nat} (hx : x < n) (hk' : k < V.length) : V[k] = phi n r x ↔ k = img V n r x := by
  constructor
  · intro e
    have hnd := rising_nodup hV.rise
    have e2 : V[k] = V[img V n r x]'(img_lt A hn hk hV hx) := by rw [e, img_get A hn hk hV hx]
    exact (List.getElem_inj hnd).1 e2
  · intro e
    subst e
    exact img_get A hn hk hV hx
theorem img_inj {x y : Nat} (hx : x < n) (hy : y < n) (h : img V n r x = img V n r y) : x = y := by
  refine A.phi_inj hx hy ?_
  have e1 := img_get A hn hk hV hx
  have e2 := img_get A hn hk hV hy
  simp only [h] at e1
  exact e1.symm.trans e2
theorem img_le {x y : Nat} (hx : x < n) (hy : y < n) : at2 (leqT V) (img V n r x) (img V n r y) = r x y := by
  rw [at2_leqT (img_lt A hn hk hV hx) (img_lt A hn hk hV hy), img_get A hn hk hV hx, img_get A hn hk hV hy, Bool.eq_iff_iff, subB_iff (n := (primesL n r).length) phi_len phi_len, A.phi_le hx hy]
end
/-- an element's worlds, by the law's search -/
def wsL (n : Nat) (r : Nat → Nat → Bool) (x k : Nat) : List Nat := (List.range k).filter fun w => r ((primesL n r).getD w 0) x
theorem ws_idx {x : Nat} : wsL n r x (primesL n r).length = idxL (phi n r x) := by
  unfold wsL idxL
  rw [phi_len]
  refine List.filter_congr fun w hw => ?_
  have hw' := List.mem_range.1 hw
  rw [phi_get hw', pL_get hw']

section
variable {a : AVal} {L : List (List Bool)} (AV : AlgV a L) (hal : algP L = true) {V : List (List Bool)} (hk : (primesL L.length (at2 L)).length ≠ 0) (hV : IsUps (tidyUp (pUp L.length (at2 L))) V) {u : AVal} (hu : Intss u (V.map fun l => natI (idxL l))) {p : AVal} (hp : Ints p (natI (primesL L.length (at2 L)))) {b : AVal} (hb' : Boolss b (leqT V)) {rb1 : Nat}
include AV hal hk hV hu hp hb'
theorem dual_l6 {X : Ow} {x : Nat} (hx : x < L.length) {image ws : AVal} {IM : List Nat} (hI : IM.length ≤ 64) (hws : Ints ws (natI (wsL L.length (at2 L) x (primesL L.length (at2 L)).length))) {L2 : s3l2_T}
    (next : ∀ image' h', Own h0 [X, .cell rb1 (.row 1 [.agg [b]]), .slc 1 image' ((natI (IM ++ [img V L.length (at2 L) x])).map (.int .i64))] h' → L2 (.lptr [a]) p (.ptr rb1 0 0) u image' ((x : Int) + 1) h') :
    ∀ d k : Nat, k + d = V.length → ∀ h, Own h0 [X, .cell rb1 (.row 1 [.agg [b]]), .slc 1 image ((natI IM).map (.int .i64))] h →
      s3l6 K (s3l2_G L2) (d + 1) (.lptr [a]) p (.ptr rb1 0 0) u image (x : Int) ws (if img V L.length (at2 L) x < k then ((img V L.length (at2 L) x : Nat) : Int) else -1) (k : Int) h
  | 0, k, hd, h, W => by
    obtain rfl : k = V.length := by omega
    obtain ⟨_, _, hn⟩ := algP_sq hal
    have AL := lat_of hal
    have hlt := img_lt AL hn hk hV hx
    unfold s3l6
    rw [hu.len, show ((V.map fun l => natI (idxL l)).length : Int) = (V.length : Int) by simp, if_pos hlt]
    refine ifT_neg (by simp) (ifT_neg (by simp) (W.app (i := 2) rfl (by simp [natI]; omega) (by simp [natI]; omega) fun v2 h2 W2 => rg_of (by omega) (by omega) (s3l2_go (next v2 h2 ?_))))
    have e : (natI (IM ++ [img V L.length (at2 L) x])).map (AVal.int .i64) = (natI IM).map (.int .i64) ++ [.int .i64 ((img V L.length (at2 L) x : Nat) : Int)] := by simp [natI]
    rw [e]
    exact W2
  | d + 1, k, hd, h, W => by
    have _ := AV
    have _ := hp
    have _ := hb'
    have hkk : k < V.length := by omega
    obtain ⟨_, _, hn⟩ := algP_sq hal
    have AL := lat_of hal
    have hVl := dual_len AL hn hk hV
    obtain ⟨e, he, hix⟩ := hu.ix (i := k) (by simpa using hkk)
    simp only [List.getElem_map] at he
    have hkc := (dual_mem AL hn hk hV).1 (List.getElem_mem hkk)
    unfold s3l6
    rw [hu.len, show ((V.map fun l => natI (idxL l)).length : Int) = (V.length : Int) by simp]
    refine ifT_pos (by simp; omega) ?_
    rw [hix, ld1_lptr]
    have hlen : (natI (idxL V[k])).length ≤ 1073741824 := by
      have h1 := List.length_filter_le (fun w => V[k].getD w false) (List.range V[k].length)
      have h2 := primes_le (n := L.length) (r := at2 L)
      have h3 := hkc.1
      unfold natI idxL
      simp only [List.length_map, List.length_range] at h1 ⊢
      omega
    refine callG_of (ints_ok he hws hlen ?_)
    rw [tBool_bool]
    have e1 : decide (natI (idxL V[k]) = natI (wsL L.length (at2 L) x (primesL L.length (at2 L)).length)) = decide (k = img V L.length (at2 L) x) := by
      rw [decide_eq_decide, ← img_eq AL hn hk hV hx hkk, ws_idx]
      constructor
      · intro h
        refine idxL_inj hkc.1 phi_len ?_
        exact natI_inj h
      · intro h; rw [h]
    rw [e1]
    have c7 : ∀ at' : Int, at' = (if img V L.length (at2 L) x < k + 1 then ((img V L.length (at2 L) x : Nat) : Int) else -1) → s3c7 K (s3l2_G L2) (s3l6_G (s3l6 K (s3l2_G L2) (d + 1))) (.lptr [a]) p (.ptr rb1 0 0) u image (x : Int) ws at' (k : Int) h := fun at' e2 => by
      subst e2
      unfold s3c7
      exact rg_of (by omega) (by omega) (s3l6_go (dual_l6 (image := image) hx hI hws next d (k + 1) (by omega) h W))
    by_cases e2 : k = img V L.length (at2 L) x
    · rw [decide_eq_true e2]
      refine ifT_pos rfl (c7 _ ?_)
      rw [if_pos (by omega), e2]
    · rw [decide_eq_false e2]
      refine ifT_neg rfl (c7 _ ?_)
      by_cases e3 : img V L.length (at2 L) x < k
      · rw [if_pos e3, if_pos (by omega)]
      · rw [if_neg e3, if_neg (by omega)]
theorem dual_l3 {X : Ow} {x : Nat} (hx : x < L.length) {image : AVal} {IM : List Nat} (hI : IM.length ≤ 64) {L2 : s3l2_T}
    (next : ∀ image' h', Own h0 [X, .cell rb1 (.row 1 [.agg [b]]), .slc 1 image' ((natI (IM ++ [img V L.length (at2 L) x])).map (.int .i64))] h' → L2 (.lptr [a]) p (.ptr rb1 0 0) u image' ((x : Int) + 1) h') :
    ∀ d w : Nat, w + d = (primesL L.length (at2 L)).length → ∀ ws h, Own h0 [X, .cell rb1 (.row 1 [.agg [b]]), .slc 1 image ((natI IM).map (.int .i64)), .slc 1 ws ((natI (wsL L.length (at2 L) x w)).map (.int .i64))] h →
      s3l3 K (s3l2_G L2) (d + 1) (.lptr [a]) p (.ptr rb1 0 0) u image (x : Int) ws (w : Int) h
  | 0, w, hd, ws, h, W => by
    obtain rfl : w = (primesL L.length (at2 L)).length := by omega
    unfold s3l3
    rw [hp.len, show ((natI (primesL L.length (at2 L))).length : Int) = ((primesL L.length (at2 L)).length : Int) by simp [natI]]
    refine ifT_neg (by simp) ?_
    have W' : Own h0 ([X, .cell rb1 (.row 1 [.agg [b]]), .slc 1 image ((natI IM).map (.int .i64))] ++ [.slc 1 ws ((natI (wsL L.length (at2 L) x (primesL L.length (at2 L)).length)).map (.int .i64))]) h := W
    obtain ⟨S, h', ws', l1, s1, g, W2⟩ := Own.frzL W'
    refine ⟨S, [.lptr [a], p, .ptr rb1 0 0, u, image, .int .i64 x, ws', .int .i64 (-1), .int .i64 0], h', .cons (.refl _) (.cons (.refl _) (.cons (.refl _) (.cons (.refl _) (.cons (.refl _) (.cons (.refl _) (.cons l1 (Lits.refl _))))))), g, rfl, V.length + 1, ?_⟩
    exact dual_l6 (image := image) AV hal hk hV hu hp hb' hx hI s1 next V.length 0 (by omega) h' W2
  | d + 1, w, hd, ws, h, W => by
    have hw : w < (primesL L.length (at2 L)).length := by omega
    obtain ⟨hs, _, hn⟩ := algP_sq hal
    have hpl := (prime_at (n := L.length) (r := at2 L) hw).1
    have hle := primes_le (n := L.length) (r := at2 L)
    have hsu := range_filter_succ (fun w => at2 L ((primesL L.length (at2 L)).getD w 0) x) w
    have hlen : ((natI (wsL L.length (at2 L) x w)).map (AVal.int .i64)).length ≤ w := by
      rw [List.length_map]
      unfold natI wsL
      rw [List.length_map]
      have := List.length_filter_le (fun w => at2 L ((primesL L.length (at2 L)).getD w 0) x) (List.range w)
      simpa using this
    unfold s3l3
    rw [hp.len, show ((natI (primesL L.length (at2 L))).length : Int) = ((primesL L.length (at2 L)).length : Int) by simp [natI]]
    refine ifT_pos (by simp; omega) ?_
    have hpi : ∀ X : AVal → Prop, ixS 1 p (w : Int) X = X (.lptr [.int .i64 (((primesL L.length (at2 L))[w] : Nat) : Int)]) := fun X => by
      rw [hp.ix (i := w) (by simpa [natI] using hw)]
      simp [natI]
    rw [hpi, ld1_lptr, tInt_int]
    refine ifT_neg (by simp) ?_
    rw [hpi, ld1_lptr, tInt_int]
    simp only [addOff_lptr, List.drop_zero, ld1_lptr]
    rw [AV.v.len, decide_eq_false (show ¬ ((L.length : Int) ≤ (((primesL L.length (at2 L))[w] : Nat) : Int)) by omega)]
    unfold s3c5
    refine ifT_neg rfl ?_
    simp only [addOff_lptr, List.drop_zero, ld1_lptr]
    rw [hpi, ld1_lptr, tInt_int]
    obtain ⟨e, e1, _, e2⟩ := AV.v.rd hs hpl
    rw [e1, e2 x hx, tBool_bool]
    have eg : at2 L ((primesL L.length (at2 L)).getD w 0) x = at2 L (primesL L.length (at2 L))[w] x := by rw [pL_get hw]
    rw [eg] at hsu
    cases ec : at2 L (primesL L.length (at2 L))[w] x with
    | true =>
      rw [ec, if_pos rfl] at hsu
      refine ifT_pos rfl (W.app (i := 3) rfl (by omega) (by omega) fun v2 h2 W2 => ?_)
      unfold s3c4
      refine rg_of (by omega) (by omega) (s3l3_go (dual_l3 (image := image) hx hI next d (w + 1) (by omega) v2 h2 ?_))
      have e3 : (natI (wsL L.length (at2 L) x (w + 1))).map (AVal.int .i64) = (natI (wsL L.length (at2 L) x w)).map (.int .i64) ++ [.int .i64 (w : Int)] := by
        unfold wsL
        rw [hsu]
        simp [natI]
      rw [e3]
      exact W2
    | false =>
      rw [ec, if_neg (by decide), List.append_nil] at hsu
      refine ifT_neg rfl ?_
      unfold s3c4
      refine rg_of (by omega) (by omega) (s3l3_go (dual_l3 (image := image) hx hI next d (w + 1) (by omega) ws h ?_))
      have e3 : wsL L.length (at2 L) x (w + 1) = wsL L.length (at2 L) x w := hsu
      rw [e3]
      exact W
variable (HH : Heads23) (hK : ∀ h', K (.bool true) h')
include HH hK
theorem dual_l9 {h : Heap} (hq : h rb1 = some (.row 1 [.agg [b]])) {iv : AVal} (hi : Ints iv (natI ((List.range L.length).map (img V L.length (at2 L))))) {x : Nat} (hx : x < L.length) {L8 : s3l8_T} (next : L8 (.lptr [a]) (.ptr rb1 0 0) iv ((x : Int) + 1) h) :
    ∀ d y : Nat, y + d = L.length → s3l9 K L8 (d + 1) (.lptr [a]) (.ptr rb1 0 0) iv (x : Int) (y : Int) h
  | 0, y, hd => by
    have hlen : (natI ((List.range L.length).map (img V L.length (at2 L)))).length = L.length := by simp [natI]
    obtain ⟨_, _, hn⟩ := algP_sq hal
    unfold s3l9
    rw [hi.len, hlen]
    exact ifT_neg (by simp; omega) (rg_of (by omega) (by omega) next)
  | d + 1, y, hd => by
    have _ := hu
    have _ := hp
    have _ : Heads23 := @HH
    have _ := hK
    have hy : y < L.length := by omega
    have hlen : (natI ((List.range L.length).map (img V L.length (at2 L)))).length = L.length := by simp [natI]
    obtain ⟨hs, _, hn⟩ := algP_sq hal
    have AL := lat_of hal
    have hVl := dual_len AL hn hk hV
    have hsV : Sq (leqT V) := fun row hr => by
      unfold leqT at hr ⊢
      obtain ⟨l, _, rfl⟩ := List.mem_map.1 hr
      simp
    have lV : (leqT V).length = V.length := by simp [leqT]
    have hxi := img_lt AL hn hk hV hx
    have hyi := img_lt AL hn hk hV hy
    obtain ⟨ei, i1, _, i2⟩ := hb'.rd hsV (x := img V L.length (at2 L) x) (by rw [lV]; exact hxi)
    obtain ⟨ea, a1, _, a2⟩ := AV.v.rd hs hx
    have gi : ∀ z, z < L.length → ∀ X : AVal → Prop, ixS 1 iv (z : Int) X = X (.lptr [.int .i64 ((img V L.length (at2 L) z : Nat) : Int)]) := fun z hz X => by
      rw [hi.ix (i := z) (by rw [hlen]; exact hz)]
      simp [natI]
    have next' := dual_l9 hq hi hx next d (y + 1) (by omega)
    unfold s3l9
    rw [hi.len, hlen]
    refine ifT_pos (by simp; omega) ?_
    rw [addOff_ptr, ld1_fld hq rfl, gi x hx, ld1_lptr, tInt_int, i1, gi y hy, ld1_lptr, tInt_int, i2 _ (by rw [lV]; exact hyi), tBool_bool]
    simp only [addOff_lptr, List.drop_zero, ld1_lptr]
    rw [a1, a2 y hy, tBool_bool, img_le AL hn hk hV hx hy]
    refine eqQ_boolR (ifT_neg (by simp) ?_)
    have c10 : s3c10 K L8 (s3l9_G (s3l9 K L8 (d + 1))) (.lptr [a]) (.ptr rb1 0 0) iv (x : Int) (y : Int) false h := by
      unfold s3c10
      exact ifT_neg rfl (rg_of (by omega) (by omega) (s3l9_go next'))
    by_cases exy : x = y
    · exact ifT_neg (by simp [exy]) c10
    · refine ifT_pos (by simp; omega) ?_
      rw [gi x hx, ld1_lptr, tInt_int, gi y hy, ld1_lptr, tInt_int]
      rw [show ((((img V L.length (at2 L) x : Nat) : Int)) == ((img V L.length (at2 L) y : Nat) : Int)) = false by
        rw [beq_eq_false_iff_ne]
        intro e
        exact exy (img_inj AL hn hk hV hx hy (by omega))]
      exact c10
theorem dual_l8 {h : Heap} (hq : h rb1 = some (.row 1 [.agg [b]])) {iv : AVal} (hi : Ints iv (natI ((List.range L.length).map (img V L.length (at2 L))))) :
    ∀ d x : Nat, x + d = L.length → s3l8 K (d + 1) (.lptr [a]) (.ptr rb1 0 0) iv (x : Int) h
  | 0, x, hd => by
    have hlen : (natI ((List.range L.length).map (img V L.length (at2 L)))).length = L.length := by simp [natI]
    unfold s3l8
    rw [hi.len, hlen]
    exact ifT_neg (by simp; omega) (headsRet HH hK)
  | d + 1, x, hd => by
    have hlen : (natI ((List.range L.length).map (img V L.length (at2 L)))).length = L.length := by simp [natI]
    unfold s3l8
    rw [hi.len, hlen]
    exact ifT_pos (by simp; omega) (s3l9_in (L.length + 1) (dual_l9 AV hal hk hV hu hp hb' HH hK hq hi (by omega) (s3l8_go (dual_l8 hq hi d (x + 1) (by omega))) L.length 0 (by omega)))
theorem dual_l2 {X : Ow} : ∀ d x : Nat, x + d = L.length → ∀ image h, Own h0 [X, .cell rb1 (.row 1 [.agg [b]]), .slc 1 image ((natI ((List.range x).map (img V L.length (at2 L)))).map (.int .i64))] h →
    s3l2 K (d + 1) (.lptr [a]) p (.ptr rb1 0 0) u image (x : Int) h
  | 0, x, hd, image, h, W => by
    obtain rfl : x = L.length := by omega
    unfold s3l2
    simp only [addOff_lptr, List.drop_zero, ld1_lptr]
    rw [AV.v.len]
    refine ifT_neg (by simp) ?_
    have W' : Own h0 ([X, .cell rb1 (.row 1 [.agg [b]])] ++ [.slc 1 image ((natI ((List.range L.length).map (img V L.length (at2 L)))).map (.int .i64))]) h := W
    obtain ⟨S, h', iv, l1, s1, g, W2⟩ := Own.frzL W'
    refine ⟨S, [.lptr [a], .ptr rb1 0 0, iv, .int .i64 0], h', .cons (.refl _) (.cons (.refl _) (.cons l1 (Lits.refl _))), g, rfl, L.length + 1, ?_⟩
    exact dual_l8 AV hal hk hV hu hp hb' HH hK (W2.get 1 _ rb1 rfl rfl) s1 L.length 0 (by omega)
  | d + 1, x, hd, image, h, W => by
    obtain ⟨_, _, hn⟩ := algP_sq hal
    unfold s3l2
    simp only [addOff_lptr, List.drop_zero, ld1_lptr]
    rw [AV.v.len]
    refine ifT_pos (by simp; omega) (s3l3_in ((primesL L.length (at2 L)).length + 1) (dual_l3 (image := image) AV hal hk hV hu hp hb' (by omega) (IM := (List.range x).map (img V L.length (at2 L))) (by simp; omega) (fun image' h' W2 => ?_) (primesL L.length (at2 L)).length 0 (by omega) .nilsl h (W.newN 1)))
    refine dual_l2 (X := X) d (x + 1) (by omega) image' h' ?_
    rw [List.range_succ, List.map_append]
    exact W2
end
theorem dualL_ok (HH : Heads23) {a : AVal} {L : List (List Bool)} (AV : AlgV a L) (hK : ∀ h', K (.bool true) h') : ACalls prog 3 [.agg [a]] h K := by
  refine s3_ok ?_
  unfold s3
  refine callG_of (primesP_ok AV (fun e => ?_) (fun e _ => ?_) fun hal hk vU vV ev hU hVv he => ?_)
  · rw [tTup_tuple, tCons_cons, tCons_cons, tCons_cons, tInt_int, tNil_nil, tAgg_agg, tCons_cons, tCons_cons, tNil_nil]
    exact newRow_in fun q hq => st_all (Heap.set_same _ _ _) rfl (ifT_pos rfl (headsRet HH hK))
  · rw [tTup_tuple, tCons_cons, tCons_cons, tCons_cons, tInt_int, tNil_nil, tAgg_agg, tCons_cons, tCons_cons, tNil_nil]
    exact newRow_in fun q hq => st_all (Heap.set_same _ _ _) rfl (ifT_pos rfl (headsRet HH hK))
  · obtain ⟨hs, h1, hn⟩ := algP_sq hal
    have AL := lat_of hal
    have W := pWF AL hn hk
    have hsm : Small (tidyUp (pUp L.length (at2 L))) (pVal L.length (at2 L)) := by
      refine ⟨by rw [tidyUp_len]; exact (pSmall hn).ups, (pSmall hn).vals, fun row hr => ?_, (pSmall hn).names⟩
      unfold tidyUp at hr
      obtain ⟨w, hw, rfl⟩ := List.mem_map.1 hr
      have := List.length_filter_le (coverB (pUp L.length (at2 L)) w) (List.range (pUp L.length (at2 L)).length)
      have hmax := W.max
      unfold natI tidyRow
      simp only [List.length_map, List.length_range] at this ⊢
      omega
    rw [tTup_tuple, tCons_cons, tCons_cons, tCons_cons, tInt_int, tNil_nil, tAgg_agg, tCons_cons, tCons_cons, tNil_nil]
    refine newRow_in fun q hq => st_all (Heap.set_same _ _ _) rfl ?_
    have W1 := ((Own.start h).newC hq (.row 2 [.agg [.nilsl, .nilsl]])).put (i := 0) rfl (.row 2 [.agg [vU, vV]])
    generalize Heap.set (Heap.set h q _) q _ = h1' at W1 ⊢
    refine ifT_neg rfl ?_
    rw [ldN2 (W1.get 0 _ q rfl rfl), tCons_cons, tCons_cons, tNil_nil]
    refine callG_of (upsP_ok hsm hU hVv (fun hb => absurd (wf_tidy W) hb) (fun _ hm => absurd hm (primes_few AL hn hk)) fun _ V hV _ b u hbv hu => ?_)
    rw [tTup_tuple, tCons_cons, tCons_cons, tCons_cons, tInt_int, tNil_nil, tAgg_agg, tCons_cons, tNil_nil]
    refine newRow_in fun q1 hq1 => st_all (Heap.set_same _ _ _) rfl ?_
    have W2 := (W1.newC hq1 (.row 1 [.agg [.nilsl]])).put (i := 1) rfl (.row 1 [.agg [b]])
    generalize Heap.set (Heap.set h1' q1 _) q1 _ = h2' at W2 ⊢
    have hVl := dual_len AL hn hk hV
    have lu : ((V.map fun l => natI (idxL l)).length : Int) = (L.length : Int) := by simp [hVl]
    have lb : ((leqT V).length : Int) = (L.length : Int) := by simp [leqT, hVl]
    refine ifT_neg rfl ?_
    rw [hu.len, AV.v.len, lu]
    refine ifT_neg (by simp) ?_
    rw [ld1_fld (W2.get 1 _ q1 rfl rfl) rfl, hbv.len, lb, hu.len, lu, show ((L.length : Int) != (L.length : Int)) = false by simp]
    unfold s3c1
    exact ifT_neg rfl (s3l2_in (L.length + 1) (dual_l2 AV hal hk hV hu he hbv HH hK L.length 0 (by omega) .nilsl h2' (W2.newN 1)))
end Go.Proofs.Ytljglglbfcgjpaa

namespace Go.Proofs.Ytljglglbfcgjpaa.heytingDual
open Go Go.Sym Go.Proofs.Try Go.Proofs.Ytljglglbfcgjpaa
open Go.ChangeShapes Go.WideShapes Go.ChangeAt Go.RowKit
set_option linter.unusedVariables false
set_option maxRecDepth 4000

theorem own : ownKnob prog.godebug = none := by kernel_rfl
theorem kids : Kids prog (· < prog.types.size) := kids_rows (by kernel_rfl) (by kernel_rfl)
theorem full : ∀ t e, t < prog.types.size → prog.underlying t = some (.slice e) → 0 < prog.cellsOf e := slices_full_of prog (by kernel_rfl)
theorem params_lt : ∀ t ∈ f3.params.toList, t < prog.types.size := by rw [params3]; decide

theorem contract (H : Type) (enc : TypeId × Value → H) (W : World) (args : Array Value) (ds gs : List (DataW H)) (before : List MemPlace)
    (hval : ∀ (j : Nat) t v, f3.params[j]? = some t → args[j]? = some v → Value.okWide prog W .any 0 t v)
    (hW : DataW.Whole enc prog f3.params.toList Rows.heytingDualSpec.vars false W args.toList ds gs before) (hk : Rows.uptoSmall H (ds ++ gs) = true) :
    Calls prog 3 args W fun e W' => ∃ v, e = .returned v ∧ Rows.heytingDualSpec.post enc prog f3 false true false false W args v W' := by
  have hW' := hW
  obtain ⟨p, q, hA0, hV, rfl, hfz, hnd⟩ := hW
  obtain ⟨rfl, rfl⟩ := trodVars_none hV
  have hA : DataW.TrodAll enc prog W 0 (fun _ => true) true f3.params.toList args.toList ds p := hA0
  rw [params3] at hA hval
  obtain ⟨v0, vs0, d0, ds0, p0, q0, hargs, rfl, rfl, h0, r0⟩ := trodAll_cons hA
  obtain ⟨rfl, rfl, rfl⟩ := trodAll_nil r0
  obtain rfl : args = #[v0] := by cases args; simp_all
  have hsum : Rows.uptoBulkAll [d0] ≤ 1048576 := by
    have := of_decide_eq_true hk
    simpa using this
  have k0 := hval 0 24 v0 rfl rfl
  obtain ⟨n0, g0⟩ := arg_gotA (t := 24) (by decide) h0 (Nat.le_trans (bulk_mem (by simp)) hsum)
  obtain ⟨a0, ra0, s0⟩ := arg_struct underlying24 k0 g0
  obtain ⟨b0, L0, rfl, hA0⟩ := shV_alg (Nat.le_refl _) s0
  have law := law_calls (W := W) (args := #[v0]) (.cons ra0 .nil) (dualL_ok (h := fun _ => none) (K := fun v _ => v = .bool true) heads_ok23 hA0 (fun _ => rfl))
  refine law.mono fun e W' ⟨he, hb⟩ => ?_
  subst he
  exact ⟨_, rfl, post_true rfl rfl rfl params_lt kids full hW' hb⟩

set_option maxRecDepth 100000 in
theorem lifted (os : Os) (started : os.Started) (H : Type) (enc : TypeId × Value → H) (F : Stop.Interp) :
    ReturnsInHanded {} checked os 3 .any ((Rows.OpenSpec.upto Rows.heytingDualSpec).pre6 enc prog f3 Rows.heytingDualUptoRow.domain false) (((Rows.OpenSpec.upto Rows.heytingDualSpec).at F).post enc prog f3 false true false false) := by
  refine returnsInHanded_of_cond (C := checked) (s := Rows.OpenSpec.upto Rows.heytingDualSpec) (k := Rows.uptoSmall) rfl own started (by kernel_rfl) func3
    (OpenSpec.witness (enc := enc) (C := checked) (s := Rows.OpenSpec.upto Rows.heytingDualSpec) (k := Rows.uptoSmall) rfl false ⟨#[], #[.agg #[.slice none 0 0]], []⟩ 8 (by kernel_rfl) (by kernel_rfl) (by kernel_rfl)
      (x := ([.agg [.nil]], [], [])) (by kernel_rfl) rfl (by kernel_rfl)) ?_
  intro W base args ds gs before hval hW _ hk _
  exact contract H enc W args ds gs before hval hW hk

theorem over : Rows.heytingDualUptoRow.holds Try.pinned (Rows.OpenSpec.upto Rows.heytingDualSpec) :=
  OpenClaim.holds_of_cond 3 f3 rfl rfl rfl rfl rfl rfl rfl ⟨rfl, rfl, rfl, rfl, rfl⟩ rfl rfl rfl rfl rfl (by kernel_rfl) func3 (by kernel_rfl)
    (of_decide_eq_true (by kernel_rfl)) (by unfold Func.isWrapper; first | (rw [if_pos (by decide +kernel)]; kernel_rfl) | (rw [if_neg (by decide +kernel)]; exact ⟨rfl, rfl⟩))
    (fun os started H enc _ F => lifted os started H enc F)

theorem proved : Rows.HeytingDualUptoSaid :=
  over
end Go.Proofs.Ytljglglbfcgjpaa.heytingDual

/- Contracts: what is next above each world (the document's tidying). No condition. Contracts: what is next above each world, by the program; copies. No condition. Contracts: tidied models; a copy; the same models. No condition. Plain law: models glued under a new root. No condition; no program. Contracts: the document's Glue. No condition. Contracts: the document's Glue, whole. No condition. Contracts: the program's Glue. No condition. Contracts: the program's Glue, whole. No condition. The law MorphGlues over its inputs. No condition. -/
import Derived.Test.YtinficcdpggiaaaM5
import Derived.Test.YtinficcdpggiaaaMH1
import Derived.Test.YtinficcdpggiaaaM4

set_option linter.unusedVariables false
set_option linter.unusedSimpArgs false

namespace Go.Proofs.Ytinficcdpggiaaa
open Go Go.Sym Go.Proofs.Try

variable {K : AVal → Heap → Prop} {h : Heap} {up : List (List Int)} {val : List (List ByteArray)} {mU mV : AVal}

noncomputable def okc (up : List (List Int)) (a b c : Nat) : Bool := (c == a) || ((c == b) || (!rb up a c || !rb up c b))
noncomputable def startB (up : List (List Int)) (a b : Nat) : Bool := (a != b) && rb up a b
/-- is b next above a? -/
noncomputable def coverB (up : List (List Int)) (a b : Nat) : Bool := startB up a b && (List.range up.length).all (okc up a b)
noncomputable def tidyRow (up : List (List Int)) (a : Nat) : List Nat := (List.range up.length).filter (coverB up a)
noncomputable def tidyUp (up : List (List Int)) : List (List Int) := (List.range up.length).map fun a => natI (tidyRow up a)

theorem tidy17_l5 (hn : up.length ≤ 512) {o : AVal} (hO : OTab o up) {a b : Nat} (ha : a < up.length) (hb : b < up.length) {L1 : AVal → AVal → AVal → AVal → Int → Heap → Prop} {L2 : AVal → AVal → AVal → AVal → Int → AVal → Int → Heap → Prop}
    {m t2 out row : AVal} {h : Heap} (yes : coverB up a b = true → appC 1 8 h row (.lsl 1 [(.int .i64 (b : Int))]) fun v h' => s65c3 K L1 L2 m t2 o out a v b h')
    (no : coverB up a b = false → s65c3 K L1 L2 m t2 o out a row b h) : ∀ d c : Nat, c + d = up.length → ∀ next : Bool, (next = true → startB up a b = true ∧ (List.range c).all (okc up a b) = true) → (next = false → coverB up a b = false) →
      s65l5 K L1 L2 (d + 1) m t2 o out a row b next (c : Int) h
  | 0, c, hd, next, hy, hnn => by
    unfold s65l5
    rw [hO.len]
    refine ifT_neg (by simp; omega) (ifT_neg rfl ?_)
    obtain rfl : c = up.length := by omega
    cases next with
    | true => exact ifT_pos rfl (yes (by unfold coverB; rw [(hy rfl).1, (hy rfl).2]; rfl))
    | false => exact ifT_neg rfl (no (hnn rfl))
  | d + 1, c, hd, next, hy, hnn => by
    have hc : c < up.length := by omega
    unfold s65l5
    rw [hO.len]
    refine ifT_pos (by simp; omega) ?_
    cases next with
    | false => exact ifT_neg rfl (ifT_neg rfl (no (hnn rfl)))
    | true =>
      obtain ⟨h1, h2⟩ := hy rfl
      have go : ∀ n' : Bool, n' = okc up a b c → s65c7 K L1 L2 (s65l5_G (s65l5 K L1 L2 (d + 1))) m t2 o out a row b n' c h := by
        rintro n' rfl
        refine rg_of (by omega) (by omega) (s65l5_go (tidy17_l5 hn hO ha hb yes no d (c + 1) (by omega) _ (fun e => ⟨h1, ?_⟩) (fun e => ?_)))
        · rw [List.range_succ, List.all_append, h2, List.all_cons, e]; rfl
        · unfold coverB
          have : (List.range up.length).all (okc up a b) = false := List.all_eq_false.2 ⟨c, List.mem_range.2 hc, by rw [e]; simp⟩
          rw [this, Bool.and_false]
      refine ifT_pos rfl ?_
      unfold okc at go
      by_cases e1 : c = a
      · refine ifT_pos (by simp [e1]) (go true (by simp [e1]))
      · rw [show (c == a) = false by simpa using e1] at go
        refine ifT_neg (by simp; omega) ?_
        by_cases e2 : c = b
        · refine ifT_pos (by simp [e2]) (go true (by simp [e2]))
        · rw [show (c == b) = false by simpa using e2] at go
          simp only [Bool.false_or] at go
          refine ifT_neg (by simp; omega) ?_
          obtain ⟨ea, hra, _, hia⟩ := hO.row (h' := h) ha
          obtain ⟨ec, hrc, _, hic⟩ := hO.row (h' := h) hc
          rw [hra, hia c hc, tBool_bool]
          cases h3 : rb up a c with
          | false => rw [h3] at go; exact ifT_pos rfl (go true rfl)
          | true =>
            rw [h3] at go
            refine ifT_neg rfl ?_
            rw [hrc, hic b hb, tBool_bool]
            exact go _ rfl

/-- what the loop over b holds -/
theorem tidy17_l2 (hn : up.length ≤ 512) {o : AVal} (hO : OTab o up) {a : Nat} (ha : a < up.length) (hl : val.length = up.length) (S : Small up val) (hV : Strss mV val) {L1 : AVal → AVal → AVal → AVal → Int → Heap → Prop} {t2 : AVal} {hb : Heap} {ro : Nat} {vU vV : AVal} {LU LV : List AVal}
    (hLU : LU.length ≤ 512) (hLV : LV.length ≤ 512)
    (hL : ∀ vU' vV' row cp h' hb' hb'', Grow 1 hb row (natV (tidyRow up a)) hb' → Grow 1 hb' cp ((val[a]'(by omega)).map .str) hb'' → MB hb'' ro vU' vV' (LU ++ [row]) (LV ++ [cp]) h' → L1 (.lptr [mU, mV]) t2 o (.ptr ro 0 0) (a + 1) h') :
    ∀ d b : Nat, b + d = up.length → ∀ row h hM, MB hb ro vU vV LU LV hM → Grow 1 hM row (natV ((List.range b).filter (coverB up a))) h → s65l2 K L1 (d + 1) (.lptr [mU, mV]) t2 o (.ptr ro 0 0) a row (b : Int) h
  | 0, b, hd, row, h, hM, M, g => by
    obtain rfl : b = up.length := by omega
    have ha' : a < val.length := by omega
    obtain ⟨hb', g1, M1⟩ := M.swap g
    unfold s65l2
    rw [hO.len]
    refine ifT_neg (by simp) ?_
    rw [addOff_ptr, M1.ldU]
    refine chk_iff.2 ⟨g.sc.1, M1.appU (by omega) (by omega) fun v1 h1 M2 => ?_⟩
    rw [addOff_ptr]
    refine chk_iff.2 ⟨M2.sc.1.1, M2.stU fun h2 M3 => ?_⟩
    rw [addOff_ptr, M3.ldV, addOff_lptr]
    simp only [List.drop_succ_cons, List.drop_zero, ld1_lptr]
    obtain ⟨ev, hev, hix⟩ := hV.ix ha'
    rw [hix, ld1_lptr]
    have hSn := S.names _ (List.getElem_mem ha')
    refine newRow_in fun r2 hr2 => ?_
    have M3' : h2 ro = some (.row 2 [.agg [v1, vV]]) := M3.get
    have hget : (h2.set r2 (.row 1 [])) ro = some (.row 2 [.agg [v1, vV]]) := Heap.set_sub hr2 _ _ M3'
    refine ⟨rfl, ⟨?_, ⟨?_, ?_⟩⟩⟩
    · trivial
    · rw [ld1_fld hget rfl]
    refine appC_copy hr2 (elemsA_of hev) (by simp; omega) (by simp; omega) fun cp h3 g2 => ?_
    have hget3 : h3 ro = some (.row 2 [.agg [v1, vV]]) := g2.old M3'
    refine ⟨by rw [ld1_fld hget3 rfl], chk_iff.2 ⟨g2.sc.1, ⟨by rw [ld1_fld hget3 rfl], ?_⟩⟩⟩
    obtain ⟨hb'', g3, M4⟩ := M3.swap g2
    refine M4.appV (by omega) (by omega) fun v2 h4 M5 => ?_
    rw [addOff_ptr]
    refine chk_iff.2 ⟨M5.sc.2.1, M5.stV fun h5 M6 => rg_of (by omega) (by omega) ?_⟩
    exact hL v1 v2 row cp h5 hb' hb'' g1 g3 M6
  | d + 1, b, hd, row, h, hM, M, g => by
    have hbn : b < up.length := by omega
    unfold s65l2
    rw [hO.len]
    refine ifT_pos (by simp; omega) ?_
    have hs := range_filter_succ (coverB up a) b
    have hle : (natV ((List.range b).filter (coverB up a))).length ≤ b := by
      rw [natV_len]
      have := List.length_filter_le (coverB up a) (List.range b)
      simpa using this
    have yes : coverB up a b = true → appC 1 8 h row (.lsl 1 [(.int .i64 (b : Int))]) fun v h' => s65c3 K L1 (s65l2_G (s65l2 K L1 (d + 1))) (.lptr [mU, mV]) t2 o (.ptr ro 0 0) a v b h' := by
      intro hc
      rw [hc, if_pos rfl] at hs
      refine appC_one g (by omega) (by omega) fun v' h' g' => rg_of (by omega) (by omega) (s65l2_go (tidy17_l2 hn hO ha hl S hV hLU hLV hL d (b + 1) (by omega) v' h' hM M ?_))
      rw [hs, natV_app]
      exact g'
    have no : coverB up a b = false → s65c3 K L1 (s65l2_G (s65l2 K L1 (d + 1))) (.lptr [mU, mV]) t2 o (.ptr ro 0 0) a row b h := by
      intro hc
      rw [hc] at hs
      refine rg_of (by omega) (by omega) (s65l2_go (tidy17_l2 hn hO ha hl S hV hLU hLV hL d (b + 1) (by omega) row h hM M ?_))
      rw [hs]
      simpa using g
    have run : ∀ next : Bool, next = startB up a b → s65c4 K L1 (s65l2_G (s65l2 K L1 (d + 1))) (.lptr [mU, mV]) t2 o (.ptr ro 0 0) a row b next h := by
      rintro next rfl
      refine s65l5_in (up.length + 1) (tidy17_l5 hn hO ha hbn yes no up.length 0 (by omega) _ (fun e => ⟨e, rfl⟩) fun e => ?_)
      unfold coverB
      rw [e, Bool.false_and]
    unfold startB at run
    by_cases hab : a = b
    · refine ifT_neg (by simp [hab]) (run false (by simp [hab]))
    · refine ifT_pos (by simp; omega) ?_
      obtain ⟨ea, hra, _, hia⟩ := hO.row (h' := h) ha
      rw [hra, hia b hbn, tBool_bool]
      exact run _ (by rw [show (a != b) = true by simpa using hab, Bool.true_and])

theorem tidyUp_get {a : Nat} (ha : a < up.length) : (tidyUp up)[a]? = some (natI (tidyRow up a)) := by simp [tidyUp, ha]

theorem tidy17_l1 (hn : up.length ≤ 512) {o : AVal} (hO : OTab o up) (hl : val.length = up.length) (S : Small up val) (hV : Strss mV val) {hb : Heap} {ro rt : Nat} {X : AVal} (hrt : hb rt = some (.row 2 [.agg [.nilsl, X]])) {h0 : Heap} (hsub : ∀ q o, h0 q = some o → q ≠ rt ∧ hb q = some o)
    (good : ∀ vU vV, Intss vU (tidyUp up) → Strss vV val → K (.tuple [.agg [vU, vV], .int .i64 0]) h0) :
    ∀ d a : Nat, a + d = up.length → ∀ vU vV LU LV h, MB hb ro vU vV LU LV h → All2 Ints LU ((tidyUp up).take a) → All2 Strs LV (val.take a) → s65l1 K (d + 1) (.lptr [mU, mV]) (.ptr rt 0 0) o (.ptr ro 0 0) (a : Int) h
  | 0, a, hd, vU, vV, LU, LV, h, M, aU, aV => by
    obtain rfl : a = up.length := by omega
    unfold s65l1
    rw [hO.len]
    refine ifT_neg (by simp) ?_
    rw [M.ld, tCons_cons, tCons_cons, tNil_nil]
    have M1 := M.upd (x := .row 2 [.agg [vU, vV]]) hrt
    refine st_all (M.old hrt) rfl ?_
    rw [ldN2 (Heap.set_same _ _ _), tCons_cons, tCons_cons, tNil_nil]
    obtain ⟨Sn, vU', vV', l1, l2, s1, s2, hS, hold⟩ := M1.freeze
    have hlen : (tidyUp up).length = up.length := by simp [tidyUp]
    rw [List.take_of_length_le (by omega)] at aU
    rw [List.take_of_length_le (by omega)] at aV
    refine ⟨Sn, _, h0, .tuple (.cons (.agg (.cons l1 (.cons l2 .nil))) (.cons (.refl _) .nil)), ⟨fun _ _ => trivial, fun q o hq => ⟨o, ?_, ?_, .refl o⟩⟩, good vU' vV' ⟨LU, s1, aU⟩ ⟨LV, s2, aV⟩⟩
    · obtain ⟨h1, h2⟩ := hsub q o hq
      exact hold q o (by rw [Heap.set_ne _ _ h1]; exact h2)
    · intro hs
      have h3 := hS q hs
      obtain ⟨h1, h2⟩ := hsub q o hq
      rw [Heap.set_ne _ _ h1, h2] at h3
      cases h3
  | d + 1, a, hd, vU, vV, LU, LV, h, M, aU, aV => by
    have ha : a < up.length := by omega
    have hlen : (tidyUp up).length = up.length := by simp [tidyUp]
    have hLU : LU.length ≤ 512 := by have := aU.length; simp at this; omega
    have hLV : LV.length ≤ 512 := by have := aV.length; simp at this; omega
    unfold s65l1
    rw [hO.len]
    refine ifT_pos (by simp; omega) (s65l2_in (up.length + 1) ?_)
    refine tidy17_l2 hn hO ha hl S hV hLU hLV (fun vU' vV' row cp h' hb' hb'' g1 g2 M' => ?_) up.length 0 (by omega) .nilsl h h M .nil
    obtain ⟨Sg, h2, row', cp', s1, s2, M2, hg⟩ := M'.settle g1 g2
    refine ⟨Sg, _, h2, Lits.refl _, hg, rfl, ?_⟩
    have := tidy17_l1 hn hO hl S hV hrt hsub good d (a + 1) (by omega) vU' vV' _ _ h2 M2 ?_ ?_
    · exact this
    · rw [List.take_succ_eq_append_getElem (by omega)]
      refine aU.append (.cons ?_ .nil)
      have hga : (tidyUp up)[a]'(by omega) = natI (tidyRow up a) := by simp [tidyUp]
      rw [hga]
      unfold Ints
      rwa [← natV_eq]
    · rw [List.take_succ_eq_append_getElem (by omega)]
      exact aV.append (.cons s2 .nil)

theorem tidy17_ok (S : Small up val) (hU : Intss mU up) (hV : Strss mV val) (bad : ¬ WF up val → K (.tuple [.agg [.nilsl, .nilsl], .int .i64 170]) h) (good : WF up val → ∀ vU vV, Intss vU (tidyUp up) → Strss vV val → K (.tuple [.agg [vU, vV], .int .i64 0]) h) :
    ACalls prog 65 [.agg [mU, mV]] h K := by
  refine s65_ok ?_
  unfold s65
  refine newRow_in fun rt hrt => callG_of (right_ok S hU hV (fun hW => ?_) fun hW o hO => ?_)
  · simp only [tTup_tuple, tCons_cons, tBool_bool, tNil_nil]
    refine ifT_pos rfl (st_all (Heap.set_same _ _ _) rfl ?_)
    rw [Heap.set_set, ldN2 (Heap.set_same _ _ _), tCons_cons, tCons_cons, tNil_nil]
    exact retG_drop (Heap.set_sub hrt) (bad hW)
  · simp only [tTup_tuple, tCons_cons, tBool_bool, tNil_nil]
    refine ifT_neg rfl (newRow_in fun ro hro => st_all (Heap.set_same _ _ _) rfl ?_)
    rw [Heap.set_set]
    refine s65l1_in (up.length + 1) (tidy17_l1 hW.max hO hW.len S hV (Heap.set_same _ _ _) (fun q o hq => ⟨(fun e => by rw [e, hrt] at hq; cases hq), Heap.set_sub hrt q o hq⟩) (good hW) up.length 0 (by omega) .nilsl .nilsl [] [] _ (MBs.start hro) ?_ ?_)
    · exact .nil
    · exact .nil
end Go.Proofs.Ytinficcdpggiaaa

namespace Go.Proofs.Ytinficcdpggiaaa
open Go Go.Sym Go.Proofs.Try

variable {K : AVal → Heap → Prop} {h : Heap} {up : List (List Int)} {val : List (List ByteArray)} {mU mV : AVal}

theorem cloneS_ok {v : AVal} {l : List ByteArray} (hv : Strs v l) (hm : l.length ≤ 1073741824) (hk : ∀ v', Strs v' l → K v' h) : ACalls prog 35 [v] h K := by
  refine s35_ok ?_
  unfold s35
  refine nilS_of hv (fun he hv' => ?_) fun hv' => ?_
  · exact ifT_pos rfl (retG_of (hk _ (by rw [hv'] at hv; exact hv)))
  · refine ifT_neg rfl (newRow_in fun r hr => appC_copy hr (elemsA_of hv) (by simp; omega) (by simp; omega) fun v' h' g => ?_)
    obtain ⟨S, v2, h1, h2, h3⟩ := g.freeze
    exact ⟨S, v2, h, h1, h3, hk v2 h2⟩
theorem cloneI_ok {v : AVal} {l : List Int} (hv : Ints v l) (hm : l.length ≤ 1073741824) (hk : ∀ v', Ints v' l → K v' h) : ACalls prog 29 [v] h K := by
  refine s29_ok ?_
  unfold s29
  refine nilS_of hv (fun he hv' => ?_) fun hv' => ?_
  · exact ifT_pos rfl (retG_of (hk _ (by rw [hv'] at hv; exact hv)))
  · refine ifT_neg rfl (newRow_in fun r hr => appC_copy hr (elemsA_of hv) (by simp; omega) (by simp; omega) fun v' h' g => ?_)
    obtain ⟨S, v2, h1, h2, h3⟩ := g.freeze
    exact ⟨S, v2, h, h1, h3, hk v2 h2⟩

/-- the worlds above, but a itself; what is next among them -/
noncomputable def overL (up : List (List Int)) (a : Nat) : List Nat := (List.range up.length).filter (startB up a)
noncomputable def nextB (up : List (List Int)) (a b : Nat) : Bool := !((natI (overL up a)).any fun c => (c != (b : Int)) && rb up c.toNat b)
theorem mem_natI {l : List Nat} {x : Int} : x ∈ natI l ↔ ∃ c ∈ l, x = (c : Int) := by
  unfold natI
  rw [List.mem_map]
  exact ⟨fun ⟨c, h1, h2⟩ => ⟨c, h1, h2.symm⟩, fun ⟨c, h1, h2⟩ => ⟨c, h1, h2.symm⟩⟩
theorem cover_next {a b : Nat} : coverB up a b = (startB up a b && nextB up a b) := by
  unfold coverB nextB
  cases startB up a b with
  | false => rfl
  | true =>
    rw [Bool.true_and, Bool.true_and, Bool.eq_iff_iff, List.all_eq_true]
    constructor
    · intro hall
      rw [Bool.not_eq_true', List.any_eq_false]
      intro x hx
      obtain ⟨c, hc, rfl⟩ := mem_natI.1 hx
      obtain ⟨h1, h2⟩ := List.mem_filter.1 hc
      have h3 := hall c h1
      unfold okc at h3
      unfold startB at h2
      simp only [Int.toNat_natCast, Bool.and_eq_true, bne_iff_ne, ne_eq] at h2 ⊢
      rintro ⟨h4, h5⟩
      rw [show (c == a) = false by simp; omega, show (c == b) = false by simp; omega, h2.2, h5] at h3
      cases h3
    · intro hno c hc
      rw [Bool.not_eq_true', List.any_eq_false] at hno
      unfold okc
      cases e1 : (c == a) with
      | true => rfl
      | false =>
        cases e2 : (c == b) with
        | true => rfl
        | false =>
          cases e3 : rb up a c with
          | false => rfl
          | true =>
            cases e4 : rb up c b with
            | false => rfl
            | true =>
              exfalso
              refine hno (c : Int) (mem_natI.2 ⟨c, List.mem_filter.2 ⟨hc, ?_⟩, rfl⟩) ?_
              · unfold startB; simp at e1; simp [e3]; omega
              · simp at e2; simp [e4]; omega
theorem tidyRow_next (a : Nat) : tidyRow up a = (overL up a).filter (nextB up a) := by
  unfold tidyRow overL
  rw [List.filter_filter]
  congr 1
  funext b
  rw [cover_next, Bool.and_comm]

/-- the function values of the tidying -/
theorem over_call {f : AVal} (hF : LeqF f up) {c0 : AVal} {a b : Nat} (ha : a < up.length) (hb : b < up.length) {h : Heap} (h0 : ∀ K : AVal → Prop, ld1 h c0 K = K (.int .i64 (a : Int)))
    {K : AVal → Heap → Prop} (hk : K (.bool (startB up a b)) h) : callV prog (.func (.func 69) [] [c0, .lptr [f]]) [.int .i64 (b : Int)] h K := by
  show callG prog 69 ([] ++ [.int .i64 (b : Int)] ++ [c0, .lptr [f]]) h K
  refine callG_of (s69_ok ?_)
  unfold s69
  unfold startB at hk
  rw [h0, tInt_int]
  by_cases hab : a = b
  · exact ifT_neg (by simp [hab]) (retG_of (by simpa [hab] using hk))
  · refine ifT_pos (by simp; omega) ?_
    rw [ld1_lptr, h0, tInt_int]
    refine leq_call hF ha hb ?_
    rw [tBool_bool]
    exact retG_of (by rwa [show (a != b) = true by simpa using hab, Bool.true_and] at hk)
theorem above_call {f : AVal} (hF : LeqF f up) {b c : Nat} (hb : b < up.length) (hc : c < up.length) {h : Heap} {K : AVal → Heap → Prop} (hk : K (.bool (((c : Int) != (b : Int)) && rb up c b)) h) :
    callV prog (.func (.func 71) [] [.lptr [.int .i64 (b : Int)], .lptr [f]]) [.int .i64 (c : Int)] h K := by
  show callG prog 71 ([] ++ [.int .i64 (c : Int)] ++ [.lptr [.int .i64 (b : Int)], .lptr [f]]) h K
  refine callG_of (s71_ok ?_)
  unfold s71
  rw [ld1_lptr, tInt_int]
  by_cases hab : (c : Int) = (b : Int)
  · exact ifT_neg (by simp [hab]) (retG_of (by simpa [hab] using hk))
  · refine ifT_pos (by simpa using hab) ?_
    rw [ld1_lptr, ld1_lptr, tInt_int]
    refine leq_call hF hc hb ?_
    rw [tBool_bool]
    exact retG_of (by rwa [show ((c : Int) != (b : Int)) = true by simpa using hab, Bool.true_and] at hk)
theorem next_call {f ov : AVal} (hF : LeqF f up) (hn : up.length ≤ 512) {a b : Nat} (hov : Ints ov (natI (overL up a))) (hb : b < up.length) {h : Heap} {K : AVal → Heap → Prop} (hk : K (.bool (nextB up a b)) h) :
    callV prog (.func (.func 70) [] [.lptr [ov], .lptr [f]]) [.int .i64 (b : Int)] h K := by
  show callG prog 70 ([] ++ [.int .i64 (b : Int)] ++ [.lptr [ov], .lptr [f]]) h K
  refine callG_of (s70_ok ?_)
  unfold s70
  rw [ld1_lptr]
  have hle : (natI (overL up a)).length ≤ 512 := by
    have := List.length_filter_le (startB up a) (List.range up.length)
    simp [natI, overL] at this ⊢
    omega
  refine callG_of (containsFI_ok (p := fun c => (c != (b : Int)) && rb up c.toNat b) hov (by omega) (fun x hx K' hk' => ?_) ?_)
  · obtain ⟨c, hc, rfl⟩ := mem_natI.1 hx
    have hcn : c < up.length := List.mem_range.1 (List.mem_filter.1 hc).1
    exact above_call hF hb hcn (by simpa using hk')
  · rw [tBool_bool]
    exact retG_of hk

theorem tidy_l2 (hn : up.length ≤ 512) {f ov : AVal} (hF : LeqF f up) {a : Nat} (ha : a < up.length) (hl : val.length = up.length) (S : Small up val) (hV : Strss mV val) (hov : Ints ov (natI (overL up a)))
    {L1 : AVal → AVal → AVal → AVal → Int → Int → Heap → Prop} {t2 : AVal} {hb : Heap} {ro : Nat} {vU vV : AVal} {LU LV : List AVal} (hLU : LU.length ≤ 512) (hLV : LV.length ≤ 512) {t24 : Int}
    (hL : ∀ vU' vV' row cp h' hb', Grow 1 hb row (natV (tidyRow up a)) hb' → Strs cp (val[a]'(by omega)) → MB hb' ro vU' vV' (LU ++ [row]) (LV ++ [cp]) h' → L1 (.lptr [mU, mV]) t2 (.lptr [f]) (.ptr ro 0 0) t24 (a + 1) h') :
    ∀ d i : Nat, i + d = (overL up a).length → ∀ row h hM, MB hb ro vU vV LU LV hM → Grow 1 hM row (natV (((overL up a).take i).filter (nextB up a))) h →
      s39l2 K L1 (d + 1) (.lptr [mU, mV]) t2 (.lptr [f]) (.ptr ro 0 0) (.lptr [.int .i64 (a : Int)]) (.func (.func 70) [] [.lptr [ov], .lptr [f]]) row t24 a ov (overL up a).length (i : Int) h
  | 0, i, hd, row, h, hM, M, g => by
    have ha' : a < val.length := by omega
    rw [List.take_of_length_le (by omega), ← tidyRow_next] at g
    obtain ⟨hb', g1, M1⟩ := M.swap g
    unfold s39l2
    refine ifT_neg (by simp; omega) ?_
    rw [addOff_ptr, M1.ldU]
    refine chk_iff.2 ⟨g.sc.1, M1.appU (by omega) (by omega) fun v1 h1 M2 => ?_⟩
    rw [addOff_ptr]
    refine chk_iff.2 ⟨M2.sc.1.1, M2.stU fun h2 M3 => ?_⟩
    rw [addOff_ptr, M3.ldV, addOff_lptr]
    simp only [List.drop_succ_cons, List.drop_zero, ld1_lptr, tInt_int]
    obtain ⟨ev, hev, hix⟩ := hV.ix ha'
    rw [hix, ld1_lptr]
    have hSn := S.names _ (List.getElem_mem ha')
    refine callG_of (cloneS_ok hev (by omega) fun cp hcp => ?_)
    refine ⟨by rw [M3.ldV], chk_iff.2 ⟨hcp.notAgg.2, ⟨by rw [M3.ldV], ?_⟩⟩⟩
    refine M3.appV (by omega) (by omega) fun v2 h4 M5 => ?_
    rw [addOff_ptr]
    refine chk_iff.2 ⟨M5.sc.2.1, M5.stV fun h5 M6 => rg_of (by omega) (by omega) ?_⟩
    exact hL v1 v2 row cp h5 hb' g1 hcp M6
  | d + 1, i, hd, row, h, hM, M, g => by
    have hi : i < (overL up a).length := by omega
    have hlen : (overL up a).length ≤ 512 := by
      have := List.length_filter_le (startB up a) (List.range up.length)
      simp [overL] at this ⊢
      omega
    have hbn : (overL up a)[i] < up.length := List.mem_range.1 (List.mem_filter.1 (List.getElem_mem hi)).1
    unfold s39l2
    refine ifT_pos (by simp; omega) ?_
    have hix : (natI (overL up a))[i]'(by simpa [natI] using hi) = ((overL up a)[i] : Int) := by simp [natI]
    rw [hov.ix (i := i) (by simpa [natI] using hi), ld1_lptr, hix, tInt_int]
    refine next_call hF hn hov hbn ?_
    rw [tBool_bool]
    have hs : ((overL up a).take (i + 1)).filter (nextB up a) = ((overL up a).take i).filter (nextB up a) ++ if nextB up a (overL up a)[i] then [(overL up a)[i]] else [] := by
      rw [List.take_succ_eq_append_getElem hi, List.filter_append, List.filter_cons]; rfl
    have hle : (natV (((overL up a).take i).filter (nextB up a))).length ≤ i := by
      rw [natV_len]
      have := List.length_filter_le (nextB up a) ((overL up a).take i)
      simp at this
      omega
    cases hnx : nextB up a (overL up a)[i] with
    | true =>
      rw [hnx, if_pos rfl] at hs
      refine ifT_pos rfl (appC_one g (by omega) (by omega) fun v' h' g' => rg_of (by omega) (by omega) (s39l2_go (tidy_l2 hn hF ha hl S hV hov hLU hLV hL d (i + 1) (by omega) v' h' hM M ?_)))
      rw [hs, natV_app]
      exact g'
    | false =>
      rw [hnx] at hs
      refine ifT_neg rfl (rg_of (by omega) (by omega) (s39l2_go (tidy_l2 hn hF ha hl S hV hov hLU hLV hL d (i + 1) (by omega) row h hM M ?_)))
      rw [hs]
      simpa using g

theorem tidy_l1 (hn : up.length ≤ 512) {f : AVal} (hF : LeqF f up) (hU : Intss mU up) (hl : val.length = up.length) (S : Small up val) (hV : Strss mV val) {hb : Heap} {ro rt : Nat} {X : AVal} (hrt : hb rt = some (.row 2 [.agg [.nilsl, X]])) {h0 : Heap} (hsub : ∀ q o, h0 q = some o → q ≠ rt ∧ hb q = some o)
    (good : ∀ vU vV, Intss vU (tidyUp up) → Strss vV val → K (.tuple [.agg [vU, vV], .int .i64 0]) h0) :
    ∀ d a : Nat, a + d = up.length → ∀ vU vV LU LV h, MB hb ro vU vV LU LV h → All2 Ints LU ((tidyUp up).take a) → All2 Strs LV (val.take a) → s39l1 K (d + 1) (.lptr [mU, mV]) (.ptr rt 0 0) (.lptr [f]) (.ptr ro 0 0) up.length (a : Int) h
  | 0, a, hd, vU, vV, LU, LV, h, M, aU, aV => by
    obtain rfl : a = up.length := by omega
    unfold s39l1
    refine ifT_neg (by simp) ?_
    rw [M.ld, tCons_cons, tCons_cons, tNil_nil]
    have M1 := M.upd (x := .row 2 [.agg [vU, vV]]) hrt
    refine st_all (M.old hrt) rfl ?_
    rw [ldN2 (Heap.set_same _ _ _), tCons_cons, tCons_cons, tNil_nil]
    obtain ⟨Sn, vU', vV', l1, l2, s1, s2, hS, hold⟩ := M1.freeze
    have hlen : (tidyUp up).length = up.length := by simp [tidyUp]
    rw [List.take_of_length_le (by omega)] at aU
    rw [List.take_of_length_le (by omega)] at aV
    refine ⟨Sn, _, h0, .tuple (.cons (.agg (.cons l1 (.cons l2 .nil))) (.cons (.refl _) .nil)), ⟨fun _ _ => trivial, fun q o hq => ⟨o, ?_, ?_, .refl o⟩⟩, good vU' vV' ⟨LU, s1, aU⟩ ⟨LV, s2, aV⟩⟩
    · obtain ⟨h1, h2⟩ := hsub q o hq
      exact hold q o (by rw [Heap.set_ne _ _ h1]; exact h2)
    · intro hs
      have h3 := hS q hs
      obtain ⟨h1, h2⟩ := hsub q o hq
      rw [Heap.set_ne _ _ h1, h2] at h3
      cases h3
  | d + 1, a, hd, vU, vV, LU, LV, h, M, aU, aV => by
    have ha : a < up.length := by omega
    have hlen : (tidyUp up).length = up.length := by simp [tidyUp]
    have hLU : LU.length ≤ 512 := by have := aU.length; simp at this; omega
    have hLV : LV.length ≤ 512 := by have := aV.length; simp at this; omega
    unfold s39l1
    refine ifT_pos (by simp; omega) (newRow_in fun r3 hr3 => st_elem (Heap.set_same _ _ _) rfl rfl ?_)
    rw [show [AVal.int .i64 0].set 0 (.int .i64 (a : Int)) = [.int .i64 (a : Int)] from rfl, Heap.set_set, ldN_agg2, tCons_cons, tCons_cons, tNil_nil]
    refine callG_of (all_ok (p := startB up a) hU (by omega) (fun b hb h' K' hs hk' => over_call hF ha hb (fun K => ld1_one (hs _ _ (Heap.set_same _ _ _)) rfl K) hk') fun ov hov => ?_)
    refine newRow_in fun r4 hr4 => chk_iff.2 ⟨hov.notAgg.2, st_elem (Heap.set_same _ _ _) rfl rfl ?_⟩
    have hova : ov.isAgg = false := by rcases hov with rfl | ⟨rfl, _⟩ <;> rfl
    rw [show [AVal.nilsl].set 0 ov = [ov] from rfl, Heap.set_set, ld1_one (Heap.set_same _ _ _) hova, hov.len]
    have hne : r4 ≠ r3 := fun e => by rw [e, Heap.set_same] at hr4; cases hr4
    have hr4' : h r4 = none := by rwa [Heap.set_ne _ _ hne] at hr4
    have hlo : (natI (overL up a)).length = (overL up a).length := by simp [natI]
    have hlo2 : (natI ((List.range up.length).filter (startB up a))).length = (overL up a).length := hlo
    rw [hlo2]
    refine ⟨fun q => q = r3 ∨ q = r4, [.lptr [mU, mV], .ptr rt 0 0, .lptr [f], .ptr ro 0 0, .lptr [.int .i64 (a : Int)], .func (.func 70) [] [.lptr [ov], .lptr [f]], .nilsl, .int .i64 up.length, .int .i64 (a : Int), ov, .int .i64 (overL up a).length, .int .i64 0], h, ?_, ?_, rfl, (overL up a).length + 1, ?_⟩
    · have h3 : ((h.set r3 (.row 1 [.int .i64 (a : Int)])).set r4 (.row 1 [ov])) r3 = some (.row 1 [.int .i64 (a : Int)]) := by rw [Heap.set_ne _ _ hne.symm, Heap.set_same]
      refine .cons (.refl _) (.cons (.refl _) (.cons (.refl _) (.cons (.refl _) (.cons (.ptr (.inl rfl) h3 rfl (Lits.refl _)) (.cons (.func .nil (.cons (.ptr (.inr rfl) (Heap.set_same _ _ _) rfl ?_) (Lits.refl _))) (Lits.refl _))))))
      rw [List.drop_zero, cells_of_notAgg hova]
      exact Lits.refl _
    · refine ⟨fun _ _ => trivial, fun q o hq => ⟨o, ?_, ?_, .refl o⟩⟩
      · exact Heap.set_sub hr4 q o (Heap.set_sub hr3 q o hq)
      · rintro (e | e)
        · rw [e, hr3] at hq; cases hq
        · rw [e, hr4'] at hq; cases hq
    · have := tidy_l2 hn hF ha hl S hV hov (L1 := s39l1_G (s39l1 K (d + 1))) (t2 := .ptr rt 0 0) (t24 := up.length) (hb := hb) (ro := ro) (mU := mU) (K := K) hLU hLV (fun vU' vV' row cp h' hb' g1 hcp M' => ?_) (overL up a).length 0 (by omega) .nilsl h h M .nil
      · exact this
      · obtain ⟨Sg, h2, row', s1, M2, hg⟩ := M'.settle1 g1
        refine ⟨Sg, _, h2, Lits.refl _, hg, rfl, ?_⟩
        have := tidy_l1 hn hF hU hl S hV hrt hsub good d (a + 1) (by omega) vU' vV' _ _ h2 M2 ?_ ?_
        · exact this
        · rw [List.take_succ_eq_append_getElem (by omega)]
          refine aU.append (.cons ?_ .nil)
          have hga : (tidyUp up)[a]'(by omega) = natI (tidyRow up a) := by simp [tidyUp]
          rw [hga]
          unfold Ints
          rwa [← natV_eq]
        · rw [List.take_succ_eq_append_getElem (by omega)]
          exact aV.append (.cons hcp .nil)

theorem tidy_ok (S : Small up val) (hU : Intss mU up) (hV : Strss mV val) (bad : ¬ WF up val → K (.tuple [.agg [.nilsl, .nilsl], .int .i64 170]) h) (good : WF up val → ∀ vU vV, Intss vU (tidyUp up) → Strss vV val → K (.tuple [.agg [vU, vV], .int .i64 0]) h) :
    ACalls prog 39 [.agg [mU, mV]] h K := by
  refine s39_ok ?_
  unfold s39
  refine newRow_in fun rt hrt => callG_of (asked_ok (l := []) S hU hV (.inr ⟨rfl, rfl⟩) (by simp) (fun hW => ?_) (fun _ hW => absurd (by simp) hW) fun hW _ f hF => ?_)
  · simp only [tTup_tuple, tCons_cons, tInt_int, tNil_nil]
    refine newRow_in fun r hr => chk_iff.2 ⟨rfl, st_elem (Heap.set_same _ _ _) rfl rfl (ifT_pos rfl ?_)⟩
    rw [Heap.set_set]
    have hne : r ≠ rt := fun e => by rw [e, Heap.set_same] at hr; cases hr
    have hr' : h r = none := by rwa [Heap.set_ne _ _ hne] at hr
    refine st_all (cs := [.nilsl, .nilsl]) (es := 2) (by rw [Heap.set_ne _ _ hne.symm, Heap.set_same]) rfl ?_
    rw [ldN2 (Heap.set_same _ _ _), tCons_cons, tCons_cons, tNil_nil]
    refine retG_drop (fun q o hq => ?_) (bad hW)
    have h1 : q ≠ rt := fun e => by rw [e, hrt] at hq; cases hq
    have h2 : q ≠ r := fun e => by rw [e, hr'] at hq; cases hq
    rw [Heap.set_ne _ _ h1, Heap.set_ne _ _ h2, Heap.set_ne _ _ h1]
    exact hq
  · simp only [tTup_tuple, tCons_cons, tInt_int, tNil_nil]
    have hFc : Go.Sym.sc f = true ∧ f.isAgg = false := by obtain ⟨o, rfl, _⟩ := hF; exact ⟨rfl, rfl⟩
    refine newRow_in fun r hr => chk_iff.2 ⟨hFc.1, st_elem (Heap.set_same _ _ _) rfl rfl (ifT_neg rfl (newRow_in fun ro hro => ?_))⟩
    rw [Heap.set_set] at hro ⊢
    rw [hU.len]
    have hne : r ≠ rt := fun e => by rw [e, Heap.set_same] at hr; cases hr
    have hr' : h r = none := by rwa [Heap.set_ne _ _ hne] at hr
    have hne2 : ro ≠ r := fun e => by rw [e, Heap.set_same] at hro; cases hro
    have hro' : (h.set rt (.row 2 [.agg [.nilsl, .nilsl]])) ro = none := by rwa [Heap.set_ne _ _ hne2] at hro
    refine ⟨fun q => q = r, [.lptr [mU, mV], .ptr rt 0 0, .lptr [f], .ptr ro 0 0, .int .i64 up.length, .int .i64 0], (h.set rt (.row 2 [.agg [.nilsl, .nilsl]])).set ro (.row 2 [.agg [.nilsl, .nilsl]]), ?_, ?_, rfl, up.length + 1, ?_⟩
    · refine .cons (.refl _) (.cons (.refl _) (.cons (.ptr rfl (by rw [Heap.set_ne _ _ hne2.symm]; exact Heap.set_same _ _ _) rfl ?_) (Lits.refl _)))
      rw [List.drop_zero]
      show Lits _ _ (cellsOf f) [f]
      rw [cells_of_notAgg hFc.2]
      exact Lits.refl _
    · refine ⟨fun _ _ => trivial, fun q o hq => ?_⟩
      rw [Heap.set_get] at hq
      split at hq
      · rename_i e
        subst e
        cases hq
        exact ⟨_, Heap.set_same _ _ _, hne2, .refl _⟩
      · rename_i e
        refine ⟨o, ?_, (fun e' => by rw [e', hr] at hq; cases hq), .refl _⟩
        rw [Heap.set_ne _ _ e, Heap.set_ne _ _ (fun e' => by rw [e', hr] at hq; cases hq)]
        exact hq
    · have := tidy_l1 hW.max hF hU hW.len S hV (Heap.set_same _ _ _) (fun q o hq => ⟨(fun e => by rw [e, hrt] at hq; cases hq), Heap.set_sub hrt q o hq⟩) (good hW) up.length 0 (by omega) .nilsl .nilsl [] [] _ (MBs.start hro') .nil .nil
      exact this
end Go.Proofs.Ytinficcdpggiaaa

namespace Go.Proofs.Ytinficcdpggiaaa
open Go Go.Sym Go.Proofs.Try

variable {K : AVal → Heap → Prop} {h : Heap} {up up' : List (List Int)} {val val' : List (List ByteArray)} {mU mV nU nV : AVal}

theorem tidied_ok (S : Small up val) (hU : Intss mU up) (hV : Strss mV val) (W : WF up val) (good : ∀ vU vV, Intss vU (tidyUp up) → Strss vV val → K (.agg [vU, vV]) h) : ACalls prog 36 [.agg [mU, mV]] h K := by
  refine s36_ok ?_
  unfold s36
  refine newRow_in fun r hr => newRow_in fun r1 hr1 => ?_
  have hne : r1 ≠ r := fun e => by rw [e, Heap.set_same] at hr1; cases hr1
  have hr1' : h r1 = none := by rwa [Heap.set_ne _ _ hne] at hr1
  have g0 : ((h.set r (.row 2 [.agg [mU, mV]])).set r1 (.row 2 [.agg [.nilsl, .nilsl]])) r = some (.row 2 [.agg [mU, mV]]) := by rw [Heap.set_ne _ _ hne.symm, Heap.set_same]
  rw [ldN2 g0, tCons_cons, tCons_cons, tNil_nil]
  refine callG_of (tidy_ok S hU hV (fun hW => absurd W hW) fun _ vU vV hvU hvV => ?_)
  simp only [tTup_tuple, tCons_cons, tInt_int, tNil_nil, tAgg_agg]
  refine st_all g0 rfl ?_
  rw [ldN2 (Heap.set_same _ _ _), tCons_cons, tCons_cons, tNil_nil]
  refine st_all (cs := [.nilsl, .nilsl]) (es := 2) (by rw [Heap.set_ne _ _ hne, Heap.set_same]) rfl ?_
  rw [ldN2 (Heap.set_same _ _ _), tCons_cons, tCons_cons, tNil_nil]
  refine retG_drop (fun q o hq => ?_) (good vU vV hvU hvV)
  have h1 : q ≠ r := fun e => by rw [e, hr] at hq; cases hq
  have h2 : q ≠ r1 := fun e => by rw [e, hr1'] at hq; cases hq
  rw [Heap.set_ne _ _ h2, Heap.set_ne _ _ h1, Heap.set_ne _ _ h2, Heap.set_ne _ _ h1]
  exact hq

theorem tidy19_ok (S : Small up val) (hU : Intss mU up) (hV : Strss mV val) (W : WF up val) (good : ∀ vU vV, Intss vU (tidyUp up) → Strss vV val → K (.agg [vU, vV]) h) : ACalls prog 37 [.agg [mU, mV]] h K := by
  refine s37_ok ?_
  unfold s37
  refine newRow_in fun r hr => callG_of (tidy17_ok S hU hV (fun hW => absurd W hW) fun _ vU vV hvU hvV => ?_)
  simp only [tTup_tuple, tCons_cons, tInt_int, tNil_nil, tAgg_agg]
  refine newRow_in fun r1 hr1 => st_all (Heap.set_same _ _ _) rfl ?_
  have hne : r1 ≠ r := fun e => by rw [e, Heap.set_same] at hr1; cases hr1
  have hr1' : h r1 = none := by rwa [Heap.set_ne _ _ hne] at hr1
  rw [Heap.set_set, ldN2 (Heap.set_same _ _ _), tCons_cons, tCons_cons, tNil_nil]
  refine st_all (cs := [.nilsl, .nilsl]) (es := 2) (by rw [Heap.set_ne _ _ hne.symm, Heap.set_same]) rfl ?_
  rw [ldN2 (Heap.set_same _ _ _), tCons_cons, tCons_cons, tNil_nil]
  refine retG_drop (fun q o hq => ?_) (good vU vV hvU hvV)
  have h1 : q ≠ r := fun e => by rw [e, hr] at hq; cases hq
  have h2 : q ≠ r1 := fun e => by rw [e, hr1'] at hq; cases hq
  rw [Heap.set_ne _ _ h1, Heap.set_ne _ _ h2, Heap.set_ne _ _ h1]
  exact hq

theorem copy_l2 (S : Small up val) (hV : Strss mV val) {hb : Heap} {ro rt : Nat} {X : AVal} (hrt : hb rt = some (.row 2 [.agg [.nilsl, X]])) {h0 : Heap} (hsub : ∀ q o, h0 q = some o → q ≠ rt ∧ hb q = some o)
    (good : ∀ vU vV, Intss vU up → Strss vV val → K (.agg [vU, vV]) h0) {LU : List AVal} (aU : All2 Ints LU up) :
    ∀ d i : Nat, i + d = val.length → ∀ vU vV LV h, MB hb ro vU vV LU LV h → All2 Strs LV (val.take i) → s8l2 K (d + 1) (.lptr [mU, mV]) (.ptr rt 0 0) (.ptr ro 0 0) (i : Int) h
  | 0, i, hd, vU, vV, LV, h, M, aV => by
    unfold s8l2
    rw [addOff_lptr]
    simp only [List.drop_succ_cons, List.drop_zero, ld1_lptr]
    rw [hV.len]
    refine ifT_neg (by simp; omega) ?_
    rw [M.ld, tCons_cons, tCons_cons, tNil_nil]
    have M1 := M.upd (x := .row 2 [.agg [vU, vV]]) hrt
    refine st_all (M.old hrt) rfl ?_
    rw [ldN2 (Heap.set_same _ _ _), tCons_cons, tCons_cons, tNil_nil]
    obtain ⟨Sn, vU', vV', l1, l2, s1, s2, hS, hold⟩ := M1.freeze
    rw [List.take_of_length_le (by omega)] at aV
    refine ⟨Sn, _, h0, .agg (.cons l1 (.cons l2 .nil)), ⟨fun _ _ => trivial, fun q o hq => ⟨o, ?_, ?_, .refl o⟩⟩, good vU' vV' ⟨LU, s1, aU⟩ ⟨LV, s2, aV⟩⟩
    · obtain ⟨h1, h2⟩ := hsub q o hq
      exact hold q o (by rw [Heap.set_ne _ _ h1]; exact h2)
    · intro hs
      have h3 := hS q hs
      obtain ⟨h1, h2⟩ := hsub q o hq
      rw [Heap.set_ne _ _ h1, h2] at h3
      cases h3
  | d + 1, i, hd, vU, vV, LV, h, M, aV => by
    have hi : i < val.length := by omega
    have hvl := S.vals
    have hSn := S.names _ (List.getElem_mem hi)
    have hLV : LV.length ≤ i := by have := aV.length; simp at this; omega
    obtain ⟨ev, hev, hix⟩ := hV.ix hi
    unfold s8l2
    rw [addOff_lptr]
    simp only [List.drop_succ_cons, List.drop_zero, ld1_lptr]
    rw [hV.len]
    refine ifT_pos (by simp; omega) ?_
    rw [addOff_ptr, M.ldV, addOff_lptr]
    simp only [List.drop_succ_cons, List.drop_zero, ld1_lptr]
    rw [hix, ld1_lptr]
    refine newRow_in fun r2 hr2 => ?_
    have hget : (h.set r2 (.row 1 [])) ro = some (.row 2 [.agg [vU, vV]]) := Heap.set_sub hr2 _ _ M.get
    refine ⟨by first | rfl | trivial, ⟨by first | rfl | trivial, ⟨by rw [ld1_fld hget rfl], ?_⟩⟩⟩
    refine appC_copy hr2 (elemsA_of hev) (by simp; omega) (by simp; omega) fun cp h3 g2 => ?_
    have hget3 : h3 ro = some (.row 2 [.agg [vU, vV]]) := g2.old M.get
    refine ⟨by rw [ld1_fld hget3 rfl], chk_iff.2 ⟨g2.sc.1, ⟨by rw [ld1_fld hget3 rfl], ?_⟩⟩⟩
    obtain ⟨hb'', g3, M4⟩ := M.swap g2
    refine M4.appV (by omega) (by omega) fun v2 h4 M5 => ?_
    rw [addOff_ptr]
    refine chk_iff.2 ⟨M5.sc.2.1, M5.stV fun h5 M6 => rg_of (by omega) (by omega) ?_⟩
    obtain ⟨Sg, h6, cp', s1, M7, hg⟩ := M6.settleV g3
    refine ⟨Sg, _, h6, Lits.refl _, hg, rfl, ?_⟩
    have := copy_l2 S hV hrt hsub good aU d (i + 1) (by omega) vU v2 _ h6 M7 ?_
    · exact this
    · rw [List.take_succ_eq_append_getElem hi]
      exact aV.append (.cons s1 .nil)

theorem copy_l1 (S : Small up val) (hU : Intss mU up) (hV : Strss mV val) {hb : Heap} {ro rt : Nat} {X : AVal} (hrt : hb rt = some (.row 2 [.agg [.nilsl, X]])) {h0 : Heap} (hsub : ∀ q o, h0 q = some o → q ≠ rt ∧ hb q = some o)
    (good : ∀ vU vV, Intss vU up → Strss vV val → K (.agg [vU, vV]) h0) :
    ∀ d i : Nat, i + d = up.length → ∀ vU LU h, MB hb ro vU .nilsl LU [] h → All2 Ints LU (up.take i) → s8l1 K (d + 1) (.lptr [mU, mV]) (.ptr rt 0 0) (.ptr ro 0 0) (i : Int) h
  | 0, i, hd, vU, LU, h, M, aU => by
    unfold s8l1
    rw [addOff_lptr]
    simp only [List.drop_zero, ld1_lptr]
    rw [hU.len]
    rw [List.take_of_length_le (by omega)] at aU
    exact ifT_neg (by simp; omega) (s8l2_in (val.length + 1) (copy_l2 S hV hrt hsub good aU val.length 0 (by omega) vU .nilsl [] h M .nil))
  | d + 1, i, hd, vU, LU, h, M, aU => by
    have hi : i < up.length := by omega
    have hvl := S.ups
    have hSn := S.row _ (List.getElem_mem hi)
    have hLU : LU.length ≤ i := by have := aU.length; simp at this; omega
    obtain ⟨ev, hev, hix⟩ := hU.ix hi
    unfold s8l1
    rw [addOff_lptr]
    simp only [List.drop_zero, ld1_lptr]
    rw [hU.len]
    refine ifT_pos (by simp; omega) ?_
    rw [addOff_ptr, M.ldU, addOff_lptr]
    simp only [List.drop_zero, ld1_lptr]
    rw [hix, ld1_lptr]
    refine newRow_in fun r2 hr2 => ?_
    have hget : (h.set r2 (.row 1 [])) ro = some (.row 2 [.agg [vU, .nilsl]]) := Heap.set_sub hr2 _ _ M.get
    refine ⟨by first | rfl | trivial, ⟨by first | rfl | trivial, ⟨by rw [ld1_fld hget rfl], ?_⟩⟩⟩
    refine appC_copy hr2 (elemsA_of hev) (by simp; omega) (by simp; omega) fun cp h3 g2 => ?_
    have hget3 : h3 ro = some (.row 2 [.agg [vU, .nilsl]]) := g2.old M.get
    refine ⟨by rw [ld1_fld hget3 rfl], chk_iff.2 ⟨g2.sc.1, ⟨by rw [ld1_fld hget3 rfl], ?_⟩⟩⟩
    obtain ⟨hb'', g3, M4⟩ := M.swap g2
    refine M4.appU (by omega) (by omega) fun v2 h4 M5 => ?_
    rw [addOff_ptr]
    refine chk_iff.2 ⟨M5.sc.1.1, M5.stU fun h5 M6 => rg_of (by omega) (by omega) ?_⟩
    obtain ⟨Sg, h6, cp', s1, M7, hg⟩ := M6.settle1 g3
    refine ⟨Sg, _, h6, Lits.refl _, hg, rfl, ?_⟩
    have := copy_l1 S hU hV hrt hsub good d (i + 1) (by omega) v2 _ h6 M7 ?_
    · exact this
    · rw [List.take_succ_eq_append_getElem hi]
      exact aU.append (.cons s1 .nil)

theorem copy_ok (S : Small up val) (hU : Intss mU up) (hV : Strss mV val) (good : ∀ vU vV, Intss vU up → Strss vV val → K (.agg [vU, vV]) h) : ACalls prog 8 [.agg [mU, mV]] h K := by
  refine s8_ok ?_
  unfold s8
  refine newRow_in fun rt hrt => newRow_in fun ro hro => st_all (Heap.set_same _ _ _) rfl ?_
  rw [Heap.set_set]
  exact s8l1_in (up.length + 1) (copy_l1 S hU hV (Heap.set_same _ _ _) (fun q o hq => ⟨(fun e => by rw [e, hrt] at hq; cases hq), Heap.set_sub hrt q o hq⟩) good up.length 0 (by omega) .nilsl [] _ (MBs.start hro) .nil)

theorem same_l3 (S : Small up val) (hV : Strss mV val) (hV' : Strss nV val') (hl : val.length = val'.length) : ∀ d i : Nat, i + d = val.length → K (.bool (decide (val.drop i = val'.drop i))) h → s19l3 K (d + 1) (.lptr [mU, mV]) (.lptr [nU, nV]) (i : Int) h
  | 0, i, hd, hk => by
    unfold s19l3
    rw [addOff_lptr]
    simp only [List.drop_succ_cons, List.drop_zero, ld1_lptr]
    rw [hV.len]
    refine ifT_neg (by simp; omega) (retG_of ?_)
    rw [List.drop_eq_nil_of_le (by omega), List.drop_eq_nil_of_le (by omega)] at hk
    simpa using hk
  | d + 1, i, hd, hk => by
    have hi : i < val.length := by omega
    have hi' : i < val'.length := by omega
    have hSv := S.vals
    have hSn := (S.names _ (List.getElem_mem hi)).2
    obtain ⟨e1, h1, ix1⟩ := hV.ix hi
    obtain ⟨e2, h2, ix2⟩ := hV'.ix hi'
    unfold s19l3
    rw [addOff_lptr]
    simp only [List.drop_succ_cons, List.drop_zero, ld1_lptr]
    rw [hV.len]
    refine ifT_pos (by simp; omega) ?_
    simp only [addOff_lptr, List.drop_succ_cons, List.drop_zero, ld1_lptr, ix1, ix2]
    refine callG_of (names_ok h1 h2 (by omega) ?_)
    rw [tBool_bool]
    rw [drop_eq_step hi hi'] at hk
    by_cases he : val[i] = val'[i]
    · refine ifT_neg (by simp [he]) (rg_of (by omega) (by omega) (s19l3_go (same_l3 S hV hV' hl d (i + 1) (by omega) (by simpa [he] using hk))))
    · exact ifT_pos (by simp [he]) (retG_of (by simpa [he] using hk))

theorem same_l2 (S : Small up val) (hU : Intss mU up) (hV : Strss mV val) (hU' : Intss nU up') (hV' : Strss nV val') (hlu : up.length = up'.length) (hl : val.length = val'.length) :
    ∀ d i : Nat, i + d = up.length → K (.bool (decide (up.drop i = up'.drop i) && decide (val = val'))) h → s19l2 K (d + 1) (.lptr [mU, mV]) (.lptr [nU, nV]) (i : Int) h
  | 0, i, hd, hk => by
    unfold s19l2
    rw [addOff_lptr]
    simp only [List.drop_zero, ld1_lptr]
    rw [hU.len]
    rw [List.drop_eq_nil_of_le (by omega), List.drop_eq_nil_of_le (by omega)] at hk
    exact ifT_neg (by simp; omega) (s19l3_in (val.length + 1) (same_l3 S hV hV' hl val.length 0 (by omega) (by simpa using hk)))
  | d + 1, i, hd, hk => by
    have hi : i < up.length := by omega
    have hi' : i < up'.length := by omega
    have hSv := S.ups
    have hSn := S.row _ (List.getElem_mem hi)
    obtain ⟨e1, h1, ix1⟩ := hU.ix hi
    obtain ⟨e2, h2, ix2⟩ := hU'.ix hi'
    unfold s19l2
    rw [addOff_lptr]
    simp only [List.drop_zero, ld1_lptr]
    rw [hU.len]
    refine ifT_pos (by simp; omega) ?_
    simp only [addOff_lptr, List.drop_zero, ld1_lptr, ix1, ix2]
    refine callG_of (ints_ok h1 h2 (by omega) ?_)
    rw [tBool_bool]
    rw [drop_eq_step hi hi'] at hk
    by_cases he : up[i] = up'[i]
    · refine ifT_neg (by simp [he]) (rg_of (by omega) (by omega) (s19l2_go (same_l2 S hU hV hU' hV' hlu hl d (i + 1) (by omega) (by simpa [he] using hk))))
    · exact ifT_pos (by simp [he]) (retG_of (by simpa [he] using hk))

theorem same_ok (S : Small up val) (hU : Intss mU up) (hV : Strss mV val) (hU' : Intss nU up') (hV' : Strss nV val') (hk : K (.bool (decide (up = up') && decide (val = val'))) h) : ACalls prog 19 [.agg [mU, mV], .agg [nU, nV]] h K := by
  refine s19_ok ?_
  unfold s19
  rw [hU.len, hU'.len]
  by_cases h1 : up.length = up'.length
  · refine ifT_neg (by simp [h1]) ?_
    rw [hV.len, hV'.len]
    by_cases h2 : val.length = val'.length
    · refine ifT_neg (by simp [h2]) (s19l2_in (up.length + 1) (same_l2 S hU hV hU' hV' h1 h2 up.length 0 (by omega) (by simpa using hk)))
    · refine ifT_pos (by simp; omega) (retG_of ?_)
      rwa [show decide (val = val') = false by simp; intro e; exact h2 (by rw [e]), Bool.and_false] at hk
  · refine ifT_pos (by simp; omega) (ifT_pos rfl (retG_of ?_))
    rwa [show decide (up = up') = false by simp; intro e; exact h1 (by rw [e]), Bool.false_and] at hk

theorem told_ok {l l' : AVal} {k k' : List Int} {e e' : Int} (S : Small up val) (hU : Intss mU up) (hV : Strss mV val) (hU' : Intss nU up) (hV' : Strss nV val) (h1 : Ints l k) (h2 : Ints l' k) (hkl : k.length ≤ 1048576) (he : e = e') (hk : K (.bool true) h) :
    ACalls prog 11 [.agg [mU, mV], l, .int .i64 e, .agg [nU, nV], l', .int .i64 e'] h K := by
  refine s11_ok ?_
  unfold s11
  refine callG_of (same_ok S hU hV hU' hV' ?_)
  rw [tBool_bool]
  refine ifT_pos (by simp) (callG_of (ints_ok h1 h2 (by omega) ?_))
  rw [tBool_bool]
  exact ifT_pos (by simp) (retG_of (by simpa [he] using hk))
end Go.Proofs.Ytinficcdpggiaaa

namespace Go.Proofs.Ytinficcdpggiaaa
open Go Go.Sym Go.Proofs.Try

abbrev Mdl := List (List Int) × List (List ByteArray)
def tot : List Mdl → Nat
  | [] => 0
  | m :: ms => m.1.length + tot ms
def shift (k : Nat) (up : List (List Int)) : List (List Int) := up.map fun r => r.map fun b => (k : Int) + b
def gRows : Nat → List Mdl → List (List Int)
  | _, [] => []
  | k, m :: ms => shift k m.1 ++ gRows (k + m.1.length) ms
def gVals : List Mdl → List (List ByteArray)
  | [] => []
  | m :: ms => m.2 ++ gVals ms
def gPl : Nat → List Mdl → List Int
  | _, [] => []
  | k, m :: ms => (k : Int) :: gPl (k + m.1.length) ms
open Classical in
noncomputable def rootOf (m : Mdl) : Nat := if h : ∃ r, IsRoot m.1 r then Classical.choose h else 0
theorem rootOf_is {m : Mdl} {r : Nat} (h : IsRoot m.1 r) : IsRoot m.1 (rootOf m) := by
  unfold rootOf
  rw [dif_pos ⟨r, h⟩]
  exact Classical.choose_spec (⟨r, h⟩ : ∃ r, IsRoot m.1 r)
noncomputable def gRts : Nat → List Mdl → List Int
  | _, [] => []
  | k, m :: ms => ((k + rootOf m : Nat) : Int) :: gRts (k + m.1.length) ms

theorem shift_len (k : Nat) (up : List (List Int)) : (shift k up).length = up.length := by simp [shift]
theorem gRows_len : ∀ (k : Nat) (ms : List Mdl), (gRows k ms).length = tot ms
  | _, [] => rfl
  | k, m :: ms => by simp [gRows, tot, shift_len, gRows_len _ ms]
theorem gVals_len : ∀ (ms : List Mdl), (∀ m ∈ ms, m.2.length = m.1.length) → (gVals ms).length = tot ms
  | [], _ => rfl
  | m :: ms, h => by
    have := gVals_len ms (fun x hx => h x (List.mem_cons_of_mem _ hx))
    simp [gVals, tot, this, h m (List.mem_cons_self)]

/-- the part of one model in the glued one -/
structure Blk (k0 : Nat) (ms : List Mdl) (k : Nat) (m : Mdl) : Prop where
  mem : m ∈ ms
  lo : k0 ≤ k
  hi : k + m.1.length ≤ k0 + tot ms
  row : ∀ x, x < m.1.length → (gRows k0 ms)[k - k0 + x]? = (shift k m.1)[x]?
  val : ∀ x, x < m.1.length → (gVals ms)[k - k0 + x]? = m.2[x]?
  rt : ((k + rootOf m : Nat) : Int) ∈ gRts k0 ms
theorem blk_head (k0 : Nat) (m : Mdl) (ms : List Mdl) (hl : m.2.length = m.1.length) : Blk k0 (m :: ms) k0 m where
  mem := List.mem_cons_self
  lo := Nat.le_refl _
  hi := by simp only [tot]; omega
  row x hx := by
    rw [Nat.sub_self, Nat.zero_add]
    exact List.getElem?_append_left (by rw [shift_len]; exact hx)
  val x hx := by
    rw [Nat.sub_self, Nat.zero_add]
    exact List.getElem?_append_left (by omega)
  rt := List.mem_cons_self
theorem blk_tail {k0 k : Nat} {m m' : Mdl} {ms : List Mdl} (hl : m.2.length = m.1.length) (B : Blk (k0 + m.1.length) ms k m') : Blk k0 (m :: ms) k m' where
  mem := List.mem_cons_of_mem _ B.mem
  lo := by have := B.lo; omega
  hi := by have := B.hi; simp only [tot]; omega
  row x hx := by
    have := B.lo
    rw [← B.row x hx]
    show (shift k0 m.1 ++ gRows (k0 + m.1.length) ms)[k - k0 + x]? = _
    rw [List.getElem?_append_right (by rw [shift_len]; omega), shift_len]
    congr 1
    omega
  val x hx := by
    have := B.lo
    rw [← B.val x hx]
    show (m.2 ++ gVals ms)[k - k0 + x]? = _
    rw [List.getElem?_append_right (by omega), hl]
    congr 1
    omega
  rt := List.mem_cons_of_mem _ B.rt
theorem blk_of : ∀ (ms : List Mdl) (k0 b : Nat), (∀ m ∈ ms, m.2.length = m.1.length) → k0 ≤ b → b < k0 + tot ms → ∃ k m y, Blk k0 ms k m ∧ b = k + y ∧ y < m.1.length
  | [], k0, b, _, h1, h2 => by simp only [tot] at h2; omega
  | m :: ms, k0, b, hl, h1, h2 => by
    have hm := hl m List.mem_cons_self
    by_cases e : b < k0 + m.1.length
    · exact ⟨k0, m, b - k0, blk_head k0 m ms hm, by omega, by omega⟩
    · obtain ⟨k, m', y, B, h3, h4⟩ := blk_of ms (k0 + m.1.length) b (fun x hx => hl x (List.mem_cons_of_mem _ hx)) (by omega) (by simp only [tot] at h2; omega)
      exact ⟨k, m', y, blk_tail hm B, h3, h4⟩
theorem rts_of : ∀ (ms : List Mdl) (k0 : Nat) (c : Int), (∀ m ∈ ms, m.2.length = m.1.length) → c ∈ gRts k0 ms → ∃ k m, Blk k0 ms k m ∧ c = ((k + rootOf m : Nat) : Int)
  | [], _, c, _, h => by simp [gRts] at h
  | m :: ms, k0, c, hl, h => by
    have hm := hl m List.mem_cons_self
    simp only [gRts, List.mem_cons] at h
    rcases h with rfl | h
    · exact ⟨k0, m, blk_head k0 m ms hm, rfl⟩
    · obtain ⟨k, m', B, h3⟩ := rts_of ms (k0 + m.1.length) c (fun x hx => hl x (List.mem_cons_of_mem _ hx)) h
      exact ⟨k, m', blk_tail hm B, h3⟩

theorem row_blk {ms : List Mdl} {k x : Nat} {m : Mdl} (B : Blk 1 ms k m) (hx : x < m.1.length) (r0 : List Int) : (r0 :: gRows 1 ms)[k + x]? = some (m.1[x].map fun b => (k : Int) + b) := by
  have := B.lo
  have h1 := B.row x hx
  rw [show k + x = (k - 1 + x) + 1 by omega, List.getElem?_cons_succ, h1]
  simp [shift, hx]
theorem step_blk {ms : List Mdl} {k x c : Nat} {m : Mdl} {r0 : List Int} (B : Blk 1 ms k m) (hi : InR m.1) (hx : x < m.1.length) : Step (r0 :: gRows 1 ms) (k + x) c ↔ ∃ y, c = k + y ∧ Step m.1 x y := by
  unfold Step
  rw [row_blk B hx]
  constructor
  · rintro ⟨r, hr, hc⟩
    cases hr
    simp only [List.mem_map] at hc
    obtain ⟨b, hb, e⟩ := hc
    have := hi _ (List.getElem_mem hx) b hb
    exact ⟨b.toNat, by omega, _, List.getElem?_eq_getElem hx, by rw [Int.toNat_of_nonneg this.1]; exact hb⟩
  · rintro ⟨y, rfl, r, hr, hy⟩
    rw [List.getElem?_eq_getElem hx] at hr
    cases hr
    exact ⟨_, rfl, List.mem_map.2 ⟨_, hy, by simp⟩⟩
theorem reach_blk {ms : List Mdl} {k x c : Nat} {m : Mdl} {r0 : List Int} (B : Blk 1 ms k m) (hi : InR m.1) (hx : x < m.1.length) : Reach (r0 :: gRows 1 ms) (k + x) c ↔ ∃ y, c = k + y ∧ Reach m.1 x y := by
  constructor
  · intro h
    induction h with
    | refl => exact ⟨x, rfl, .refl⟩
    | tail _ hs ih =>
      obtain ⟨y, rfl, hy⟩ := ih
      obtain ⟨z, rfl, hz⟩ := (step_blk B hi (hy.lt hi hx)).1 hs
      exact ⟨z, rfl, hy.tail hz⟩
  · rintro ⟨y, rfl, hy⟩
    induction hy with
    | refl => exact .refl
    | tail h1 hs ih => exact ih.tail ((step_blk B hi (h1.lt hi hx)).2 ⟨_, rfl, hs⟩)

/-- a model with a root where the names hold -/
def FitM (atoms : List ByteArray) (m : Mdl) : Prop := ∃ r, IsRoot m.1 r ∧ ∀ s ∈ atoms, s ∈ m.2.getD r []
structure Fits (atoms : List ByteArray) (ms : List Mdl) : Prop where
  each : ∀ m ∈ ms, FitM atoms m
  max : 1 + tot ms ≤ 512
def AllWF (ms : List Mdl) : Prop := ∀ m ∈ ms, WF m.1 m.2
noncomputable def upP (ms : List Mdl) : List (List Int) := natI (List.range' 1 (tot ms)) :: gRows 1 ms
noncomputable def upD (ms : List Mdl) : List (List Int) := gRts 1 ms :: gRows 1 ms
def valG (atoms : List ByteArray) (ms : List Mdl) : List (List ByteArray) := atoms :: gVals ms

theorem inR_glue {ms : List Mdl} (H : AllWF ms) {r0 : List Int} (h0 : ∀ b ∈ r0, 0 ≤ b ∧ b < 1 + tot ms) : InR (r0 :: gRows 1 ms) := by
  intro r hr b hb
  have hlen : (r0 :: gRows 1 ms).length = 1 + tot ms := by simp [gRows_len]; omega
  rw [hlen]
  rcases List.mem_cons.1 hr with rfl | hr
  · have := h0 b hb; omega
  · obtain ⟨i, hi, e⟩ := List.getElem_of_mem hr
    rw [gRows_len] at hi
    obtain ⟨k, m, y, B, h1, h2⟩ := blk_of ms 1 (1 + i) (fun m hm => (H m hm).len) (by omega) (by omega)
    have h3 := row_blk B h2 r0
    rw [← h1, Nat.add_comm 1 i, List.getElem?_cons_succ, List.getElem?_eq_getElem (by rw [gRows_len]; exact hi), e] at h3
    cases h3
    obtain ⟨c, hc, rfl⟩ := List.mem_map.1 hb
    have := (H m B.mem).inR _ (List.getElem_mem h2) c hc
    have := B.hi
    omega
theorem wf_glue {ms : List Mdl} {atoms : List ByteArray} (H : AllWF ms) (F : Fits atoms ms) (hA : fineB atoms = true) {r0 : List Int} (h0 : ∀ b ∈ r0, 0 ≤ b ∧ b < 1 + tot ms) : WF (r0 :: gRows 1 ms) (valG atoms ms) := by
  have hlen : (r0 :: gRows 1 ms).length = 1 + tot ms := by simp [gRows_len]; omega
  have hl : ∀ m ∈ ms, m.2.length = m.1.length := fun m hm => (H m hm).len
  have gv : ∀ {k x : Nat} {m : Mdl}, Blk 1 ms k m → x < m.1.length → (valG atoms ms).getD (k + x) [] = m.2.getD x [] := fun {k x m} B hx => by
    have := B.lo
    have h1 := B.val x hx
    simp only [valG, List.getD, show k + x = (k - 1 + x) + 1 by omega, List.getElem?_cons_succ, h1]
  refine ⟨by omega, by rw [hlen]; exact F.max, by rw [hlen]; simp [valG, gVals_len ms hl]; omega, inR_glue H h0, fun l hl' => ?_, fun a b ha hb => ?_⟩
  · rcases List.mem_cons.1 hl' with rfl | hl'
    · exact hA
    · obtain ⟨i, hi, e⟩ := List.getElem_of_mem hl'
      rw [gVals_len ms hl] at hi
      obtain ⟨k, m, y, B, h1, h2⟩ := blk_of ms 1 (1 + i) hl (by omega) (by omega)
      have := B.lo
      have h3 := B.val y h2
      rw [show k - 1 + y = i by omega, List.getElem?_eq_getElem (by rw [gVals_len ms hl]; exact hi), e] at h3
      exact (H m B.mem).fine l (List.mem_of_getElem? h3.symm)
  · rw [hlen] at ha hb
    intro hr hne
    by_cases e : a = 0
    · subst e
      obtain ⟨k, m, y, B, rfl, h2⟩ := blk_of ms 1 b hl (by omega) (by omega)
      have hw := H m B.mem
      have := B.lo
      refine ⟨fun h => ?_, ?_⟩
      · obtain ⟨z, hz, _⟩ := (reach_blk B hw.inR h2).1 h
        omega
      · rw [gv B h2]
        obtain ⟨r, h3, h4⟩ := F.each m B.mem
        intro s hs
        have hs' := h4 s (by simpa [valG] using hs)
        by_cases e : r = y
        · rwa [← e]
        · exact (hw.cond r y h3.1 h2 (h3.2 y h2) e).2 s hs'
    · obtain ⟨k, m, x, B, rfl, h2⟩ := blk_of ms 1 a hl (by omega) (by omega)
      have hw := H m B.mem
      obtain ⟨y, rfl, hy⟩ := (reach_blk B hw.inR h2).1 hr
      have hy2 := hy.lt hw.inR h2
      have hc := hw.cond x y h2 hy2 hy (by omega)
      refine ⟨fun h => ?_, ?_⟩
      · obtain ⟨z, hz, hz2⟩ := (reach_blk B hw.inR hy2).1 h
        obtain rfl : x = z := by omega
        exact hc.1 hz2
      · rw [gv B h2, gv B hy2]
        exact hc.2
theorem p0 (ms : List Mdl) : ∀ b ∈ natI (List.range' 1 (tot ms)), 0 ≤ b ∧ b < 1 + tot ms := by
  intro b hb
  simp only [natI, List.mem_map, List.mem_range'_1] at hb
  obtain ⟨c, hc, rfl⟩ := hb
  omega
theorem d0 {ms : List Mdl} {atoms : List ByteArray} (H : AllWF ms) (F : Fits atoms ms) : ∀ b ∈ gRts 1 ms, 0 ≤ b ∧ b < 1 + tot ms := by
  intro b hb
  obtain ⟨k, m, B, rfl⟩ := rts_of ms 1 b (fun m hm => (H m hm).len) hb
  obtain ⟨r, h3, _⟩ := F.each m B.mem
  have := (rootOf_is h3).1
  have := B.hi
  omega
theorem reach_PD {ms : List Mdl} {atoms : List ByteArray} (H : AllWF ms) (F : Fits atoms ms) {a b : Nat} (ha : a < 1 + tot ms) : Reach (upP ms) a b ↔ Reach (upD ms) a b := by
  have hl : ∀ m ∈ ms, m.2.length = m.1.length := fun m hm => (H m hm).len
  have iP : InR (upP ms) := inR_glue H (p0 ms)
  have iD : InR (upD ms) := inR_glue H (d0 H F)
  have lP : (upP ms).length = 1 + tot ms := by simp [upP, gRows_len]; omega
  have lD : (upD ms).length = 1 + tot ms := by simp [upD, gRows_len]; omega
  by_cases e : a = 0
  · subst e
    constructor
    · intro h
      have hb := h.lt iP (by omega)
      by_cases e : b = 0
      · subst e; exact .refl
      · obtain ⟨k, m, y, B, rfl, h2⟩ := blk_of ms 1 b hl (by omega) (by omega)
        obtain ⟨r, h3, _⟩ := F.each m B.mem
        have hr := rootOf_is h3
        have s1 : Reach (upD ms) 0 (k + rootOf m) := Reach.tail .refl ⟨_, rfl, B.rt⟩
        exact s1.trans ((reach_blk B (H m B.mem).inR hr.1).2 ⟨y, rfl, hr.2 y h2⟩)
    · intro h
      have hb := h.lt iD (by omega)
      by_cases e : b = 0
      · subst e; exact .refl
      · refine Reach.tail .refl ⟨_, rfl, ?_⟩
        simp only [natI, List.mem_map, List.mem_range'_1]
        exact ⟨b, by omega, rfl⟩
  · obtain ⟨k, m, x, B, rfl, h2⟩ := blk_of ms 1 a hl (by omega) (by omega)
    unfold upP upD
    rw [reach_blk B (H m B.mem).inR h2, reach_blk B (H m B.mem).inR h2]
theorem tidyUp_congr {up up' : List (List Int)} (hl : up.length = up'.length) (h : ∀ a b, a < up.length → b < up.length → rb up a b = rb up' a b) : tidyUp up = tidyUp up' := by
  unfold tidyUp
  rw [← hl]
  refine List.map_congr_left fun a ha => ?_
  have ha' : a < up.length := List.mem_range.1 ha
  unfold tidyRow
  rw [← hl]
  congr 1
  refine List.filter_congr fun b hb => ?_
  have hb' : b < up.length := List.mem_range.1 hb
  unfold coverB startB
  rw [h a b ha' hb', ← hl]
  congr 1
  rw [Bool.eq_iff_iff, List.all_eq_true, List.all_eq_true]
  refine forall_congr' fun c => forall_congr' fun hc => ?_
  have hc' : c < up.length := List.mem_range.1 hc
  unfold okc
  rw [h a c ha' hc', h c b hc' hb']
theorem tidy_PD {ms : List Mdl} {atoms : List ByteArray} (H : AllWF ms) (F : Fits atoms ms) : tidyUp (upP ms) = tidyUp (upD ms) := by
  have lP : (upP ms).length = 1 + tot ms := by simp [upP, gRows_len]; omega
  have lD : (upD ms).length = 1 + tot ms := by simp [upD, gRows_len]; omega
  refine tidyUp_congr (by omega) fun a b ha _ => ?_
  rw [Bool.eq_iff_iff, rb_iff, rb_iff]
  exact reach_PD H F (by omega)
end Go.Proofs.Ytinficcdpggiaaa

namespace Go.Proofs.Ytinficcdpggiaaa
open Go Go.Sym Go.Proofs.Try

variable {K : AVal → Heap → Prop}

def ModelA (e : AVal) (m : Mdl) : Prop := ∃ a b, e = .agg [a, b] ∧ Intss a m.1 ∧ Strss b m.2
/-- a slice of models -/
def Models (v : AVal) (ms : List Mdl) : Prop := ∃ L, SlOf 2 v L ∧ All2 ModelA L ms
theorem Models.len {v : AVal} {ms : List Mdl} (h : Models v ms) (K : Int → Prop) : lenN v K = K ms.length := by
  obtain ⟨L, h1, h2⟩ := h
  rw [lenN_of h1, h2.length]
theorem Models.ix {v : AVal} {ms : List Mdl} (h : Models v ms) {i : Nat} (hi : i < ms.length) : ∃ a b, Intss a ms[i].1 ∧ Strss b ms[i].2 ∧ ∀ K : AVal → Prop, ixS 2 v (i : Int) K = K (.lptr [a, b]) := by
  obtain ⟨L, h1, h2⟩ := h
  obtain ⟨e, he, a, b, rfl, ha, hb⟩ := h2.get (List.getElem?_eq_getElem hi)
  exact ⟨a, b, ha, hb, fun K => ixS_nat h1 he K⟩
structure SmallL (ms : List Mdl) : Prop where
  len : ms.length ≤ 1048576
  each : ∀ m ∈ ms, Small m.1 m.2

theorem tot_snoc (m : Mdl) : ∀ ms : List Mdl, tot (ms ++ [m]) = tot ms + m.1.length
  | [] => by simp [tot]
  | x :: ms => by simp only [List.cons_append, tot, tot_snoc m ms]; omega
theorem gRows_snoc (m : Mdl) : ∀ (k : Nat) (ms : List Mdl), gRows k (ms ++ [m]) = gRows k ms ++ shift (k + tot ms) m.1
  | k, [] => by simp [gRows, tot]
  | k, x :: ms => by simp only [List.cons_append, gRows, gRows_snoc m _ ms, tot, List.append_assoc, Nat.add_assoc]
theorem gVals_snoc (m : Mdl) : ∀ ms : List Mdl, gVals (ms ++ [m]) = gVals ms ++ m.2
  | [] => by simp [gVals]
  | x :: ms => by simp only [List.cons_append, gVals, gVals_snoc m ms, List.append_assoc]
theorem gPl_snoc (m : Mdl) : ∀ (k : Nat) (ms : List Mdl), gPl k (ms ++ [m]) = gPl k ms ++ [((k + tot ms : Nat) : Int)]
  | k, [] => by simp [gPl, tot]
  | k, x :: ms => by simp only [List.cons_append, gPl, gPl_snoc m _ ms, tot, Nat.add_assoc]
theorem gRts_snoc (m : Mdl) : ∀ (k : Nat) (ms : List Mdl), gRts k (ms ++ [m]) = gRts k ms ++ [((k + tot ms + rootOf m : Nat) : Int)]
  | k, [] => by simp [gRts, tot]
  | k, x :: ms => by simp only [List.cons_append, gRts, gRts_snoc m _ ms, tot, Nat.add_assoc]
theorem take_snoc {ms : List Mdl} {i : Nat} (hi : i < ms.length) : ms.take (i + 1) = ms.take i ++ [ms[i]] := List.take_succ_eq_append_getElem hi
theorem tot_take : ∀ (ms : List Mdl) (i : Nat), tot (ms.take i) ≤ tot ms
  | [], i => by simp [tot]
  | m :: ms, 0 => by simp [tot]
  | m :: ms, i + 1 => by simp only [List.take_succ_cons, tot]; have := tot_take ms i; omega
theorem gPl_len : ∀ (k : Nat) (ms : List Mdl), (gPl k ms).length = ms.length
  | _, [] => rfl
  | k, m :: ms => by simp [gPl, gPl_len _ ms]
theorem gRts_len : ∀ (k : Nat) (ms : List Mdl), (gRts k ms).length = ms.length
  | _, [] => rfl
  | k, m :: ms => by simp [gRts, gRts_len _ ms]

theorem fail_ok {hb h : Heap} {rt : Nat} {c : Int} {X Y : AVal} (ht : hb rt = some (.row 2 [.agg [X, Y]])) (hsub : ∀ q o, h q = some o → q ≠ rt ∧ hb q = some o) (bad : K (.tuple [.agg [.nilsl, .nilsl], .nilsl, .int .i64 c]) h) :
    st false hb (.ptr rt 0 0) [.nilsl, .nilsl] fun h_2 => ldN 2 h_2 (.ptr rt 0 0) fun l_5 => tCons l_5 fun v4 l_6 => tCons l_6 fun v5 l_7 => tNil l_7 (retG (.tuple [(.agg [v4, v5]), .nilsl, (.int .i64 c)]) h_2 K) := by
  refine st_all ht rfl ?_
  rw [ldN2 (Heap.set_same _ _ _), tCons_cons, tCons_cons, tNil_nil]
  refine retG_drop (fun q o hq => ?_) bad
  rw [Heap.set_ne _ _ (hsub q o hq).1]
  exact (hsub q o hq).2

/-- places, the model under way (what its box holds, how its slices are), one more slice -/
abbrev OS (hb : Heap) (pl : AVal) (LP : List AVal) (ro : Nat) (sU sV vU : AVal) (LU : List AVal) (vV : AVal) (LV : List AVal) (x : AVal) (LX : List AVal) (h : Heap) : Prop :=
  Own hb [.slc 1 pl LP, .cell ro (.row 2 [.agg [sU, sV]]), .slc 1 vU LU, .slc 1 vV LV, .slc 1 x LX] h
/-- the model becomes plain data -/
theorem OS.freeze {hb h : Heap} {pl sU sV vU vV x : AVal} {ro : Nat} {LP R LV LX : List AVal} {r0 : List Int} {rows : List (List Int)} {vals : List (List ByteArray)} (W : OS hb pl LP ro sU sV vU (x :: R) vV LV x LX h)
    (hX : LX = r0.map (.int .i64)) (hR : All2 Ints R rows) (hV : All2 Strs LV vals) :
    ∃ S vU' vV' h', Lits h S [.agg [vU, vV]] [.agg [vU', vV']] ∧ Go.Sym.GStep h h' S ∧ Own hb [.slc 1 pl LP] h' ∧ Intss vU' (r0 :: rows) ∧ Strss vV' vals := by
  let S : Nat → Prop := fun n => nameOf vU n ∨ nameOf vV n ∨ nameOf x n
  obtain ⟨x', lx, sx⟩ := W.lit (i := 4) rfl (S := S) (fun n h => .inr (.inr h)) (Lits.refl LX)
  obtain ⟨u', lu, su⟩ := W.lit (i := 2) rfl (S := S) (fun n h => .inl h) (.cons lx (Lits.refl R))
  obtain ⟨v', lv, sv⟩ := W.lit (i := 3) rfl (S := S) (fun n h => .inr (.inl h)) (Lits.refl LV)
  obtain ⟨h', g, W'⟩ := W.step S [.slc 1 pl LP] (fun n hn => by
      rcases hn with hn | hn | hn
      · exact W.new 2 _ n rfl hn
      · exact W.new 3 _ n rfl hn
      · exact W.new 4 _ n rfl hn) (fun j y' hj => by
    match j, hj with
    | 0, hj =>
      cases hj
      refine ⟨_, rfl, W.fit 0 _ rfl, fun n hn => ⟨hn, ?_⟩, .refl _⟩
      rintro (h1 | h1 | h1)
      · exact absurd (W.one 0 2 _ _ n rfl rfl hn h1) (by decide)
      · exact absurd (W.one 0 3 _ _ n rfl rfl hn h1) (by decide)
      · exact absurd (W.one 0 4 _ _ n rfl rfl hn h1) (by decide)
    | j + 1, hj => simp at hj)
  refine ⟨S, u', v', h', .cons (.agg (.cons lu (.cons lv .nil))) .nil, g, W', ⟨_, su, .cons ?_ hR⟩, ⟨_, sv, hV⟩⟩
  unfold Ints
  rw [← hX]
  exact sx
theorem glue_ret {hb h h' : Heap} {pl a b X Y : AVal} {rt : Nat} {P : List Int} (W : Own hb [.slc 1 pl (P.map (.int .i64))] h') (ht : hb rt = some (.row 2 [.agg [X, Y]])) (hsub : ∀ q o, h q = some o → q ≠ rt ∧ hb q = some o)
    (good : ∀ pl', Ints pl' P → K (.tuple [.agg [a, b], pl', .int .i64 0]) h) :
    st false h' (.ptr rt 0 0) [a, b] fun h_22 => ldN 2 h_22 (.ptr rt 0 0) fun l_36 => tCons l_36 fun v59 l_37 => tCons l_37 fun v60 l_38 => tNil l_38 (retG (.tuple [(.agg [v59, v60]), pl, (.int .i64 0)]) h_22 K) := by
  refine st_all (W.old _ _ ht) rfl ?_
  rw [ldN2 (Heap.set_same _ _ _), tCons_cons, tCons_cons, tNil_nil]
  have W2 := W.base (x := .row 2 [.agg [a, b]]) ht
  obtain ⟨pl', l1, s1⟩ := W2.lit (i := 0) rfl (S := nameOf pl) (fun _ h => h) (Lits.refl _)
  refine ⟨nameOf pl, .tuple [.agg [a, b], pl', .int .i64 0], h, .tuple (.cons (.refl _) (.cons l1 (.cons (.refl _) .nil))), ⟨fun _ _ => trivial, fun q o hq => ⟨o, ?_, fun hs => ?_, .refl o⟩⟩, good pl' s1⟩
  · rw [Heap.set_ne _ _ (hsub q o hq).1]
    exact W.old q o (hsub q o hq).2
  · have := W.new 0 _ q rfl hs
    rw [(hsub q o hq).2] at this
    cases this

section
variable {ms : List Mdl} {atoms : List ByteArray} {l va : AVal} {h0 hb : Heap} {rt ro : Nat}

theorem glue19_l8 (SL : SmallL ms) (hM : Models l ms) {i w : Nat} (hi : i < ms.length) (hw : w < ms[i].1.length) (Wi : WF ms[i].1 ms[i].2) {first : Nat} (hf : first ≤ 2048) {L4 : AVal → AVal → AVal → AVal → AVal → AVal → Int → Heap → Prop}
    {F : AVal → AVal → AVal → AVal → AVal → AVal → Int → Int → Int → Heap → Prop} {t4 pl vU vV x : AVal} {LP LU LV LX : List AVal} (hLU : LU.length ≤ 2048) (hLV : LV.length ≤ 2048)
    (next : ∀ vU' vV' row' cp h', Ints row' (ms[i].1[w].map fun b => (first : Int) + b) → Strs cp (ms[i].2[w]'(by rw [Wi.len]; exact hw)) → OS hb pl LP ro vU' vV' vU' (LU ++ [row']) vV' (LV ++ [cp]) x LX h' →
      F l va t4 (.ptr ro 0 0) pl x (i : Int) (first : Int) ((w + 1 : Nat) : Int) h') :
    ∀ d k : Nat, k + d = ms[i].1[w].length → ∀ row h, Own hb [.slc 1 pl LP, .cell ro (.row 2 [.agg [vU, vV]]), .slc 1 vU LU, .slc 1 vV LV, .slc 1 x LX, .slc 1 row (((ms[i].1[w].take k).map fun b => (first : Int) + b).map (.int .i64))] h →
      s22l8 K L4 (s22l7_G F) (d + 1) l va t4 (.ptr ro 0 0) pl x (i : Int) (first : Int) (w : Int) row (k : Int) h
  | 0, k, hd, row, h, W => by
    have Si := SL.each _ (List.getElem_mem hi)
    obtain ⟨a, b, ha, hbv, hix⟩ := hM.ix hi
    obtain ⟨e, he, hie⟩ := ha.ix hw
    obtain ⟨c, hc, hic⟩ := hbv.ix (show w < ms[i].2.length by rw [Wi.len]; exact hw)
    have hmax := Wi.max
    unfold s22l8
    rw [hix, addOff_lptr]
    simp only [List.drop_zero, ld1_lptr]
    rw [hie, ld1_lptr, he.len]
    refine ifT_neg (by simp; omega) ?_
    rw [addOff_ptr, ld1_fld (W.get 1 _ ro rfl rfl) rfl]
    refine chk_iff.2 ⟨(W.sc (i := 5) rfl).1, W.app (i := 2) rfl (by omega) (by omega) fun v2 h2 W2 => ?_⟩
    refine chk_iff.2 ⟨(W2.sc (i := 2) rfl).1, st_fst (W2.get 1 _ ro rfl rfl) ?_⟩
    have W3 := W2.put (i := 1) rfl (.row 2 [.agg [v2, vV]])
    rw [addOff_ptr, ld1_fld (W3.get 1 _ ro rfl rfl) rfl, hix, addOff_lptr]
    simp only [List.drop_succ_cons, List.drop_zero, ld1_lptr]
    rw [hic, ld1_lptr]
    refine chk_iff.2 ⟨hc.notAgg.2, ⟨by rw [ld1_fld (W3.get 1 _ ro rfl rfl) rfl], W3.app (i := 3) rfl (by omega) (by omega) fun v3 h3 W4 => ?_⟩⟩
    refine chk_iff.2 ⟨(W4.sc (i := 3) rfl).1, st_snd (W4.get 1 _ ro rfl rfl) (rg_of (by omega) (by omega) ?_)⟩
    have W5 : Own hb ([.slc 1 pl LP, .cell ro (.row 2 [.agg [v2, v3]]), .slc 1 v2 (LU ++ [row]), .slc 1 v3 (LV ++ [c]), .slc 1 x LX] ++ [.slc 1 row (((ms[i].1[w].take k).map fun b => (first : Int) + b).map (.int .i64))]) _ := W4.put (i := 1) rfl (.row 2 [.agg [v2, v3]])
    obtain ⟨S, h', row', s1, g, W6⟩ := W5.settleL (i := 2) rfl
    rw [List.take_of_length_le (by omega)] at s1
    exact ⟨S, _, h', Lits.refl _, g, rfl, next v2 v3 row' c h' s1 hc W6⟩
  | d + 1, k, hd, row, h, W => by
    have Si := SL.each _ (List.getElem_mem hi)
    have hr := Si.row _ (List.getElem_mem hw)
    obtain ⟨a, b, ha, hbv, hix⟩ := hM.ix hi
    obtain ⟨e, he, hie⟩ := ha.ix hw
    have hk : k < ms[i].1[w].length := by omega
    have hin := Wi.inR _ (List.getElem_mem hw) _ (List.getElem_mem hk)
    have hmax := Wi.max
    unfold s22l8
    rw [hix, addOff_lptr]
    simp only [List.drop_zero, ld1_lptr]
    rw [hie, ld1_lptr, he.len]
    refine ifT_pos (by simp; omega) ?_
    rw [hix, addOff_lptr]
    simp only [List.drop_zero, ld1_lptr]
    rw [hie, ld1_lptr, he.ix hk, ld1_lptr, tInt_int]
    refine rg_of (by omega) (by omega) (W.app (i := 5) rfl (by simp; omega) (by simp; omega) fun v2 h2 W2 => rg_of (by omega) (by omega) (s22l8_go ?_))
    refine glue19_l8 (vU := vU) (vV := vV) SL hM hi hw Wi hf hLU hLV next d (k + 1) (by omega) v2 h2 ?_
    rw [List.take_succ_eq_append_getElem hk, List.map_append, List.map_append]
    exact W2

theorem glue19_l7 (SL : SmallL ms) (hM : Models l ms) {i : Nat} (hi : i < ms.length) (Wi : WF ms[i].1 ms[i].2) {first : Nat} (hf : first ≤ 512) {L4 : AVal → AVal → AVal → AVal → AVal → AVal → Int → Heap → Prop}
    {t4 pl x : AVal} {LP LU LV LX : List AVal} (hLU : LU.length ≤ 1024) (hLV : LV.length ≤ 1024)
    (next : ∀ vU vV RW VW h, All2 Ints RW (shift first ms[i].1) → All2 Strs VW ms[i].2 → OS hb pl LP ro vU vV vU (LU ++ RW) vV (LV ++ VW) x LX h → L4 l va t4 (.ptr ro 0 0) pl x ((i : Int) + 1) h) :
    ∀ d w : Nat, w + d = ms[i].1.length → ∀ vU vV RW VW h, All2 Ints RW ((shift first ms[i].1).take w) → All2 Strs VW (ms[i].2.take w) → OS hb pl LP ro vU vV vU (LU ++ RW) vV (LV ++ VW) x LX h →
      s22l7 K L4 (d + 1) l va t4 (.ptr ro 0 0) pl x (i : Int) (first : Int) (w : Int) h
  | 0, w, hd, vU, vV, RW, VW, h, hR, hV, W => by
    obtain ⟨a, b, ha, hbv, hix⟩ := hM.ix hi
    have hl := SL.len
    unfold s22l7
    rw [hix, addOff_lptr]
    simp only [List.drop_zero, ld1_lptr]
    rw [ha.len]
    rw [List.take_of_length_le (by rw [shift_len]; omega)] at hR
    rw [List.take_of_length_le (by rw [Wi.len]; omega)] at hV
    exact ifT_neg (by simp; omega) (rg_of (by omega) (by omega) (next vU vV RW VW h hR hV W))
  | d + 1, w, hd, vU, vV, RW, VW, h, hR, hV, W => by
    obtain ⟨a, b, ha, hbv, hix⟩ := hM.ix hi
    have hw : w < ms[i].1.length := by omega
    have hmax := Wi.max
    have hRl := hR.length
    have hVl := hV.length
    simp only [List.length_take, shift_len] at hRl
    simp only [List.length_take, Wi.len] at hVl
    unfold s22l7
    rw [hix, addOff_lptr]
    simp only [List.drop_zero, ld1_lptr]
    rw [ha.len]
    refine ifT_pos (by simp; omega) (s22l8_in (ms[i].1[w].length + 1) ?_)
    refine glue19_l8 SL hM hi hw Wi (by omega) (by simp; omega) (by simp; omega) (fun vU' vV' row' cp h' hr hc W' => ?_) _ 0 (by omega) .nilsl h (W.newN 1)
    refine glue19_l7 SL hM hi Wi hf hLU hLV next d (w + 1) (by omega) vU' vV' (RW ++ [row']) (VW ++ [cp]) h' ?_ ?_ ?_
    · rw [List.take_succ_eq_append_getElem (by rw [shift_len]; exact hw)]
      refine hR.append (.cons ?_ .nil)
      simpa [shift] using hr
    · rw [List.take_succ_eq_append_getElem (by rw [Wi.len]; exact hw)]
      exact hV.append (.cons hc .nil)
    · rw [← List.append_assoc, ← List.append_assoc]
      exact W'

theorem glue19_l6 (SL : SmallL ms) (hM : Models l ms) (hA : Strs va atoms) (hAl : atoms.length ≤ 1048576) {i : Nat} (hi : i < ms.length) (Wi : WF ms[i].1 ms[i].2) {r : Nat} (hr : IsRoot ms[i].1 r)
    (ht : hb rt = some (.row 2 [.agg [.nilsl, .nilsl]])) (hsub : ∀ q o, h0 q = some o → q ≠ rt ∧ hb q = some o) (bad : ¬ (∀ s ∈ atoms, s ∈ ms[i].2.getD r []) → K (.tuple [.agg [.nilsl, .nilsl], .nilsl, .int .i64 190]) h0)
    {L4 : AVal → AVal → AVal → AVal → AVal → AVal → Int → Heap → Prop} {pl x vU vV : AVal} {LP LU LV LX : List AVal} {h : Heap} (W : OS hb pl LP ro vU vV vU LU vV LV x LX h) (hLU : LU.length ≤ 512) (hLV : LV.length ≤ 512) (hLP : LP.length ≤ 1048576) (hLX : LX.length ≤ 1048576)
    (next : (∀ s ∈ atoms, s ∈ ms[i].2.getD r []) → ∀ pl' vU vV x' RW VW h', All2 Ints RW (shift LU.length ms[i].1) → All2 Strs VW ms[i].2 →
      OS hb pl' (LP ++ [.int .i64 (LU.length : Int)]) ro vU vV vU (LU ++ RW) vV (LV ++ VW) x' (LX ++ [.int .i64 ((LU.length : Int) + (r : Int))]) h' → L4 l va (.ptr rt 0 0) (.ptr ro 0 0) pl' x' ((i : Int) + 1) h') :
    ∀ d k : Nat, k + d = atoms.length → (∀ s ∈ atoms.take k, s ∈ ms[i].2.getD r []) → s22l6 K L4 (d + 1) l va (.ptr rt 0 0) (.ptr ro 0 0) pl x (i : Int) (r : Int) (k : Int) h
  | 0, k, hd, hk => by
    have hmax := Wi.max
    have hrl := hr.1
    unfold s22l6
    rw [hA.len]
    rw [List.take_of_length_le (by omega)] at hk
    refine ifT_neg (by simp; omega) ?_
    rw [addOff_ptr, ld1_fld (W.get 1 _ ro rfl rfl) rfl, W.len (i := 2) rfl]
    refine W.app (i := 0) rfl (by omega) (by omega) fun v2 h2 W2 => rg_of (by omega) (by omega) (W2.app (i := 4) rfl (by omega) (by omega) fun v3 h3 W3 => s22l7_in (ms[i].1.length + 1) ?_)
    refine glue19_l7 (LU := LU) (LV := LV) SL hM hi Wi hLU (by omega) (by omega) (fun vU vV RW VW h' hR hV W' => next hk v2 vU vV v3 RW VW h' hR hV W') _ 0 (by omega) vU vV [] [] h3 .nil .nil ?_
    rw [List.append_nil, List.append_nil]
    exact W3
  | d + 1, k, hd, hk => by
    have Si := SL.each _ (List.getElem_mem hi)
    have hkl : k < atoms.length := by omega
    have hrl : r < ms[i].2.length := by rw [Wi.len]; exact hr.1
    obtain ⟨a, b, ha, hbv, hix⟩ := hM.ix hi
    obtain ⟨c, hc, hic⟩ := hbv.ix hrl
    unfold s22l6
    rw [hA.len]
    refine ifT_pos (by simp; omega) ?_
    rw [hix, addOff_lptr]
    simp only [List.drop_succ_cons, List.drop_zero, ld1_lptr]
    rw [hic, ld1_lptr, hA.ix hkl, ld1_lptr, tStr_str]
    refine callG_of (has19_ok hc (Si.names _ (List.getElem_mem hrl)).1.1 ?_)
    rw [tBool_bool]
    rw [getD_val hrl] at hk bad next
    cases e : inS ms[i].2[r] atoms[k] with
    | true =>
      refine ifT_neg rfl (rg_of (by omega) (by omega) (s22l6_go ?_))
      refine glue19_l6 SL hM hA hAl hi Wi hr ht hsub (by rw [getD_val hrl]; exact bad) W hLU hLV hLP hLX (by rw [getD_val hrl]; exact next) d (k + 1) (by omega) ?_
      rw [getD_val hrl]
      intro s hs
      rw [List.take_succ_eq_append_getElem hkl, List.mem_append] at hs
      rcases hs with hs | hs
      · exact hk s hs
      · rw [List.mem_singleton.1 hs]
        exact inS_iff.1 e
    | false =>
      refine ifT_pos rfl (fail_ok (W.old _ _ ht) (fun q o hq => ⟨(hsub q o hq).1, W.old _ _ (hsub q o hq).2⟩) (bad fun hall => ?_))
      rw [inS_iff.2 (hall _ (List.getElem_mem hkl))] at e
      cases e

theorem gRows_mem : ∀ (k : Nat) (ms : List Mdl) (r : List Int), r ∈ gRows k ms → ∃ m ∈ ms, ∃ r' ∈ m.1, r.length = r'.length
  | _, [], r, h => by simp [gRows] at h
  | k, m :: ms, r, h => by
    rcases List.mem_append.1 h with h | h
    · simp only [shift, List.mem_map] at h
      obtain ⟨r', hr', rfl⟩ := h
      exact ⟨m, List.mem_cons_self, r', hr', by simp⟩
    · obtain ⟨m', hm', r', hr', e⟩ := gRows_mem _ ms r h
      exact ⟨m', List.mem_cons_of_mem _ hm', r', hr', e⟩
theorem gVals_mem : ∀ (ms : List Mdl) (r : List ByteArray), r ∈ gVals ms → ∃ m ∈ ms, r ∈ m.2
  | [], r, h => by simp [gVals] at h
  | m :: ms, r, h => by
    rcases List.mem_append.1 h with h | h
    · exact ⟨m, List.mem_cons_self, h⟩
    · obtain ⟨m', hm', e⟩ := gVals_mem ms r h
      exact ⟨m', List.mem_cons_of_mem _ hm', e⟩
theorem small_glue (SL : SmallL ms) (H : AllWF ms) (F : Fits atoms ms) (hSB : SB atoms) (hAl : atoms.length ≤ 1048576) {r0 : List Int} (h0 : r0.length ≤ 1048576) : Small (r0 :: gRows 1 ms) (valG atoms ms) where
  ups := by have := F.max; simp [gRows_len]; omega
  vals := by have := F.max; simp [valG, gVals_len ms (fun m hm => (H m hm).len)]; omega
  row r hr := by
    rcases List.mem_cons.1 hr with rfl | hr
    · exact h0
    · obtain ⟨m, hm, r', hr', e⟩ := gRows_mem 1 ms r hr
      rw [e]
      exact (SL.each m hm).row r' hr'
  names n hn := by
    rcases List.mem_cons.1 hn with rfl | hn
    · exact ⟨hSB, hAl⟩
    · obtain ⟨m, hm, e⟩ := gVals_mem ms n hn
      exact (SL.each m hm).names n e
end
end Go.Proofs.Ytinficcdpggiaaa

namespace Go.Proofs.Ytinficcdpggiaaa
open Go Go.Sym Go.Proofs.Try

variable {K : AVal → Heap → Prop} {ms : List Mdl} {atoms : List ByteArray} {l va : AVal} {h0 hb : Heap} {rt ro : Nat}

theorem root_fits {i : Nat} (hi : i < ms.length) (Wi : WF ms[i].1 ms[i].2) {r : Nat} (hr : IsRoot ms[i].1 r) (F : Fits atoms ms) : ∀ s ∈ atoms, s ∈ ms[i].2.getD r [] := by
  obtain ⟨r', h1, h2⟩ := F.each _ (List.getElem_mem hi)
  rw [IsRoot.unique Wi hr h1]
  exact h2
theorem tot_step {i : Nat} (hi : i < ms.length) : tot (ms.take (i + 1)) = tot (ms.take i) + ms[i].1.length := by rw [take_snoc hi, tot_snoc]

theorem glue19_l4 (SL : SmallL ms) (hM : Models l ms) (hA : Strs va atoms) (hSB : SB atoms) (hAl : atoms.length ≤ 1048576) (H : AllWF ms) (hF : fineB atoms = true)
    (ht : hb rt = some (.row 2 [.agg [.nilsl, .nilsl]])) (hsub : ∀ q o, h0 q = some o → q ≠ rt ∧ hb q = some o) (bad : ¬ Fits atoms ms → K (.tuple [.agg [.nilsl, .nilsl], .nilsl, .int .i64 190]) h0)
    (good : Fits atoms ms → ∀ vU vV pl, Intss vU (tidyUp (upD ms)) → Strss vV (valG atoms ms) → Ints pl (gPl 1 ms) → K (.tuple [.agg [vU, vV], pl, .int .i64 0]) h0) :
    ∀ d i : Nat, i + d = ms.length → (∀ m ∈ ms.take i, FitM atoms m) → 1 + tot (ms.take i) ≤ 512 → ∀ pl vU vV x R LV h, All2 Ints R (gRows 1 (ms.take i)) → All2 Strs LV (valG atoms (ms.take i)) →
      OS hb pl ((gPl 1 (ms.take i)).map (.int .i64)) ro vU vV vU (.nilsl :: R) vV LV x ((gRts 1 (ms.take i)).map (.int .i64)) h → s22l4 K (d + 1) l va (.ptr rt 0 0) (.ptr ro 0 0) pl x (i : Int) h
  | 0, i, hd, hE, hT, pl, vU, vV, x, R, LV, h, hR, hV, W => by
    rw [List.take_of_length_le (by omega)] at hE hT hR hV W
    have F : Fits atoms ms := ⟨hE, hT⟩
    unfold s22l4
    rw [hM.len]
    refine ifT_neg (by simp; omega) ?_
    rw [addOff_ptr, ld1_fld (W.get 1 _ ro rfl rfl) rfl]
    rcases W.fit 2 _ rfl with ⟨_, e⟩ | ⟨rU, rfl⟩
    · cases e
    refine ixS_sl (Int.le_refl 0) (by simp) (chk_iff.2 ⟨(W.sc (i := 4) rfl).1, st_elem (W.get 2 _ rU rfl rfl) rfl rfl ?_⟩)
    have W2 := W.putS (i := 2) rfl (l' := x :: R) rfl
    refine (?_ : ldN 2 (h.set rU (.row 1 (x :: R))) (.ptr ro 0 0) _)
    rw [ldN2 (W2.get 1 _ ro rfl rfl), tCons_cons, tCons_cons, tNil_nil]
    obtain ⟨S, vU', vV', h', hl, g, W3, hU', hV'⟩ := OS.freeze W2 rfl hR hV
    have hgl : (gRts 1 ms).length ≤ 1048576 := by rw [gRts_len]; exact SL.len
    refine ⟨S, _, h', hl, g, tidy19_ok (up := upD ms) (val := valG atoms ms) (small_glue SL H F hSB hAl hgl) hU' hV' (wf_glue H F hF (d0 H F)) fun a b ha hbv => ?_⟩
    simp only [tAgg_agg, tCons_cons, tNil_nil]
    exact glue_ret W3 ht hsub (fun pl' hp => good F a b pl' ha hbv hp)
  | d + 1, i, hd, hE, hT, pl, vU, vV, x, R, LV, h, hR, hV, W => by
    have hi : i < ms.length := by omega
    have Si := SL.each _ (List.getElem_mem hi)
    have Wi := H _ (List.getElem_mem hi)
    have hRl := hR.length
    have hVl := hV.length
    rw [gRows_len] at hRl
    have hVl2 : LV.length = 1 + tot (ms.take i) := by
      rw [hVl]; simp [valG, gVals_len _ (fun m hm => (H m (List.mem_of_mem_take hm)).len)]; omega
    obtain ⟨a, b, ha, hbv, hix⟩ := hM.ix hi
    have hst := tot_step hi
    have hle := tot_take ms (i + 1)
    have hmsl := SL.len
    have hmax := Wi.max
    unfold s22l4
    rw [hM.len]
    refine ifT_pos (by simp; omega) ?_
    rw [hix, ldN_agg2]
    simp only [tCons_cons, tNil_nil]
    refine callG_of (root17_ok Si ha hbv (fun _ r hr => ?_) (fun hn => ?_))
    · simp only [tTup_tuple, tCons_cons, tInt_int, tBool_bool, tNil_nil]
      refine ifT_neg rfl ?_
      rw [addOff_ptr, ld1_fld (W.get 1 _ ro rfl rfl) rfl, W.len (i := 2) rfl, hix, addOff_lptr]
      simp only [List.drop_zero, ld1_lptr]
      rw [ha.len]
      refine rg_of (by omega) (by simp only [List.length_cons]; omega) ?_
      by_cases hbig : 512 < 1 + tot (ms.take (i + 1))
      · refine ifT_pos (by simp only [List.length_cons]; exact decide_eq_true (by omega)) (fail_ok (W.old _ _ ht) (fun q o hq => ⟨(hsub q o hq).1, W.old _ _ (hsub q o hq).2⟩) (bad fun F => ?_))
        have := F.max
        omega
      · refine ifT_neg (by simp only [List.length_cons]; exact decide_eq_false (by omega)) (s22l6_in (atoms.length + 1) ?_)
        refine glue19_l6 SL hM hA hAl hi Wi hr ht hsub (fun hno => bad fun F => hno (root_fits hi Wi hr F)) W (by simp only [List.length_cons]; omega) (by omega) (by rw [List.length_map, gPl_len, List.length_take]; omega) (by rw [List.length_map, gRts_len, List.length_take]; omega)
          (fun hall pl' vU' vV' x' RW VW h' hRW hVW W' => ?_) _ 0 (by omega) (by simp)
        have hlen : (AVal.nilsl :: R).length = 1 + tot (ms.take i) := by simp only [List.length_cons]; omega
        rw [hlen] at hRW W'
        have hroot : rootOf ms[i] = r := IsRoot.unique Wi (rootOf_is hr) hr
        refine s22l4_go ?_
        refine glue19_l4 SL hM hA hSB hAl H hF ht hsub bad good d (i + 1) (by omega) ?_ (by omega) pl' vU' vV' x' (R ++ RW) (LV ++ VW) h' ?_ ?_ ?_
        · intro m hm
          rw [take_snoc hi, List.mem_append] at hm
          rcases hm with hm | hm
          · exact hE m hm
          · rw [List.mem_singleton.1 hm]
            exact ⟨r, hr, hall⟩
        · rw [take_snoc hi, gRows_snoc]
          exact hR.append hRW
        · rw [take_snoc hi]
          show All2 Strs (LV ++ VW) (atoms :: gVals (ms.take i ++ [ms[i]]))
          rw [gVals_snoc]
          exact All2.append (m := atoms :: gVals (ms.take i)) hV hVW
        · rw [take_snoc hi, gPl_snoc, gRts_snoc, hroot, List.map_append, List.map_append]
          have e : ((1 + tot (ms.take i) : Nat) : Int) + (r : Int) = ((1 + tot (ms.take i) + r : Nat) : Int) := by omega
          rw [e] at W'
          exact W'
    · simp only [tTup_tuple, tCons_cons, tInt_int, tBool_bool, tNil_nil]
      refine ifT_pos rfl (ifT_pos rfl (fail_ok (W.old _ _ ht) (fun q o hq => ⟨(hsub q o hq).1, W.old _ _ (hsub q o hq).2⟩) (bad fun F => ?_)))
      obtain ⟨r', h1, _⟩ := F.each _ (List.getElem_mem hi)
      exact hn Wi r' h1

theorem glue19_l2 (hA : Strs va atoms) (hSB : SB atoms) (ht : hb rt = some (.row 2 [.agg [.nilsl, .nilsl]])) (hsub : ∀ q o, h0 q = some o → q ≠ rt ∧ hb q = some o) (bad : ¬ fineB atoms = true → K (.tuple [.agg [.nilsl, .nilsl], .nilsl, .int .i64 190]) h0)
    (next : fineB atoms = true → ∀ r1 r2 r3, hb r1 = none → (hb.set r1 (.row 1 [.nilsl])) r2 = none → ((hb.set r1 (.row 1 [.nilsl])).set r2 (.row 1 [va])) r3 = none →
      s22l4_E (s22l4 K) l va (.ptr rt 0 0) (.ptr r3 0 0) .nilsl .nilsl 0 (((hb.set r1 (.row 1 [.nilsl])).set r2 (.row 1 [va])).set r3 (.row 2 [.agg [.sl r1 1 0 1, .sl r2 1 0 1]]))) :
    ∀ d i : Nat, i + d = atoms.length → (List.range' 0 i).all (fine1 atoms) = true → s22l2 K (d + 1) l va (.ptr rt 0 0) (i : Int) hb
  | 0, i, hd, hk => by
    unfold s22l2
    rw [hA.len]
    refine ifT_neg (by simp; omega) (newRow_in fun r1 h1 => chk_iff.2 ⟨hA.notAgg.2, newRow_in fun r2 h2 => newRow_in fun r3 h3 => st_all (Heap.set_same _ _ _) rfl ?_⟩)
    rw [Heap.set_set]
    obtain rfl : i = atoms.length := by omega
    exact next hk r1 r2 r3 h1 h2 h3
  | d + 1, i, hd, hk => by
    have hi : i < atoms.length := by omega
    have hl := hSB.1
    unfold s22l2
    rw [hA.len]
    refine ifT_pos (by simp; omega) ?_
    rw [hA.ix hi, ld1_lptr, tStr_str]
    refine callG_of (word3_ok _ ?_)
    rw [tBool_bool]
    have rest : fine1 atoms i = true → s22c3 K (s22l2_G (s22l2 K (d + 1))) l va (.ptr rt 0 0) i false hb := by
      intro hg
      refine ifT_neg rfl (rg_of (by omega) (by omega) (s22l2_go (glue19_l2 hA hSB ht hsub bad next d (i + 1) (by omega) ?_)))
      rw [List.range'_concat, List.all_append, hk]
      simpa using hg
    have stop : fine1 atoms i = false → s22c3 K (s22l2_G (s22l2 K (d + 1))) l va (.ptr rt 0 0) i true hb := by
      intro hg
      refine ifT_pos rfl (fail_ok ht hsub (bad fun hf => ?_))
      unfold fineB at hf
      have := List.all_eq_true.1 hf i (by simp; omega)
      rw [hg] at this
      cases this
    unfold fine1 at rest stop
    rw [getD_of hi] at rest stop
    cases hw : wordB atoms[i] with
    | false => exact ifT_pos rfl (stop (by rw [hw]; rfl))
    | true =>
      rw [hw, Bool.true_and] at rest stop
      refine ifT_neg rfl ?_
      by_cases h0 : 0 < i
      · refine ifT_pos (by simp; omega) (rg_of (by omega) (by omega) ?_)
        have hi1 : i - 1 < atoms.length := by omega
        rw [show (i : Int) - 1 = ((i - 1 : Nat) : Int) by omega, hA.ix hi1, ld1_lptr, tStr_str, hA.ix hi, ld1_lptr, tStr_str]
        rw [getD_of hi1, show (i == 0) = false by simp; omega, Bool.false_or] at rest stop
        cases hs : strLt atoms[i - 1] atoms[i] with
        | true => exact rest hs
        | false => exact stop hs
      · obtain rfl : i = 0 := by omega
        exact ifT_neg (by simp) (rest (by simp))

theorem glue19_l1 (SL : SmallL ms) (hM : Models l ms) (ht : hb rt = some (.row 2 [.agg [.nilsl, .nilsl]])) (hsub : ∀ q o, h0 q = some o → q ≠ rt ∧ hb q = some o) (bad : ¬ AllWF ms → K (.tuple [.agg [.nilsl, .nilsl], .nilsl, .int .i64 170]) h0)
    (next : AllWF ms → s22l2_E (s22l2 K) l va (.ptr rt 0 0) 0 hb) :
    ∀ d i : Nat, i + d = ms.length → (∀ m ∈ ms.take i, WF m.1 m.2) → s22l1 K (d + 1) l va (.ptr rt 0 0) (i : Int) hb
  | 0, i, hd, hk => by
    unfold s22l1
    rw [hM.len]
    rw [List.take_of_length_le (by omega)] at hk
    exact ifT_neg (by simp; omega) (next hk)
  | d + 1, i, hd, hk => by
    have hi : i < ms.length := by omega
    have hl := SL.len
    obtain ⟨a, b, ha, hbv, hix⟩ := hM.ix hi
    unfold s22l1
    rw [hM.len]
    refine ifT_pos (by simp; omega) ?_
    rw [hix, ldN_agg2]
    simp only [tCons_cons, tNil_nil]
    refine callG_of (check17_ok (SL.each _ (List.getElem_mem hi)) ha hbv (fun hW => ?_) (fun hW => ?_))
    · rw [tInt_int]
      exact ifT_pos rfl (fail_ok ht hsub (bad fun H => hW (H _ (List.getElem_mem hi))))
    · rw [tInt_int]
      refine ifT_neg rfl (rg_of (by omega) (by omega) (s22l1_go (glue19_l1 SL hM ht hsub bad next d (i + 1) (by omega) fun m hm => ?_)))
      rw [take_snoc hi, List.mem_append] at hm
      rcases hm with hm | hm
      · exact hk m hm
      · rw [List.mem_singleton.1 hm]
        exact hW

theorem glue19_ok (SL : SmallL ms) (hM : Models l ms) (hA : Strs va atoms) (hSB : SB atoms) (hAl : atoms.length ≤ 1048576) (bad1 : ¬ AllWF ms → K (.tuple [.agg [.nilsl, .nilsl], .nilsl, .int .i64 170]) h0)
    (bad2 : AllWF ms → ¬ (fineB atoms = true ∧ Fits atoms ms) → K (.tuple [.agg [.nilsl, .nilsl], .nilsl, .int .i64 190]) h0)
    (good : AllWF ms → fineB atoms = true → Fits atoms ms → ∀ vU vV pl, Intss vU (tidyUp (upD ms)) → Strss vV (valG atoms ms) → Ints pl (gPl 1 ms) → K (.tuple [.agg [vU, vV], pl, .int .i64 0]) h0) :
    ACalls prog 22 [l, va] h0 K := by
  refine s22_ok ?_
  unfold s22
  refine newRow_in fun rt hrt => ?_
  have ht := Heap.set_same h0 rt (.row 2 [.agg [.nilsl, .nilsl]])
  have hsub : ∀ q o, h0 q = some o → q ≠ rt ∧ (h0.set rt (.row 2 [.agg [.nilsl, .nilsl]])) q = some o := fun q o hq => ⟨(fun e => by rw [e, hrt] at hq; cases hq), Heap.set_sub hrt q o hq⟩
  refine s22l1_in (ms.length + 1) (glue19_l1 SL hM ht hsub bad1 (fun H => ?_) ms.length 0 (by omega) (by simp))
  refine s22l2_in (atoms.length + 1) (glue19_l2 hA hSB ht hsub (fun hf => bad2 H fun e => hf e.1) (fun hF r1 r2 r3 h1 h2 h3 => ?_) atoms.length 0 (by omega) rfl)
  refine s22l4_in (ms.length + 1) (glue19_l4 SL hM hA hSB hAl H hF ht hsub (fun hf => bad2 H fun e => hf e.2) (good H hF) ms.length 0 (by omega) (by simp) (by simp [tot]) .nilsl (.sl r1 1 0 1) (.sl r2 1 0 1) .nilsl [] [va] _ .nil (.cons hA .nil) ?_)
  exact Own.renum5 (((((Own.start _).newN 1).newS h1 [.nilsl]).newS h2 [va]).newC h3 (.row 2 [.agg [.sl r1 1 0 1, .sl r2 1 0 1]]) |>.newN 1)
end Go.Proofs.Ytinficcdpggiaaa

namespace Go.Proofs.Ytinficcdpggiaaa
open Go Go.Sym Go.Proofs.Try

variable {K : AVal → Heap → Prop} {ms : List Mdl} {atoms : List ByteArray} {l va : AVal} {h0 hb : Heap} {rt ro : Nat}

def rgL (c : Nat) : List AVal := (natI (List.range' 1 c)).map (.int .i64)
theorem rgL_len (c : Nat) : (rgL c).length = c := by simp [rgL, natI]
theorem rgL_succ (c : Nat) : rgL (c + 1) = rgL c ++ [.int .i64 ((1 + c : Nat) : Int)] := by
  simp [rgL, natI, List.range'_concat]

theorem glueM_l8 {m : Mdl} {a b e t4 pl vU vV : AVal} {LP R LV : List AVal} (hbv : Strss b m.2) (Wi : WF m.1 m.2) (Si : Small m.1 m.2) {w : Nat} (hw : w < m.1.length) (he : Ints e m.1[w]) {first c : Nat} (hfc : first = 1 + c) (hf : first ≤ 512) (hR : R.length ≤ 2048) (hLV : LV.length ≤ 2048)
    {x : AVal} {L6 : AVal → AVal → AVal → AVal → Int → Int → Heap → Prop} {N i n : Int} {F : AVal → AVal → AVal → AVal → Int → AVal → Int → Int → AVal → Int → Int → Heap → Prop}
    (next : ∀ vU' vV' x' row' cp h', Ints row' (m.1[w].map fun b => (first : Int) + b) → Strs cp (m.2[w]'(by rw [Wi.len]; exact hw)) → OS hb pl LP ro vU' vV' vU' (x' :: (R ++ [row'])) vV' (LV ++ [cp]) x' (rgL (c + (w + 1))) h' →
      F t4 (.ptr ro 0 0) pl (.lptr [a, b]) (first : Int) l N i a n ((w + 1 : Nat) : Int) h') :
    ∀ d k : Nat, k + d = m.1[w].length → ∀ row h, Own hb [.slc 1 pl LP, .cell ro (.row 2 [.agg [vU, vV]]), .slc 1 vU (x :: R), .slc 1 vV LV, .slc 1 x (rgL (c + w)), .slc 1 row (((m.1[w].take k).map fun b => (first : Int) + b).map (.int .i64))] h →
      s21l8 K L6 (s21l7_G F) (d + 1) t4 (.ptr ro 0 0) pl (.lptr [a, b]) (first : Int) (w : Int) row l N i a n (w : Int) e (m.1[w].length : Int) (k : Int) h
  | 0, k, hd, row, h, W => by
    have hmax := Wi.max
    obtain ⟨cc, hc, hic⟩ := hbv.ix (show w < m.2.length by rw [Wi.len]; exact hw)
    unfold s21l8
    refine ifT_neg (by simp; omega) ?_
    rw [addOff_ptr, ld1_fld (W.get 1 _ ro rfl rfl) rfl, addOff_ptr, ld1_fld (W.get 1 _ ro rfl rfl) rfl]
    rcases W.fit 2 _ rfl with ⟨_, e1⟩ | ⟨rU, e1⟩
    · cases e1
    obtain rfl := e1
    have hx := (W.sc (i := 4) rfl).2.2
    refine ixS_sl (Int.le_refl 0) (by simp) ?_
    rw [ld1_ptr (W.get 2 _ rU rfl rfl) rfl hx]
    refine rg_of (by omega) (by omega) ⟨?_, ?_, ?_, W.app (i := 4) rfl (by rw [rgL_len]; omega) (by rw [rgL_len]; omega) fun v2 h2 W2 => ⟨?_, ?_⟩⟩
    · rw [ld1_ptr (W.get 2 _ rU rfl rfl) rfl hx]
    · rw [ld1_fld (W.get 1 _ ro rfl rfl) rfl]
    · rw [ld1_fld (W.get 1 _ ro rfl rfl) rfl]
    · rw [ld1_fld (W2.get 1 _ ro rfl rfl) rfl]
    refine ixS_sl (Int.le_refl 0) (by simp) (chk_iff.2 ⟨(W2.sc (i := 4) rfl).1, st_elem (W2.get 2 _ rU rfl rfl) rfl hx ?_⟩)
    have W3 := W2.putS (i := 2) rfl (l' := v2 :: R) rfl
    show addOff (.ptr ro 0 0) 0 _
    rw [addOff_ptr]
    show ld1 (h2.set rU (.row 1 (v2 :: R))) _ _
    rw [ld1_fld (W3.get 1 _ ro rfl rfl) rfl]
    refine chk_iff.2 ⟨(W3.sc (i := 5) rfl).1, W3.app (i := 2) rfl (by simp; omega) (by simp; omega) fun v4 h4 W4 => ?_⟩
    refine chk_iff.2 ⟨(W4.sc (i := 2) rfl).1, st_fst (W4.get 1 _ ro rfl rfl) ?_⟩
    have W5 := W4.put (i := 1) rfl (.row 2 [.agg [v4, vV]])
    rw [addOff_ptr, ld1_fld (W5.get 1 _ ro rfl rfl) rfl, addOff_lptr]
    simp only [List.drop_succ_cons, List.drop_zero, ld1_lptr]
    rw [hic, ld1_lptr]
    refine callG_of (cloneS_ok hc ((Si.names _ (List.getElem_mem _)).1.1) fun cp hcp => ⟨by rw [ld1_fld (W5.get 1 _ ro rfl rfl) rfl], chk_iff.2 ⟨hcp.notAgg.2, ⟨by rw [ld1_fld (W5.get 1 _ ro rfl rfl) rfl], W5.app (i := 3) rfl (by omega) (by omega) fun v6 h6 W6 => ?_⟩⟩⟩)
    refine chk_iff.2 ⟨(W6.sc (i := 3) rfl).1, st_snd (W6.get 1 _ ro rfl rfl) (rg_of (by omega) (by omega) ?_)⟩
    have W7 : Own hb ([.slc 1 pl LP, .cell ro (.row 2 [.agg [v4, v6]]), .slc 1 v4 ((v2 :: R) ++ [row]), .slc 1 v6 (LV ++ [cp]), .slc 1 v2 (rgL (c + w) ++ [.int .i64 ((first : Int) + (w : Int))])] ++ [.slc 1 row (((m.1[w].take k).map fun b => (first : Int) + b).map (.int .i64))]) _ := W6.put (i := 1) rfl (.row 2 [.agg [v4, v6]])
    obtain ⟨S, h', row', s1, g, W8⟩ := W7.settleL (i := 2) rfl
    rw [List.take_of_length_le (by omega)] at s1
    refine ⟨S, _, h', Lits.refl _, g, rfl, next v4 v6 v2 row' cp h' s1 hcp ?_⟩
    rw [show c + (w + 1) = (c + w) + 1 by omega, rgL_succ, show ((1 + (c + w) : Nat) : Int) = (first : Int) + (w : Int) by omega]
    exact W8
  | d + 1, k, hd, row, h, W => by
    have hr := Si.row _ (List.getElem_mem hw)
    have hk : k < m.1[w].length := by omega
    have hin := Wi.inR _ (List.getElem_mem hw) _ (List.getElem_mem hk)
    have hmax := Wi.max
    unfold s21l8
    refine ifT_pos (by simp; omega) ?_
    rw [he.ix hk, ld1_lptr, tInt_int]
    refine rg_of (by omega) (by omega) (W.app (i := 5) rfl (by simp; omega) (by simp; omega) fun v2 h2 W2 => rg_of (by omega) (by omega) (s21l8_go ?_))
    refine glueM_l8 (vU := vU) (vV := vV) (x := x) hbv Wi Si hw he hfc hf hR hLV next d (k + 1) (by omega) v2 h2 ?_
    rw [List.take_succ_eq_append_getElem hk, List.map_append, List.map_append]
    exact W2

theorem glueM_l7 {m : Mdl} {a b t4 pl : AVal} {LP R LV : List AVal} (ha : Intss a m.1) (hbv : Strss b m.2) (Wi : WF m.1 m.2) (Si : Small m.1 m.2) {first c : Nat} (hfc : first = 1 + c) (hf : first ≤ 512) (hR : R.length ≤ 1024) (hLV : LV.length ≤ 1024)
    {L6 : AVal → AVal → AVal → AVal → Int → Int → Heap → Prop} {N : Int} {i : Nat} (hi : i ≤ 1048576)
    (next : ∀ vU vV x RW VW h, All2 Ints RW (shift first m.1) → All2 Strs VW m.2 → OS hb pl LP ro vU vV vU (x :: (R ++ RW)) vV (LV ++ VW) x (rgL (c + m.1.length)) h → L6 t4 (.ptr ro 0 0) pl l N ((i : Int) + 1) h) :
    ∀ d w : Nat, w + d = m.1.length → ∀ vU vV x RW VW h, All2 Ints RW ((shift first m.1).take w) → All2 Strs VW (m.2.take w) → OS hb pl LP ro vU vV vU (x :: (R ++ RW)) vV (LV ++ VW) x (rgL (c + w)) h →
      s21l7 K L6 (d + 1) t4 (.ptr ro 0 0) pl (.lptr [a, b]) (first : Int) l N (i : Int) a (m.1.length : Int) (w : Int) h
  | 0, w, hd, vU, vV, x, RW, VW, h, hRW, hVW, W => by
    unfold s21l7
    rw [List.take_of_length_le (by rw [shift_len]; omega)] at hRW
    rw [List.take_of_length_le (by rw [Wi.len]; omega)] at hVW
    obtain rfl : w = m.1.length := by omega
    exact ifT_neg (by simp) (rg_of (by omega) (by omega) (next vU vV x RW VW h hRW hVW W))
  | d + 1, w, hd, vU, vV, x, RW, VW, h, hRW, hVW, W => by
    have hw : w < m.1.length := by omega
    have hmax := Wi.max
    obtain ⟨e, he, hie⟩ := ha.ix hw
    have hRl := hRW.length
    have hVl := hVW.length
    simp only [List.length_take, shift_len] at hRl
    simp only [List.length_take, Wi.len] at hVl
    unfold s21l7
    refine ifT_pos (by simp; omega) ?_
    rw [hie, ld1_lptr, he.len]
    refine s21l8_in (m.1[w].length + 1) ?_
    refine glueM_l8 (R := R ++ RW) (LV := LV ++ VW) hbv Wi Si hw he hfc hf (by simp; omega) (by simp; omega) (fun vU' vV' x' row' cp h' hr hc W' => ?_) _ 0 (by omega) .nilsl h (W.newN 1)
    refine glueM_l7 ha hbv Wi Si hfc hf hR hLV hi next d (w + 1) (by omega) vU' vV' x' (RW ++ [row']) (VW ++ [cp]) h' ?_ ?_ ?_
    · rw [List.take_succ_eq_append_getElem (by rw [shift_len]; exact hw)]
      refine hRW.append (.cons ?_ .nil)
      simpa [shift] using hr
    · rw [List.take_succ_eq_append_getElem (by rw [Wi.len]; exact hw)]
      exact hVW.append (.cons hc .nil)
    · rw [← List.append_assoc, ← List.append_assoc]
      exact W'
end Go.Proofs.Ytinficcdpggiaaa

namespace Go.Proofs.Ytinficcdpggiaaa
open Go Go.Sym Go.Proofs.Try

variable {K : AVal → Heap → Prop} {ms : List Mdl} {atoms : List ByteArray} {l va : AVal} {h0 hb : Heap} {rt ro : Nat}

theorem freezeC {hb h : Heap} {os : List Ow} {q es : Nat} {cs : List AVal} (W : Own hb (os ++ [.cell q (.row es [.agg cs])]) h) :
    ∃ h', Go.Sym.GStep h h' (fun n => n = q) ∧ Own hb os h' ∧ Go.Sym.Lit h (fun n => n = q) (.ptr q 0 0) (.lptr cs) := by
  have hl : (os ++ [Ow.cell q (.row es [.agg cs])])[os.length]? = some (.cell q (.row es [.agg cs])) := by simp
  obtain ⟨h', g, W'⟩ := W.step (fun n => n = q) os (fun n hn => W.new _ _ n hl hn) (fun j y hj => by
    have hj2 := (List.getElem?_eq_some_iff.1 hj).1
    have hj' : (os ++ [Ow.cell q (.row es [.agg cs])])[j]? = some y := by rw [List.getElem?_append_left hj2]; exact hj
    exact ⟨y, hj', W.fit _ _ hj', fun n hn => ⟨hn, fun hm => by
      have := W.one j os.length y _ n hj' hl hn hm
      omega⟩, .refl _⟩)
  exact ⟨h', g, W', .ptr rfl (W.get _ _ q hl rfl) rfl (Lits.refl _)⟩

theorem glueM_l6 (SL : SmallL ms) (hM : Models l ms) (hSB : SB atoms) (hAl : atoms.length ≤ 1048576) (H : AllWF ms) (F : Fits atoms ms) (hF : fineB atoms = true)
    (ht : hb rt = some (.row 2 [.agg [.nilsl, .nilsl]])) (hsub : ∀ q o, h0 q = some o → q ≠ rt ∧ hb q = some o)
    (good : ∀ vU vV pl, Intss vU (tidyUp (upP ms)) → Strss vV (valG atoms ms) → Ints pl (gPl 1 ms) → K (.tuple [.agg [vU, vV], pl, .int .i64 0]) h0) :
    ∀ d i : Nat, i + d = ms.length → ∀ pl vU vV x R LV h, All2 Ints R (gRows 1 (ms.take i)) → All2 Strs LV (valG atoms (ms.take i)) →
      OS hb pl ((gPl 1 (ms.take i)).map (.int .i64)) ro vU vV vU (x :: R) vV LV x (rgL (tot (ms.take i))) h → s21l6 K (d + 1) (.ptr rt 0 0) (.ptr ro 0 0) pl l (ms.length : Int) (i : Int) h
  | 0, i, hd, pl, vU, vV, x, R, LV, h, hR, hV, W => by
    rw [List.take_of_length_le (by omega)] at hR hV W
    have hmax := F.max
    unfold s21l6
    refine ifT_neg (by simp; omega) ?_
    rw [ldN2 (W.get 1 _ ro rfl rfl), tCons_cons, tCons_cons, tNil_nil]
    obtain ⟨S, vU', vV', h', hl, g, W3, hU', hV'⟩ := OS.freeze W rfl hR hV
    have hgl : (natI (List.range' 1 (tot ms))).length ≤ 1048576 := by simp [natI]; omega
    refine ⟨S, _, h', hl, g, tidied_ok (up := upP ms) (val := valG atoms ms) (small_glue SL H F hSB hAl hgl) hU' hV' (wf_glue H F hF (p0 ms)) fun a b ha hbv => ?_⟩
    simp only [tAgg_agg, tCons_cons, tNil_nil]
    exact glue_ret W3 ht hsub (fun pl' hp => good a b pl' ha hbv hp)
  | d + 1, i, hd, pl, vU, vV, x, R, LV, h, hR, hV, W => by
    have hi : i < ms.length := by omega
    have Si := SL.each _ (List.getElem_mem hi)
    have Wi := H _ (List.getElem_mem hi)
    have hRl := hR.length
    have hVl := hV.length
    rw [gRows_len] at hRl
    have hVl2 : LV.length = 1 + tot (ms.take i) := by
      rw [hVl]; simp [valG, gVals_len _ (fun m hm => (H m (List.mem_of_mem_take hm)).len)]; omega
    obtain ⟨a, b, ha, hbv, hix⟩ := hM.ix hi
    have hst := tot_step hi
    have hle := tot_take ms (i + 1)
    have hmsl := SL.len
    have hmax := F.max
    unfold s21l6
    refine ifT_pos (by simp; omega) ?_
    rw [hix, ldN_agg2]
    simp only [tCons_cons, tNil_nil]
    refine newRow_in fun r7 hr7 => st_all (Heap.set_same _ _ _) rfl ?_
    have W1 := (W.newC hr7 (.row 2 [.agg [.nilsl, .nilsl]])).put (i := 5) rfl (.row 2 [.agg [a, b]])
    rw [addOff_ptr, ld1_fld (W1.get 1 _ ro rfl rfl) rfl, W.len (i := 2) rfl]
    refine W1.app (i := 0) rfl (by rw [List.length_map, gPl_len, List.length_take]; omega) (by rw [List.length_map, gPl_len, List.length_take]; omega) fun p2 h2 W2 => ?_
    rw [ld1_fld (W2.get 5 _ r7 rfl rfl) rfl, ha.len]
    have W3 : Own hb ([.slc 1 p2 ((gPl 1 (ms.take i)).map (.int .i64) ++ [.int .i64 (((x :: R).length : Nat) : Int)]), .cell ro (.row 2 [.agg [vU, vV]]), .slc 1 vU (x :: R), .slc 1 vV LV, .slc 1 x (rgL (tot (ms.take i)))] ++ [.cell r7 (.row 2 [.agg [a, b]])]) h2 := W2
    obtain ⟨h3, g3, W4, lit⟩ := freezeC W3
    have hlen : (x :: R).length = 1 + tot (ms.take i) := by simp only [List.length_cons]; omega
    refine ⟨_, [.ptr rt 0 0, .ptr ro 0 0, p2, .lptr [a, b], .int .i64 (((x :: R).length : Nat) : Int), l, .int .i64 (ms.length : Int), .int .i64 (i : Int), a, .int .i64 (ms[i].1.length : Int), .int .i64 0], h3, .cons (.refl _) (.cons (.refl _) (.cons (.refl _) (.cons lit (Lits.refl _)))), g3, rfl, ms[i].1.length + 1, ?_⟩
    refine glueM_l7 (hb := hb) (LP := (gPl 1 (ms.take i)).map (.int .i64) ++ [.int .i64 (((x :: R).length : Nat) : Int)]) (first := (x :: R).length) (c := tot (ms.take i)) (R := R) (LV := LV) ha hbv Wi Si hlen (by omega) (by omega) (by omega) (by omega) (fun vU' vV' x' RW VW h' hRW hVW W' => ?_) _ 0 (by omega) vU vV x [] [] h3 .nil .nil ?_
    · rw [hlen] at hRW W'
      refine s21l6_go ?_
      refine glueM_l6 SL hM hSB hAl H F hF ht hsub good d (i + 1) (by omega) p2 vU' vV' x' (R ++ RW) (LV ++ VW) h' ?_ ?_ ?_
      · rw [take_snoc hi, gRows_snoc]
        exact hR.append hRW
      · rw [take_snoc hi]
        show All2 Strs (LV ++ VW) (atoms :: gVals (ms.take i ++ [ms[i]]))
        rw [gVals_snoc]
        exact All2.append (m := atoms :: gVals (ms.take i)) hV hVW
      · rw [take_snoc hi, gPl_snoc, tot_snoc, List.map_append]
        exact W'
    · rw [List.append_nil, List.append_nil]
      exact W4

/-- a name lacks at the root -/
theorem lacksG_call {m : Mdl} {a b : AVal} (hV : Strss b m.2) (S : Small m.1 m.2) {r : Nat} (hr : r < m.2.length) {r2 r3 : Nat} {h : Heap} (h2 : h r2 = some (.row 2 [.agg [a, b]])) (h3 : h r3 = some (.row 1 [.int .i64 (r : Int)])) (s : ByteArray) (K : AVal → Heap → Prop)
    (hk : K (.bool (!inS m.2[r] s)) h) : callV prog (.func (.func 45) [] [.ptr r2 0 0, .ptr r3 0 0]) [.str s] h K := by
  show callG prog 45 ([] ++ [.str s] ++ [.ptr r2 0 0, .ptr r3 0 0]) h K
  refine callG_of (s45_ok ?_)
  unfold s45
  obtain ⟨eb, heb, hix⟩ := hV.ix hr
  rw [addOff_ptr, ld1_fld h2 rfl, ld1_one h3 rfl, tInt_int, hix, ld1_lptr]
  refine callG_of (containsS_ok heb ((S.names _ (List.getElem_mem hr)).1).1 ?_)
  rw [tBool_bool]
  exact retG_of hk

theorem glueM_l4 (SL : SmallL ms) (hM : Models l ms) (hA : Strs va atoms) (hSB : SB atoms) (H : AllWF ms)
    (ht : hb rt = some (.row 2 [.agg [.nilsl, .nilsl]])) (hsub : ∀ q o, h0 q = some o → q ≠ rt ∧ hb q = some o) (bad : ¬ Fits atoms ms → K (.tuple [.agg [.nilsl, .nilsl], .nilsl, .int .i64 190]) h0)
    (next : Fits atoms ms → ∀ vc, Strs vc atoms → ∀ r1 r2 r3, hb r1 = none → (hb.set r1 (.row 1 [.nilsl])) r2 = none → ((hb.set r1 (.row 1 [.nilsl])).set r2 (.row 1 [vc])) r3 = none →
      s21l6_E (s21l6 K) (.ptr rt 0 0) (.ptr r3 0 0) .nilsl l (ms.length : Int) 0 (((hb.set r1 (.row 1 [.nilsl])).set r2 (.row 1 [vc])).set r3 (.row 2 [.agg [.sl r1 1 0 1, .sl r2 1 0 1]]))) :
    ∀ d i : Nat, i + d = ms.length → (∀ m ∈ ms.take i, FitM atoms m) → 1 + tot (ms.take i) ≤ 512 → s21l4 K (d + 1) l va (.ptr rt 0 0) ((1 + tot (ms.take i) : Nat) : Int) l (ms.length : Int) (i : Int) hb
  | 0, i, hd, hE, hT => by
    have hi : i = ms.length := by omega
    rw [List.take_of_length_le (by omega)] at hE hT
    unfold s21l4
    refine ifT_neg (by simp; omega) (newRow_in fun r1 h1 => callG_of (cloneS_ok hA hSB.1 fun vc hvc => chk_iff.2 ⟨hvc.notAgg.2, newRow_in fun r2 h2 => newRow_in fun r3 h3 => st_all (Heap.set_same _ _ _) rfl ?_⟩))
    rw [Heap.set_set, hM.len]
    exact next ⟨hE, hT⟩ vc hvc r1 r2 r3 h1 h2 h3
  | d + 1, i, hd, hE, hT => by
    have hi : i < ms.length := by omega
    have Si := SL.each _ (List.getElem_mem hi)
    have Wi := H _ (List.getElem_mem hi)
    obtain ⟨a, b, ha, hbv, hix⟩ := hM.ix hi
    have hst := tot_step hi
    have hle := tot_take ms (i + 1)
    have hmsl := SL.len
    have hmax := Wi.max
    unfold s21l4
    refine ifT_pos (by simp; omega) ?_
    rw [hix, ldN_agg2]
    simp only [tCons_cons, tNil_nil]
    refine newRow_in fun r2 hr2 => st_all (Heap.set_same _ _ _) rfl ?_
    rw [Heap.set_set, ldN2 (Heap.set_same _ _ _), tCons_cons, tCons_cons, tNil_nil]
    have sub2 : ∀ q o, hb q = some o → (hb.set r2 (.row 2 [.agg [a, b]])) q = some o := Heap.set_sub hr2
    have fin : ∀ (r : Int) (t : Bool) (h : Heap), (∀ q o, hb q = some o → h q = some o) → h r2 = some (.row 2 [.agg [a, b]]) → (t = true → ¬ Fits atoms ms) → (t = false → FitM atoms ms[i]) →
        s21c5 K (s21l4_G (s21l4 K (d + 1))) l va (.ptr rt 0 0) ((1 + tot (ms.take i) : Nat) : Int) (.ptr r2 0 0) l (ms.length : Int) (i : Int) t h := by
      intro r t h hh h2 hy hn
      cases t with
      | true => exact ifT_pos rfl (fail_ok (hh _ _ ht) (fun q o hq => ⟨(hsub q o hq).1, hh _ _ (hsub q o hq).2⟩) (bad (hy rfl)))
      | false =>
        refine ifT_neg rfl ?_
        rw [addOff_ptr, ld1_fld h2 rfl, ha.len]
        refine rg_of (by omega) (by omega) ?_
        by_cases hbig : 512 < 1 + tot (ms.take (i + 1))
        · refine ifT_pos (decide_eq_true (by omega)) (fail_ok (hh _ _ ht) (fun q o hq => ⟨(hsub q o hq).1, hh _ _ (hsub q o hq).2⟩) (bad fun F => ?_))
          have := F.max
          omega
        · refine ifT_neg (decide_eq_false (by omega)) (rg_of (by omega) (by omega) ?_)
          refine ⟨fun _ => False, _, hb, Lits.refl _, GStep.drop hh, rfl, ?_⟩
          have ih := glueM_l4 SL hM hA hSB H ht hsub bad next d (i + 1) (by omega) (fun m hm => ?_) (by omega)
          · rw [hst, show ((1 + (tot (ms.take i) + ms[i].1.length) : Nat) : Int) = ((1 + tot (ms.take i) : Nat) : Int) + (ms[i].1.length : Int) by omega] at ih
            exact ih
          · rw [take_snoc hi, List.mem_append] at hm
            rcases hm with hm | hm
            · exact hE m hm
            · rw [List.mem_singleton.1 hm]
              exact hn rfl
    refine callG_of (root_ok Si ha hbv (fun _ r hr => ?_) (fun hn => ?_))
    · simp only [tTup_tuple, tCons_cons, tInt_int, tBool_bool, tNil_nil]
      refine newRow_in fun r3 hr3 => st_elem (Heap.set_same _ _ _) rfl rfl (ifT_neg rfl ?_)
      rw [Heap.set_set]
      have hne : r2 ≠ r3 := fun e => by rw [← e, Heap.set_same] at hr3; cases hr3
      have g2 : ((hb.set r2 (.row 2 [.agg [a, b]])).set r3 (.row 1 [.int .i64 (r : Int)])) r2 = some (.row 2 [.agg [a, b]]) := by rw [Heap.set_ne _ _ hne, Heap.set_same]
      have hrl : r < ms[i].2.length := by rw [Wi.len]; exact hr.1
      refine callG_of (containsFS_ok hA hSB.1 (p := fun s => !inS ms[i].2[r] s) (fun s _ K' hk' => lacksG_call hbv Si hrl g2 (Heap.set_same _ _ _) s K' hk') ?_)
      rw [tBool_bool]
      refine fin 0 _ _ (fun q o hq => Heap.set_sub hr3 q o (sub2 q o hq)) g2 (fun e F => ?_) (fun e => ?_)
      · obtain ⟨s, hs, e2⟩ := List.any_eq_true.1 e
        have := root_fits hi Wi hr F s hs
        rw [getD_val hrl] at this
        rw [inS_iff.2 this] at e2
        cases e2
      · refine ⟨r, hr, fun s hs => ?_⟩
        rw [getD_val hrl]
        have := List.any_eq_false.1 e s hs
        exact inS_iff.1 (by simpa using this)
    · simp only [tTup_tuple, tCons_cons, tInt_int, tBool_bool, tNil_nil]
      refine newRow_in fun r3 hr3 => st_elem (Heap.set_same _ _ _) rfl rfl (ifT_pos rfl ?_)
      rw [Heap.set_set]
      have hne : r2 ≠ r3 := fun e => by rw [← e, Heap.set_same] at hr3; cases hr3
      refine fin 0 true _ (fun q o hq => Heap.set_sub hr3 q o (sub2 q o hq)) (by rw [Heap.set_ne _ _ hne, Heap.set_same]) (fun _ F => ?_) (fun e => by cases e)
      obtain ⟨r', h1, _⟩ := F.each _ (List.getElem_mem hi)
      exact hn Wi r' h1

theorem glueM_l2 (hA : Strs va atoms) (hSB : SB atoms) (ht : hb rt = some (.row 2 [.agg [.nilsl, .nilsl]])) (hsub : ∀ q o, h0 q = some o → q ≠ rt ∧ hb q = some o) (bad : ¬ fineB atoms = true → K (.tuple [.agg [.nilsl, .nilsl], .nilsl, .int .i64 190]) h0)
    (hM : Models l ms) (next : fineB atoms = true → s21l4_E (s21l4 K) l va (.ptr rt 0 0) 1 l (ms.length : Int) 0 hb) :
    ∀ d i : Nat, i + d = atoms.length → (List.range' 0 i).all (fine1 atoms) = true → s21l2 K (d + 1) l va (.ptr rt 0 0) 1 va (atoms.length : Int) (i : Int) hb
  | 0, i, hd, hk => by
    unfold s21l2
    obtain rfl : i = atoms.length := by omega
    refine ifT_neg (by simp) ?_
    rw [hM.len]
    exact next hk
  | d + 1, i, hd, hk => by
    have hi : i < atoms.length := by omega
    have hl := hSB.1
    unfold s21l2
    refine ifT_pos (by simp; omega) ?_
    rw [hA.ix hi, ld1_lptr, tStr_str]
    refine callG_of (word_ok _ (hSB.2 _ (List.getElem_mem hi)) ?_)
    rw [tBool_bool]
    have rest : fine1 atoms i = true → s21c3 K (s21l2_G (s21l2 K (d + 1))) l va (.ptr rt 0 0) 1 va (atoms.length : Int) i false hb := by
      intro hg
      refine ifT_neg rfl (rg_of (by omega) (by omega) (s21l2_go (glueM_l2 hA hSB ht hsub bad hM next d (i + 1) (by omega) ?_)))
      rw [List.range'_concat, List.all_append, hk]
      simpa using hg
    have stop : fine1 atoms i = false → s21c3 K (s21l2_G (s21l2 K (d + 1))) l va (.ptr rt 0 0) 1 va (atoms.length : Int) i true hb := by
      intro hg
      refine ifT_pos rfl (fail_ok ht hsub (bad fun hf => ?_))
      unfold fineB at hf
      have := List.all_eq_true.1 hf i (by simp; omega)
      rw [hg] at this
      cases this
    unfold fine1 at rest stop
    rw [getD_of hi] at rest stop
    cases hw : wordB atoms[i] with
    | false => exact ifT_pos rfl (stop (by rw [hw]; rfl))
    | true =>
      rw [hw, Bool.true_and] at rest stop
      refine ifT_neg rfl ?_
      by_cases h0 : 0 < i
      · refine ifT_pos (by simp; omega) (rg_of (by omega) (by omega) ?_)
        have hi1 : i - 1 < atoms.length := by omega
        rw [show (i : Int) - 1 = ((i - 1 : Nat) : Int) by omega, hA.ix hi1, ld1_lptr, tStr_str]
        rw [getD_of hi1, show (i == 0) = false by simp; omega, Bool.false_or] at rest stop
        cases hs : strLt atoms[i - 1] atoms[i] with
        | true => exact rest hs
        | false => exact stop hs
      · obtain rfl : i = 0 := by omega
        exact ifT_neg (by simp) (rest (by simp))

theorem glueM_l1 (SL : SmallL ms) (hM : Models l ms) (hA : Strs va atoms) (ht : hb rt = some (.row 2 [.agg [.nilsl, .nilsl]])) (hsub : ∀ q o, h0 q = some o → q ≠ rt ∧ hb q = some o) (bad : ¬ AllWF ms → K (.tuple [.agg [.nilsl, .nilsl], .nilsl, .int .i64 170]) h0)
    (next : AllWF ms → s21l2_E (s21l2 K) l va (.ptr rt 0 0) 1 va (atoms.length : Int) 0 hb) :
    ∀ d i : Nat, i + d = ms.length → (∀ m ∈ ms.take i, WF m.1 m.2) → s21l1 K (d + 1) l va (.ptr rt 0 0) l (ms.length : Int) (i : Int) hb
  | 0, i, hd, hk => by
    unfold s21l1
    rw [List.take_of_length_le (by omega)] at hk
    refine ifT_neg (by simp; omega) ?_
    rw [hA.len]
    exact next hk
  | d + 1, i, hd, hk => by
    have hi : i < ms.length := by omega
    have hl := SL.len
    obtain ⟨a, b, ha, hbv, hix⟩ := hM.ix hi
    unfold s21l1
    refine ifT_pos (by simp; omega) ?_
    rw [hix, ldN_agg2]
    simp only [tCons_cons, tNil_nil]
    refine newRow_in fun r2 hr2 => st_all (Heap.set_same _ _ _) rfl ?_
    rw [Heap.set_set, ldN2 (Heap.set_same _ _ _), tCons_cons, tCons_cons, tNil_nil]
    refine callG_of (check_ok (SL.each _ (List.getElem_mem hi)) ha hbv (fun hW => ?_) (fun hW => ?_))
    · rw [tInt_int]
      exact ifT_pos rfl (fail_ok (Heap.set_sub hr2 _ _ ht) (fun q o hq => ⟨(hsub q o hq).1, Heap.set_sub hr2 _ _ (hsub q o hq).2⟩) (bad fun H => hW (H _ (List.getElem_mem hi))))
    · rw [tInt_int]
      refine ifT_neg rfl (rg_of (by omega) (by omega) ⟨fun _ => False, _, hb, Lits.refl _, GStep.drop (Heap.set_sub hr2), rfl, glueM_l1 SL hM hA ht hsub bad next d (i + 1) (by omega) fun m hm => ?_⟩)
      rw [take_snoc hi, List.mem_append] at hm
      rcases hm with hm | hm
      · exact hk m hm
      · rw [List.mem_singleton.1 hm]
        exact hW

theorem glueM_ok (SL : SmallL ms) (hM : Models l ms) (hA : Strs va atoms) (hSB : SB atoms) (hAl : atoms.length ≤ 1048576) (bad1 : ¬ AllWF ms → K (.tuple [.agg [.nilsl, .nilsl], .nilsl, .int .i64 170]) h0)
    (bad2 : AllWF ms → ¬ (fineB atoms = true ∧ Fits atoms ms) → K (.tuple [.agg [.nilsl, .nilsl], .nilsl, .int .i64 190]) h0)
    (good : AllWF ms → fineB atoms = true → Fits atoms ms → ∀ vU vV pl, Intss vU (tidyUp (upP ms)) → Strss vV (valG atoms ms) → Ints pl (gPl 1 ms) → K (.tuple [.agg [vU, vV], pl, .int .i64 0]) h0) :
    ACalls prog 21 [l, va] h0 K := by
  refine s21_ok ?_
  unfold s21
  refine newRow_in fun rt hrt => ?_
  rw [hM.len]
  have ht := Heap.set_same h0 rt (.row 2 [.agg [.nilsl, .nilsl]])
  have hsub : ∀ q o, h0 q = some o → q ≠ rt ∧ (h0.set rt (.row 2 [.agg [.nilsl, .nilsl]])) q = some o := fun q o hq => ⟨(fun e => by rw [e, hrt] at hq; cases hq), Heap.set_sub hrt q o hq⟩
  refine s21l1_in (ms.length + 1) (glueM_l1 SL hM hA ht hsub bad1 (fun H => ?_) ms.length 0 (by omega) (by simp))
  refine s21l2_in (atoms.length + 1) (glueM_l2 hA hSB ht hsub (fun hf => bad2 H fun e => hf e.1) hM (fun hF => ?_) atoms.length 0 (by omega) rfl)
  refine s21l4_in (ms.length + 1) (glueM_l4 SL hM hA hSB H ht hsub (fun hf => bad2 H fun e => hf e.2) (fun F vc hvc r1 r2 r3 h1 h2 h3 => ?_) ms.length 0 (by omega) (by simp) (by simp [tot]))
  refine s21l6_in (ms.length + 1) (glueM_l6 SL hM hSB hAl H F hF ht hsub (good H hF F) ms.length 0 (by omega) .nilsl (.sl r1 1 0 1) (.sl r2 1 0 1) .nilsl [] [vc] _ .nil (.cons hvc .nil) ?_)
  exact Own.renum5 (((((Own.start _).newN 1).newS h1 [.nilsl]).newS h2 [vc]).newC h3 (.row 2 [.agg [.sl r1 1 0 1, .sl r2 1 0 1]]) |>.newN 1)
end Go.Proofs.Ytinficcdpggiaaa

namespace Go.Proofs.Ytinficcdpggiaaa
open Go Go.Sym Go.Proofs.Try

variable {K : AVal → Heap → Prop} {ms : List Mdl} {atoms : List ByteArray} {l va : AVal} {h : Heap}

/-- what a Glue answers -/
inductive GRes (up : List (List Int)) (ms : List Mdl) (atoms : List ByteArray) : AVal → AVal → AVal → Int → Prop
  | bad1 (h1 : ¬ AllWF ms) : GRes up ms atoms .nilsl .nilsl .nilsl 170
  | bad2 (h1 : AllWF ms) (h2 : ¬ (fineB atoms = true ∧ Fits atoms ms)) : GRes up ms atoms .nilsl .nilsl .nilsl 190
  | good {vU vV pl : AVal} (h1 : AllWF ms) (h2 : fineB atoms = true) (h3 : Fits atoms ms) (hU : Intss vU (tidyUp up)) (hV : Strss vV (valG atoms ms)) (hP : Ints pl (gPl 1 ms)) : GRes up ms atoms vU vV pl 0
theorem glueM_res (SL : SmallL ms) (hM : Models l ms) (hA : Strs va atoms) (hSB : SB atoms) (hAl : atoms.length ≤ 1048576) (hk : ∀ vU vV pl e, GRes (upP ms) ms atoms vU vV pl e → K (.tuple [.agg [vU, vV], pl, .int .i64 e]) h) : ACalls prog 21 [l, va] h K :=
  glueM_ok SL hM hA hSB hAl (fun h1 => hk _ _ _ _ (.bad1 h1)) (fun h1 h2 => hk _ _ _ _ (.bad2 h1 h2)) (fun h1 h2 h3 vU vV pl hU hV hP => hk _ _ _ _ (.good h1 h2 h3 hU hV hP))
theorem glue19_res (SL : SmallL ms) (hM : Models l ms) (hA : Strs va atoms) (hSB : SB atoms) (hAl : atoms.length ≤ 1048576) (hk : ∀ vU vV pl e, GRes (upD ms) ms atoms vU vV pl e → K (.tuple [.agg [vU, vV], pl, .int .i64 e]) h) : ACalls prog 22 [l, va] h K :=
  glue19_ok SL hM hA hSB hAl (fun h1 => hk _ _ _ _ (.bad1 h1)) (fun h1 h2 => hk _ _ _ _ (.bad2 h1 h2)) (fun h1 h2 h3 vU vV pl hU hV hP => hk _ _ _ _ (.good h1 h2 h3 hU hV hP))
theorem small_nil : Small [] [] := ⟨by simp, by simp, by simp, by simp⟩
theorem small_tidy {up : List (List Int)} {val : List (List ByteArray)} (S : Small up val) : Small (tidyUp up) val where
  ups := by simp [tidyUp]; exact S.ups
  vals := S.vals
  row r hr := by
    simp only [tidyUp, List.mem_map] at hr
    obtain ⟨a, _, rfl⟩ := hr
    have h1 : (tidyRow up a).length ≤ (List.range up.length).length := List.length_filter_le _ _
    have := S.ups
    simp only [natI, List.length_map]
    simp only [List.length_range] at h1
    omega
  names := S.names
theorem told_res (SL : SmallL ms) (hSB : SB atoms) (hAl : atoms.length ≤ 1048576) {a b p a' b' p' : AVal} {e e' : Int} (R : GRes (upP ms) ms atoms a b p e) (R' : GRes (upD ms) ms atoms a' b' p' e') (hk : K (.bool true) h) :
    ACalls prog 11 [.agg [a, b], p, .int .i64 e, .agg [a', b'], p', .int .i64 e'] h K := by
  have nU : Intss .nilsl [] := ⟨[], .nil 1, .nil⟩
  have nV : Strss .nilsl [] := ⟨[], .nil 1, .nil⟩
  have nI : Ints .nilsl [] := .nil 1
  cases R with
  | bad1 h1 =>
    cases R' with
    | bad1 _ => exact told_ok (k' := []) small_nil nU nV nU nV nI nI (by simp) rfl hk
    | bad2 h2 _ => exact absurd h2 h1
    | good h2 => exact absurd h2 h1
  | bad2 h1 h2 =>
    cases R' with
    | bad1 h3 => exact absurd h1 h3
    | bad2 _ _ => exact told_ok (k' := []) small_nil nU nV nU nV nI nI (by simp) rfl hk
    | good _ h3 h4 => exact absurd ⟨h3, h4⟩ h2
  | good h1 h2 h3 hU hV hP =>
    cases R' with
    | bad1 h4 => exact absurd h1 h4
    | bad2 _ h4 => exact absurd ⟨h2, h3⟩ h4
    | good _ _ _ hU' hV' hP' =>
      rw [← tidy_PD h1 h3] at hU'
      have hgl : (natI (List.range' 1 (tot ms))).length ≤ 1048576 := by have := h3.max; simp [natI]; omega
      exact told_ok (k' := []) (small_tidy (small_glue SL h1 h3 hSB hAl hgl)) hU hV hU' hV' hP hP' (by rw [gPl_len]; exact SL.len) rfl hk

theorem base_step {hb h : Heap} {os : List Ow} (W : Own hb os h) (S : Nat → Prop) (hS : ∀ n, S n → hb n = none) : Go.Sym.GStep h hb S :=
  ⟨fun _ _ => trivial, fun q o hq => ⟨o, W.old q o hq, (fun hs => by rw [hS q hs] at hq; cases hq), .refl o⟩⟩

theorem glues_l3 (HH : runsTrue prog 20 20000 60 = true) (SL : SmallL ms) (hM : Models l ms) {own : AVal} (hO : Models own ms) (hk : K (.bool true) h) : ∀ d i : Nat, i + d = ms.length → s4l3 K (d + 1) l own (i : Int) h
  | 0, i, hd => by
    unfold s4l3
    rw [hM.len]
    refine ifT_neg (by simp; omega) (callG_of (heads_ok HH ?_))
    rw [tBool_bool]
    exact retG_of hk
  | d + 1, i, hd => by
    have hi : i < ms.length := by omega
    have hl := SL.len
    obtain ⟨a, b, ha, hbv, hix⟩ := hM.ix hi
    obtain ⟨c, e, hc, hev, hix2⟩ := hO.ix hi
    unfold s4l3
    rw [hM.len]
    refine ifT_pos (by simp; omega) ?_
    rw [hix2, ldN_agg2]
    simp only [tCons_cons, tNil_nil]
    rw [hix, ldN_agg2]
    simp only [tCons_cons, tNil_nil]
    refine callG_of (same_ok (SL.each _ (List.getElem_mem hi)) hc hev ha hbv ?_)
    rw [tBool_bool]
    exact ifT_neg (by simp) (rg_of (by omega) (by omega) (s4l3_go (glues_l3 HH SL hM hO hk d (i + 1) (by omega))))

theorem glues_end (HH : runsTrue prog 20 20000 60 = true) (SL : SmallL ms) (hM : Models l ms) (hA : Strs va atoms) (hSB : SB atoms) (hAl : atoms.length ≤ 1048576) {own : AVal} (hO : Models own ms) (hk : K (.bool true) h) (n : Nat) :
    s4l1 K (n + 1) l va own (ms.length : Int) h := by
  unfold s4l1
  rw [hM.len]
  refine ifT_neg (by simp) (newRow_in fun r hr => appC_copy hr (elemsA_of hA) (by simp; omega) (by simp; omega) fun cp h2 g => ?_)
  obtain ⟨S, cp', l1, s1, g1⟩ := g.freeze
  refine ⟨S, cp', h, l1, g1, callG_of (glueM_res SL hO s1 hSB hAl fun a b p e R => ?_)⟩
  simp only [tTup_tuple, tCons_cons, tInt_int, tNil_nil, tAgg_agg]
  refine newRow_in fun r1 h1 => st_all (Heap.set_same _ _ _) rfl ?_
  rw [Heap.set_set]
  refine callG_of (glue19_res SL hM hA hSB hAl fun a' b' p' e' R' => ?_)
  simp only [tTup_tuple, tCons_cons, tInt_int, tNil_nil, tAgg_agg]
  refine newRow_in fun r2 h2 => st_all (Heap.set_same _ _ _) rfl ?_
  rw [Heap.set_set]
  have hne : r1 ≠ r2 := fun e => by rw [← e, Heap.set_same] at h2; cases h2
  rw [ldN2 (by rw [Heap.set_ne _ _ hne, Heap.set_same])]
  simp only [tCons_cons, tNil_nil]
  rw [ldN2 (Heap.set_same _ _ _)]
  simp only [tCons_cons, tNil_nil]
  refine callG_of (told_res SL hSB hAl R R' ?_)
  rw [tBool_bool]
  refine ifT_neg rfl (callG_of (names_ok s1 hA (by omega) ?_))
  rw [tBool_bool]
  refine ifT_neg (by simp) ?_
  refine ⟨fun _ => False, _, h, Lits.refl _, GStep.drop (fun q o hq => Heap.set_sub h2 q o (Heap.set_sub h1 q o hq)), rfl, ms.length + 1, glues_l3 HH SL hM hO hk ms.length 0 (by omega)⟩

theorem glues_l1 (HH : runsTrue prog 20 20000 60 = true) (SL : SmallL ms) (hM : Models l ms) (hA : Strs va atoms) (hSB : SB atoms) (hAl : atoms.length ≤ 1048576) (hk : K (.bool true) h) : ∀ d i : Nat, i + d + 1 = ms.length →
    ∀ own Lo h', Own h [.slc 2 own Lo] h' → All2 ModelA Lo (ms.take i) → s4l1 K (d + 2) l va own (i : Int) h'
  | d, i, hd, own, Lo, h', W, hL => by
    have hi : i < ms.length := by omega
    have hl := SL.len
    have hLl := hL.length
    simp only [List.length_take] at hLl
    obtain ⟨a, b, ha, hbv, hix⟩ := hM.ix hi
    unfold s4l1
    rw [hM.len]
    refine ifT_pos (by simp; omega) ?_
    rw [hix, ldN_agg2]
    simp only [tCons_cons, tNil_nil]
    refine callG_of (copy_ok (SL.each _ (List.getElem_mem hi)) ha hbv fun vU vV hU hV => ?_)
    simp only [tAgg_agg, tCons_cons, tNil_nil]
    refine W.app (i := 0) rfl (by omega) (by omega) fun own2 h2 W2 => rg_of (by omega) (by omega) ?_
    have hL2 : All2 ModelA (Lo ++ [.agg [vU, vV]]) (ms.take (i + 1)) := by
      rw [take_snoc hi]
      exact hL.append (.cons ⟨vU, vV, rfl, hU, hV⟩ .nil)
    match d, hd with
    | 0, hd =>
      rw [List.take_of_length_le (by omega)] at hL2
      obtain ⟨own', l1, s1⟩ := W2.lit (i := 0) rfl (S := nameOf own2) (fun _ h => h) (Lits.refl _)
      refine ⟨nameOf own2, [l, va, own', .int .i64 ((i : Int) + 1)], h, .cons (.refl _) (.cons (.refl _) (.cons l1 (Lits.refl _))), base_step W2 _ (fun n hn => W2.new 0 _ n rfl hn), rfl, ?_⟩
      have := glues_end (va := va) HH SL hM hA hSB hAl (own := own') ⟨_, s1, hL2⟩ hk 0
      rw [← hd] at this
      exact this
    | d + 1, hd => exact s4l1_go (glues_l1 HH SL hM hA hSB hAl hk d (i + 1) (by omega) own2 _ h2 W2 hL2)

theorem glues_ok (HH : runsTrue prog 20 20000 60 = true) (SL : SmallL ms) (hM : Models l ms) (hA : Strs va atoms) (hSB : SB atoms) (hAl : atoms.length ≤ 1048576) (hk : K (.bool true) h) : ACalls prog 4 [l, va] h K := by
  refine s4_ok ?_
  unfold s4
  by_cases e : ms.length = 0
  · obtain rfl : ms = [] := List.eq_nil_of_length_eq_zero e
    exact s4l1_in 1 (glues_end HH SL hM hA hSB hAl ⟨[], .nil 2, .nil⟩ hk 0)
  · exact s4l1_in (ms.length - 1 + 2) (glues_l1 HH SL hM hA hSB hAl hk (ms.length - 1) 0 (by omega) .nilsl [] h ((Own.start h).newN 2) .nil)
end Go.Proofs.Ytinficcdpggiaaa

/- From a reading to inputs of a law: whole numbers and texts alone; the row's last step. No condition. From a reading to inputs of a law: slices, structs. No condition. Contracts: the same numbers. No condition. Contracts: the program's words. No condition. Words and small laws for contracts: sizes of models, owned rows. No condition. From a reading to a model. No condition. Words for contracts: memory that grows. No condition. Plain: an order given by a table: meetings, joinings, what implies; the answer by search and the answer by a running best are one. No condition. Contracts: the program's best element, meeting, joining, implying, bounds, order. No condition. Contracts: the program's tables of an algebra, its look, and what it answers of elements. No condition. Contracts: the program's look at an algebra; Check, Meet, Join, Imp, Bounds, Boolean. No condition. From a reading to an algebra. No condition. Contracts: names that rise; is a name, a number among some? (the program) No condition. Plain: who is above whom; a search for all that is above. No condition. Plain: which models are well-formed. No condition. Plain: a map as a set; a measure. No condition. Contracts: who is above whom, by the program (worlds). No condition. Contracts: which models are well-formed, by the program (worlds). No condition. Contracts: the worlds of which something holds. No condition. -/
import Derived.Test.YtljglglbfcgjpaaGreatRows
import Derived.WalkKit
import Derived.ProofKit
import Derived.OpenShut
import Derived.JoinedCond
import Derived.Below
import Derived.ChangeSame
import Derived.ReadAgain
import Derived.Test.YtljglglbfcgjpaaGreatM5
import Derived.Test.YtljglglbfcgjpaaGreatProg
import Derived.Test.YtljglglbfcgjpaaGreatPQ0
import Derived.Test.YtljglglbfcgjpaaGreatPQ1

set_option linter.unusedVariables false
set_option linter.unusedSimpArgs false

namespace Go.Proofs.YtljglglbfcgjpaaGreat
open Go Go.Sym Go.Proofs.Tryz
open Go.ChangeShapes Go.WideShapes Go.ChangeAt Go.RowKit
set_option linter.unusedVariables false
set_option maxRecDepth 4000
/- ---- the measure ---- -/
theorem bulk_one {H : Type} (d : DataW H) : 1 ≤ Rows.uptoBulk d := by
  cases d with
  | lit l => cases l <;> simp [Rows.uptoBulk]
  | nil => simp [Rows.uptoBulk]
  | ptr d => simp [Rows.uptoBulk]
  | slice elems spare => simp [Rows.uptoBulk]
  | agg parts => simp [Rows.uptoBulk]
  | iface t d => simp [Rows.uptoBulk]
  | map entries => simp [Rows.uptoBulk]
  | held h => simp [Rows.uptoBulk]
theorem bulk_mem {H : Type} {d : DataW H} {l : List (DataW H)} (h : d ∈ l) : Rows.uptoBulk d ≤ Rows.uptoBulkAll l := by
  induction l with
  | nil => cases h
  | cons x r ih =>
    simp only [Rows.uptoBulkAll]
    rcases List.mem_cons.1 h with e | e
    · subst e; omega
    · have := ih e; omega
theorem bulk_len {H : Type} (l : List (DataW H)) : l.length ≤ Rows.uptoBulkAll l := by
  induction l with
  | nil => simp
  | cons x r ih =>
    have := bulk_one x
    simp only [Rows.uptoBulkAll, List.length_cons]
    omega
theorem bulkOK {H : Type} : BulkOK (Rows.uptoBulk (H := H)) where
  str l := by simp [Rows.uptoBulk]
  ptr d := by simp [Rows.uptoBulk]
  len l r := by have := bulk_len l; simp only [Rows.uptoBulk]; omega
  elem l r d h := by have := bulk_mem h; simp only [Rows.uptoBulk]; omega
  part l d h := by have := bulk_mem h; simp only [Rows.uptoBulk]; omega
theorem closed_ts : closedT prog [3, 9] = true := by kernel_rfl
section
variable {H : Type} {enc : TypeId × Value → H} {W : World}
theorem arg_got {t : TypeId} {v : Value} {d : DataW H} {ps : List MemPlace} {B : Nat} (ht : t ∈ [3, 9]) (h : DataW.Trod enc prog W 0 (fun _ => true) true t v d ps) (hb : Rows.uptoBulk d ≤ B) :
    ∃ n, Got prog W B n t v.cells.toList := by
  obtain ⟨n, hn⟩ := h
  exact ⟨n, trod_rel bulkOK closed_ts n t _ _ ht hn hb⟩
theorem arg_int {t : TypeId} {v : Value} (hu : prog.underlying t = some (.int .i64)) (hv : Value.okWide prog W .any 0 t v) {B n : Nat} (h : Got prog W B n t v.cells.toList) : ∃ z : Int, RelV (ghost0 W) (.int .i64 z) v := by
  have hc : v.cells.toList = [v] := by
    cases v <;> first | rfl | skip
    simp [Value.okWide, Cell.okWide, Cell.ok, hu] at hv
  rw [hc] at h
  obtain ⟨l, h1, h2, _⟩ := h
  cases h1 with
  | @cons a x l xs ha hb =>
    cases hb
    cases n with
    | zero => exact h2.elim
    | succ n =>
      simp only [ShV, hu] at h2
      obtain ⟨z, e, _⟩ := h2
      obtain rfl : a = .int .i64 z := by simpa using e
      exact ⟨z, ha⟩
/- ---- what a law leaves ---- -/
theorem law_callsR [Nam] (H0 : RelH (ghost0 W) (fun _ => none) W) {f : FuncId} {avs : List AVal} {args : Array Value} (hr : RelVs (ghost0 W) avs args.toList) (hA : ACalls prog f avs (fun _ => none) (fun v _ => v = .bool true)) :
    Calls prog f args W fun e W' => e = .returned (.bool true) ∧ Below W.heap.size W W' := by
  have := hA.2 (ghost0 W) args.toList W hr H0
  simp only [Array.toArray_toList] at this
  refine this.mono ?_
  rintro e w' ⟨v, κ', av, h', rfl, le, H', hv, rfl⟩
  cases hv
  have hb : ∀ k, k < W.heap.size → w'.heap[k]? = W.heap[k]? := fun k hk => by
    have e1 : W.heap[k]? = some W.heap[k] := by simp [hk]
    rw [H'.imm k _ (le.imm k _ e1), e1]
  refine ⟨rfl, H'.os.trans le.os, H'.tape.trans le.tape, H'.output.trans le.output, ?_, hb⟩
  by_cases h0 : W.heap.size = 0
  · omega
  · have e1 := hb (W.heap.size - 1) (by omega)
    have e2 : W.heap[W.heap.size - 1]? = some W.heap[W.heap.size - 1] := by simp
    rw [e2] at e1
    have := (Array.getElem?_eq_some_iff.1 e1).1
    omega
theorem law_calls {f : FuncId} {avs : List AVal} {args : Array Value} (hr : RelVs (ghost0 W) avs args.toList) (hA : @ACalls Nam.any prog f avs (fun _ => none) (fun v _ => v = .bool true)) :
    Calls prog f args W fun e W' => e = .returned (.bool true) ∧ Below W.heap.size W W' := @law_callsR _ Nam.any (relH0 W) f avs args hr hA
theorem same_at {W' : World} (hb : Below W.heap.size W W') {p : MemPlace} (hp : p.block < W.heap.size) : W.sameAt W' p := by
  have := hb.block p.block hp
  cases p with
  | cell b off =>
    show W'.cell? ⟨b, off, none⟩ = W.cell? ⟨b, off, none⟩
    simp only [MemPlace.block] at this
    unfold World.cell?
    rw [this]
  | map b => exact this
theorem args_again {W' : World} (hb : Below W.heap.size W W') {sp : Nat → Bool} {held : Bool} {base : Nat} : ∀ {ts : List TypeId} {vs : List Value} {ds : List (DataW H)} {ps : List MemPlace}, DataW.TrodAll enc prog W base sp held ts vs ds ps → (∀ p ∈ ps, p.block < W.heap.size) → DataW.TrodAll enc prog W' base sp held ts vs ds ps
  | [], [], [], _, h, _ => h
  | _ :: _, _ :: _, _ :: _, _, ⟨p, q, ⟨n, h1⟩, h2, e⟩, hl => ⟨p, q, ⟨n, DataW.trod_carry n _ _ _ h1 (fun x hx => same_at hb (hl x (by rw [e]; exact List.mem_append_left _ hx)))⟩, args_again hb h2 (fun x hx => hl x (by rw [e]; exact List.mem_append_right _ hx)), e⟩
theorem post_true {f : Func} {s : ChangeSpec} {apart fresh handsOn again : Bool} {W' : World} {args : Array Value} {ds : List (DataW H)} {before : List MemPlace} (hf : f.resultTypes = #[4]) (hs : s.vars = [])
    (hfn : s.fn H (ds ++ []) = { results := [.lit (.bool true)], args := ds }) (hT : ∀ t ∈ f.params.toList, t < prog.types.size) (K : Kids prog (· < prog.types.size)) (hz : ∀ t e, t < prog.types.size → prog.underlying t = some (.slice e) → 0 < prog.cellsOf e)
    (hW : DataW.Whole enc prog f.params.toList s.vars apart W args.toList ds [] before) (hb : Below W.heap.size W W') : s.post enc prog f apart fresh handsOn again W args (.bool true) W' := by
  have hlt : ∀ p ∈ before, p.block < W.heap.size := fun p hp => hW.lt p hp
  have hW0 := hW
  obtain ⟨pa, q, hA, hV, hps, hz2, hn⟩ := hW
  rw [hs] at hV
  obtain ⟨_, rfl⟩ := trodVars_none hV
  rw [List.append_nil] at hps
  subst hps
  have hargs : ∀ sp : Nat → Bool, (∀ p ∈ before, sp p.block = true) → DataW.TrodAll enc prog W' 0 sp true f.params.toList args.toList ds before :=
    fun sp hsp => args_again hb (DataW.TrodAll.respare K hz hT hA hsp) hlt
  have hres : ∀ (b : Nat) (sp : Nat → Bool) (hd : Bool), DataW.TrodAll enc prog W' b sp hd f.resultTypes.toList ((Value.bool true).resultList f.resultTypes.size) [.lit (.bool true)] [] := fun b sp hd => by
    rw [hf]
    exact trodAll_cons_mk (shut_bool underlying4 _) trodAll_mk0
  have hold : ∀ p ∈ before, (fun b => decide (b < W.heap.size)) p.block = true := fun p hp => by simpa using hlt p hp
  have hvars : ∀ sp, DataW.TrodVars enc prog W' sp s.vars [] [] := fun sp => by rw [hs]; rfl
  refine ⟨ds, [], before, [], before, [], hW0, by rw [hfn]; exact hres _ _ _, by rw [hfn]; exact hargs _ hold, by rw [hfn]; exact hvars _, World.keptBut_mono (fun p hp => ⟨hp, .inr (by simp [hp])⟩) (hb.frame (· ∈ before)), fun _ => ?_⟩
  refine ⟨ok_one hf rfl (okWide_bool_mk underlying4 _), _, _, [] ++ before ++ [], ⟨[] ++ before, [], trodAll_append (hargs _ (fun _ _ => rfl)) (hres _ _ _), hvars _, rfl, ?_, ?_⟩, ?_⟩
  · intro b off hp
    have hin : MemPlace.cell b off ∈ before := by simpa using hp
    rw [hb.frozen (hlt _ hin)]
    exact hz2 b off hin
  · intro ha
    have := hn ha
    simpa using this
  · intro p hp _
    simpa using hp
end
end Go.Proofs.YtljglglbfcgjpaaGreat

namespace Go.Proofs.YtljglglbfcgjpaaGreat
open Go Go.Sym Go.Proofs.Tryz
open Go.ChangeShapes Go.WideShapes Go.ChangeAt Go.RowKit
set_option linter.unusedVariables false
set_option maxRecDepth 4000
theorem all2_of {β : Type} {R : AVal → β → Prop} {Q : β → Prop} : ∀ {l : List AVal}, (∀ x ∈ l, ∃ b, R x b ∧ Q b) → ∃ bs, All2 R l bs ∧ ∀ b ∈ bs, Q b
  | [], _ => ⟨[], .nil, by simp⟩
  | x :: l, h => by
    obtain ⟨b, hb, hq⟩ := h x List.mem_cons_self
    obtain ⟨bs, h1, h2⟩ := all2_of (l := l) (fun y hy => h y (List.mem_cons_of_mem _ hy))
    exact ⟨b :: bs, .cons hb h1, fun c hc => by
      rcases List.mem_cons.1 hc with rfl | hc
      · exact hq
      · exact h2 c hc⟩
theorem all2_map {β : Type} {f : β → AVal} : ∀ {l : List AVal} {bs : List β}, All2 (fun x b => x = f b) l bs → l = bs.map f
  | _, _, .nil => rfl
  | _, _, .cons h t => by rw [h, all2_map t]; rfl
theorem shV_slice {P : Program} {B n : Nat} {t e : TypeId} {l : List AVal} {β : Type} {R : AVal → β → Prop} {Q : β → Prop} (hu : P.underlying t = some (.slice e))
    (he : ∀ n x, x.isAgg = aggT P e → (Sym.cellsOf x).length = P.cellsOf e → ShV P B n e (Sym.cellsOf x) → ∃ b, R x b ∧ Q b) (h : ShV P B n t l) :
    ∃ v L bs, l = [v] ∧ SlOf (P.cellsOf e) v L ∧ All2 R L bs ∧ bs.length ≤ B ∧ ∀ b ∈ bs, Q b := by
  cases n with
  | zero => exact h.elim
  | succ n =>
    simp only [ShV, hu] at h
    rcases h with rfl | ⟨elems, rfl, h1, h2⟩
    · exact ⟨_, [], [], rfl, .nil _, .nil, by simp, by simp⟩
    · obtain ⟨bs, h3, h4⟩ := all2_of (R := R) (Q := Q) (l := elems) (fun x hx => he n x (h2 x hx).1 (h2 x hx).2.1 (h2 x hx).2.2)
      exact ⟨_, elems, bs, rfl, .lsl _ _, h3, by rw [← h3.length]; exact h1, h4⟩
theorem cells_one {x : AVal} (h : x.isAgg = false) : Sym.cellsOf x = [x] := by cases x <;> first | rfl | cases h
theorem ca3 : prog.cellsOf 3 = 1 := by kernel_rfl
theorem ca9 : prog.cellsOf 9 = 1 := by kernel_rfl
theorem ag3 : aggT prog 3 = false := by kernel_rfl
theorem ag9 : aggT prog 9 = false := by kernel_rfl
theorem shV_int {B n : Nat} {x : AVal} (h : ShV prog B n 3 [x]) : ∃ b, x = .int .i64 b := by
  cases n with
  | zero => exact h.elim
  | succ n =>
    simp only [ShV, underlying3] at h
    obtain ⟨b, e, _⟩ := h
    exact ⟨b, by simpa using e⟩
theorem shV_str {B n : Nat} {x : AVal} (h : ShV prog B n 9 [x]) : ∃ s : ByteArray, x = .str s ∧ s.size ≤ B := by
  cases n with
  | zero => exact h.elim
  | succ n =>
    simp only [ShV, underlying9] at h
    obtain ⟨s, e, hs⟩ := h
    exact ⟨s, by simpa using e, hs⟩
section
variable {H : Type} {enc : TypeId × Value → H} {W : World}
theorem arg_struct {t : TypeId} {fs : Array Field} {v : Value} (hu : prog.underlying t = some (.struct fs)) (hv : Value.okWide prog W .any 0 t v) {B n : Nat} (h : Got prog W B n t v.cells.toList) : ∃ l, RelV (ghost0 W) (.agg l) v ∧ ShV prog B n t l := by
  simp only [Value.okWide, hu] at hv
  obtain ⟨cs, rfl, _⟩ := hv
  obtain ⟨l, h1, h2, h3⟩ := h
  refine ⟨l, ?_, h2⟩
  have := RelV.agg h3 h1
  simpa [Value.cells] using this
end
end Go.Proofs.YtljglglbfcgjpaaGreat

namespace Go.Proofs.YtljglglbfcgjpaaGreat
open Go Go.Sym Go.Proofs.Tryz
variable {K : AVal → Heap → Prop} {h : Heap}
theorem ints_loop {a b : AVal} {la lb : List Int} (ha : Ints a la) (hb : Ints b lb) (hl : la.length = lb.length) (hm : la.length ≤ 1073741824) : ∀ d i : Nat, i + d = la.length →
    K (.bool (decide (la.drop i = lb.drop i))) h → s18l1 K (d + 1) a b (i : Int) h
  | 0, i, hd, hk => by
    unfold s18l1
    rw [ha.len]
    refine ifT_neg (by simp; omega) (retG_of ?_)
    rw [List.drop_eq_nil_of_le (by omega), List.drop_eq_nil_of_le (by omega)] at hk
    simpa using hk
  | d + 1, i, hd, hk => by
    have hi : i < la.length := by omega
    have hi' : i < lb.length := by omega
    unfold s18l1
    rw [ha.len]
    refine ifT_pos (by simp; omega) ?_
    rw [ha.ix hi, ld1_lptr, tInt_int, hb.ix hi', ld1_lptr, tInt_int]
    rw [drop_eq_step hi hi'] at hk
    by_cases he : la[i] = lb[i]
    · refine ifT_neg (by simp [he]) (rg_of (by omega) (by omega) ?_)
      exact s18l1_go (ints_loop ha hb hl hm d (i + 1) (by omega) (by simpa [he] using hk))
    · refine ifT_pos (by simp [he]) (retG_of ?_)
      simpa [he] using hk
theorem ints_ok {a b : AVal} {la lb : List Int} (ha : Ints a la) (hb : Ints b lb) (hm : la.length ≤ 1073741824) (hk : K (.bool (decide (la = lb))) h) :
    ACalls prog 18 [a, b] h K := by
  refine s18_ok ?_
  unfold s18
  rw [ha.len, hb.len]
  by_cases hl : la.length = lb.length
  · refine ifT_neg (by simp [hl]) (s18l1_in (la.length + 1) ?_)
    exact ints_loop ha hb hl hm la.length 0 (by omega) (by simpa using hk)
  · refine ifT_pos (by simp; omega) (retG_of ?_)
    rwa [show decide (la = lb) = false by simp; intro e; exact hl (by rw [e])] at hk
end Go.Proofs.YtljglglbfcgjpaaGreat

namespace Go.Proofs.YtljglglbfcgjpaaGreat
open Go Go.Sym Go.Proofs.Tryz
variable {K : AVal → Heap → Prop} {h : Heap}
def ltB (c : Int) : Bool := (decide (97 ≤ c) && decide (c ≤ 122)) || (decide (65 ≤ c) && decide (c ≤ 90))
def dgB (c : Int) : Bool := (decide (48 ≤ c) && decide (c ≤ 57)) || (c == 95 || c == 39)
def goodB (s : ByteArray) (i : Nat) : Bool := ltB (btA s i) || (i != 0 && dgB (btA s i))
def resL : List ByteArray := [ByteArray.mk #[97, 98, 111, 114, 116], ByteArray.mk #[99, 97, 115, 101], ByteArray.mk #[102, 97, 108, 115, 101], ByteArray.mk #[102, 115, 116], ByteArray.mk #[102, 117, 110], ByteArray.mk #[105, 110], ByteArray.mk #[105, 110, 108], ByteArray.mk #[105, 110, 114], ByteArray.mk #[108, 101, 116], ByteArray.mk #[111, 102], ByteArray.mk #[115, 110, 100], ByteArray.mk #[116, 114, 117, 101]]
def wordB (s : ByteArray) : Bool := decide (s.size ≠ 0) && (decide (s.size ≤ 31) && ((List.range' 0 s.size).all (goodB s) && resL.all fun r => !strEq r s))
theorem strEq_comm (a b : ByteArray) : strEq a b = strEq b a := by rw [strEq_dec, strEq_dec, Bool.eq_iff_iff]; simp [eq_comm]
theorem btA_range (s : ByteArray) (i : Int) : 0 ≤ btA s i ∧ btA s i ≤ 255 := by
  unfold btA
  have := UInt8.toNat_lt (s[i.toNat]?.getD 0)
  omega
theorem or32 : ∀ c : Fin 256, (decide (97 ≤ bitsI .or .u8 (c.val : Int) 32) && decide (bitsI .or .u8 (c.val : Int) 32 ≤ 122)) = ltB c.val := by decide +kernel
theorem or32_bt (s : ByteArray) (i : Int) : (decide (97 ≤ bitsI .or .u8 (btA s i) 32) && decide (bitsI .or .u8 (btA s i) 32 ≤ 122)) = ltB (btA s i) := by
  obtain ⟨h1, h2⟩ := btA_range s i
  have := or32 ⟨(btA s i).toNat, by omega⟩
  simp only [Int.toNat_of_nonneg h1] at this
  exact this
theorem reserved_ok (s : ByteArray) (hk : K (.bool (resL.any fun r => strEq r s)) h) : ACalls prog 159 [.str s] h K := by
  refine s159_ok ?_
  unfold s159
  simp only [resL, List.any_cons, List.any_nil, Bool.or_false] at hk
  simp only [strEq_comm _ s] at hk
  unfold s159c1
  generalize strEq s (ByteArray.mk #[97, 98, 111, 114, 116]) = b0 at hk ⊢
  generalize strEq s (ByteArray.mk #[99, 97, 115, 101]) = b1 at hk ⊢
  generalize strEq s (ByteArray.mk #[102, 97, 108, 115, 101]) = b2 at hk ⊢
  generalize strEq s (ByteArray.mk #[102, 115, 116]) = b3 at hk ⊢
  generalize strEq s (ByteArray.mk #[102, 117, 110]) = b4 at hk ⊢
  generalize strEq s (ByteArray.mk #[105, 110]) = b5 at hk ⊢
  generalize strEq s (ByteArray.mk #[105, 110, 108]) = b6 at hk ⊢
  generalize strEq s (ByteArray.mk #[105, 110, 114]) = b7 at hk ⊢
  generalize strEq s (ByteArray.mk #[108, 101, 116]) = b8 at hk ⊢
  generalize strEq s (ByteArray.mk #[111, 102]) = b9 at hk ⊢
  generalize strEq s (ByteArray.mk #[115, 110, 100]) = b10 at hk ⊢
  generalize strEq s (ByteArray.mk #[116, 114, 117, 101]) = b11 at hk ⊢
  cases b0 with
  | true => exact ifT_pos rfl (ifT_pos rfl (retG_of (by simpa using hk)))
  | false =>
  refine ifT_neg rfl ?_
  cases b1 with
  | true => exact ifT_pos rfl (ifT_pos rfl (retG_of (by simpa using hk)))
  | false =>
  refine ifT_neg rfl ?_
  cases b2 with
  | true => exact ifT_pos rfl (ifT_pos rfl (retG_of (by simpa using hk)))
  | false =>
  refine ifT_neg rfl ?_
  cases b3 with
  | true => exact ifT_pos rfl (ifT_pos rfl (retG_of (by simpa using hk)))
  | false =>
  refine ifT_neg rfl ?_
  cases b4 with
  | true => exact ifT_pos rfl (ifT_pos rfl (retG_of (by simpa using hk)))
  | false =>
  refine ifT_neg rfl ?_
  cases b5 with
  | true => exact ifT_pos rfl (ifT_pos rfl (retG_of (by simpa using hk)))
  | false =>
  refine ifT_neg rfl ?_
  cases b6 with
  | true => exact ifT_pos rfl (ifT_pos rfl (retG_of (by simpa using hk)))
  | false =>
  refine ifT_neg rfl ?_
  cases b7 with
  | true => exact ifT_pos rfl (ifT_pos rfl (retG_of (by simpa using hk)))
  | false =>
  refine ifT_neg rfl ?_
  cases b8 with
  | true => exact ifT_pos rfl (ifT_pos rfl (retG_of (by simpa using hk)))
  | false =>
  refine ifT_neg rfl ?_
  cases b9 with
  | true => exact ifT_pos rfl (ifT_pos rfl (retG_of (by simpa using hk)))
  | false =>
  refine ifT_neg rfl ?_
  cases b10 with
  | true => exact ifT_pos rfl (ifT_pos rfl (retG_of (by simpa using hk)))
  | false =>
  refine ifT_neg rfl ?_
  cases b11 with
  | true => exact ifT_pos rfl (retG_of (by simpa using hk))
  | false => exact ifT_neg rfl (retG_of (by simpa using hk))
theorem word_loop {s : ByteArray} (hm : s.size ≤ 1073741824) : ∀ d i : Nat, i + d = s.size →
    K (.bool ((List.range' i d).all (goodB s) && (decide (s.size ≠ 0) && (decide (s.size ≤ 31) && resL.all fun r => !strEq r s)))) h → s143l1 K (d + 1) s (s.size : Int) (i : Int) h
  | 0, i, hd, hk => by
    unfold s143l1
    refine ifT_neg (by simp; omega) ?_
    have he : strEq s (ByteArray.mk #[]) = decide (s.size = 0) := by
      rw [strEq_dec, Bool.eq_iff_iff]
      simp only [decide_eq_true_eq]
      constructor
      · intro e; rw [e]; rfl
      · intro e
        obtain ⟨⟨l⟩⟩ := s
        have : l.length = 0 := e
        rw [List.eq_nil_of_length_eq_zero this]
    rw [he]
    simp only [List.range'_zero, List.all_nil, Bool.true_and] at hk
    by_cases h0 : s.size = 0
    · refine ifT_neg (by simp [h0]) (retG_of ?_)
      simpa [h0] using hk
    · refine ifT_pos (by simp [h0]) ?_
      by_cases h31 : s.size ≤ 31
      · refine ifT_pos (by simp; omega) (callG_of (reserved_ok s ?_))
        rw [tBool_bool]
        refine retG_of ?_
        rw [show (!resL.any fun r => strEq r s) = resL.all fun r => !strEq r s by rw [List.all_eq_not_any_not]; simp]
        simpa [h0, h31] using hk
      · refine ifT_neg (by simp; omega) (retG_of ?_)
        simpa [h0, h31] using hk
  | d + 1, i, hd, hk => by
    unfold s143l1
    refine ifT_pos (by simp; omega) ⟨by omega, ?_⟩
    rw [List.range'_succ, List.all_cons] at hk
    have rest : goodB s i = true → s143c3 K (s143l1_G (s143l1 K (d + 1))) s s.size i false h := by
      intro hg
      rw [hg] at hk
      exact ifT_neg rfl (rg_of (by omega) (by omega) (s143l1_go (word_loop hm d (i + 1) (by omega) (by simpa using hk))))
    have stop : goodB s i = false → s143c3 K (s143l1_G (s143l1 K (d + 1))) s s.size i true h := by
      intro hg
      rw [hg] at hk
      exact ifT_pos rfl (retG_of (by simpa using hk))
    have key : s143c2 K (s143l1_G (s143l1 K (d + 1))) s i (btA s i) (ltB (btA s i)) s.size i h := by
      unfold s143c2
      unfold goodB dgB at rest stop
      cases hl : ltB (btA s i) with
      | true => exact ifT_neg rfl (rest (by rw [hl]; rfl))
      | false =>
        rw [hl] at rest stop
        simp only [Bool.false_or] at rest stop
        refine ifT_pos rfl ?_
        by_cases h0 : i = 0
        · refine ifT_pos (by simp [h0]) (stop (by simp [h0]))
        · refine ifT_neg (by simpa using h0) ?_
          rw [show (i != 0) = true by simpa using h0] at rest stop
          simp only [Bool.true_and] at rest stop
          generalize btA s i = c at *
          by_cases h95 : c = 95
          · exact ifT_neg (by simp [h95]) (rest (by simp [h95]))
          · refine ifT_pos (by simpa using h95) ?_
            by_cases h39 : c = 39
            · exact ifT_neg (by simp [h39]) (rest (by simp [h39]))
            · refine ifT_pos (by simpa using h39) ?_
              by_cases h48 : c < 48
              · exact ifT_pos (by simpa using h48) (stop (by simp [h95, h39]; omega))
              · refine ifT_neg (by simpa using h48) ?_
                by_cases h57 : 57 < c
                · rw [show decide (57 < c) = true by simpa using h57]; exact stop (by simp [h95, h39]; omega)
                · rw [show decide (57 < c) = false by simpa using h57]; exact rest (by simp; omega)
    have ho := or32_bt s i
    cases h97 : decide (97 ≤ bitsI .or .u8 (btA s i) 32) with
    | true => rw [h97, Bool.true_and] at ho; rw [ho]; exact ifT_pos rfl key
    | false => rw [h97, Bool.false_and] at ho; rw [← ho] at key; exact ifT_neg rfl key
theorem word_ok (s : ByteArray) (hm : s.size ≤ 1073741824) (hk : K (.bool (wordB s)) h) : ACalls prog 143 [.str s] h K := by
  refine s143_ok (s143l1_in (s.size + 1) (word_loop hm s.size 0 (by omega) ?_))
  unfold wordB at hk
  rwa [show ((List.range' 0 s.size).all (goodB s) && (decide (s.size ≠ 0) && (decide (s.size ≤ 31) && resL.all fun r => !strEq r s))) =
    (decide (s.size ≠ 0) && (decide (s.size ≤ 31) && ((List.range' 0 s.size).all (goodB s) && resL.all fun r => !strEq r s))) by
      cases (List.range' 0 s.size).all (goodB s) <;> cases decide (s.size ≠ 0) <;> cases decide (s.size ≤ 31) <;> rfl]
end Go.Proofs.YtljglglbfcgjpaaGreat

namespace Go.Proofs.YtljglglbfcgjpaaGreat
open Go Go.Sym Go.Proofs.Tryz
def SB (l : List ByteArray) : Prop := l.length ≤ 1073741824 ∧ ∀ s ∈ l, s.size ≤ 1073741824
structure Small (up : List (List Int)) (val : List (List ByteArray)) : Prop where
  ups : up.length ≤ 1048576
  vals : val.length ≤ 1048576
  row : ∀ r ∈ up, r.length ≤ 1048576
  names : ∀ l ∈ val, SB l ∧ l.length ≤ 1048576
def natI (l : List Nat) : List Int := l.map fun (x : Nat) => (x : Int)
theorem map_set {α : Type} (g : Nat → α) (n w : Nat) (y : α) : ((List.range n).map g).set w y = (List.range n).map fun x => if x = w then y else g x := by
  refine List.ext_getElem (by simp) fun i h1 h2 => ?_
  rw [List.getElem_set]
  by_cases e : w = i
  · subst e; simp
  · rw [if_neg e]
    simp [Ne.symm e]
theorem range_get {α : Type} (g : Nat → α) {n i : Nat} (hi : i < n) : ((List.range n).map g)[i]? = some (g i) := by simp [hi]
def rowsO (q : Nat) (f : Nat → AVal) (g : Nat → List Nat) : List Ow := (List.range q).map fun k => .slc 1 (f k) ((natI (g k)).map (.int .i64))
def upd {α : Type} (f : Nat → α) (k : Nat) (y : α) : Nat → α := fun x => if x = k then y else f x
theorem lits_rows {hb h : Heap} {os : List Ow} (W : Own hb os h) {S : Nat → Prop} {f : Nat → AVal} {g : Nat → List Nat} : ∀ (ks : List Nat), (∀ k ∈ ks, ∃ i : Nat, os[i]? = some (.slc 1 (f k) ((natI (g k)).map (.int .i64)))) → (∀ k ∈ ks, ∀ n, nameOf (f k) n → S n) →
    ∃ l', Lits h S (ks.map f) l' ∧ All2 Ints l' (ks.map fun k => natI (g k))
  | [], _, _ => ⟨[], .nil, .nil⟩
  | k :: ks, ho, hS => by
    obtain ⟨l', h1, h2⟩ := lits_rows W ks (fun k hk => ho k (List.mem_cons_of_mem _ hk)) (fun k hk => hS k (List.mem_cons_of_mem _ hk))
    obtain ⟨i, hi⟩ := ho k List.mem_cons_self
    obtain ⟨v', hv, hs⟩ := W.lit hi (S := S) (hS k List.mem_cons_self) (Lits.refl _)
    exact ⟨v' :: l', .cons hv h1, .cons hs h2⟩
theorem newNs {hb h : Heap} {os : List Ow} (W : Own hb os h) : ∀ q : Nat, Own hb (os ++ (List.range q).map fun _ => .slc 1 .nilsl []) h
  | 0 => by simpa using W
  | q + 1 => by
    have := (newNs W q).newN 1
    rw [List.append_assoc] at this
    rw [List.range_succ, List.map_append]
    exact this
theorem range_filter_succ (p : Nat → Bool) (n : Nat) : (List.range (n + 1)).filter p = (List.range n).filter p ++ if p n then [n] else [] := by
  rw [List.range_succ, List.filter_append]
  congr 1
  rw [List.filter_cons]
  rfl
theorem mem_natI {l : List Nat} {x : Int} : x ∈ natI l ↔ ∃ c ∈ l, x = (c : Int) := by
  unfold natI
  rw [List.mem_map]
  exact ⟨fun ⟨c, h1, h2⟩ => ⟨c, h1, h2.symm⟩, fun ⟨c, h1, h2⟩ => ⟨c, h1, h2.symm⟩⟩
end Go.Proofs.YtljglglbfcgjpaaGreat

namespace Go.Proofs.YtljglglbfcgjpaaGreat
open Go Go.Sym Go.Proofs.Tryz
open Go.ChangeShapes Go.WideShapes Go.ChangeAt Go.RowKit
set_option linter.unusedVariables false
set_option maxRecDepth 4000
theorem ca42 : prog.cellsOf 42 = 1 := by kernel_rfl
theorem ca91 : prog.cellsOf 91 = 1 := by kernel_rfl
theorem ca22 : prog.cellsOf 22 = 1 := by kernel_rfl
theorem ca23 : prog.cellsOf 23 = 1 := by kernel_rfl
theorem ca25 : prog.cellsOf 25 = 2 := by kernel_rfl
theorem ag42 : aggT prog 42 = false := by kernel_rfl
theorem ag91 : aggT prog 91 = false := by kernel_rfl
theorem shV_ints {B n : Nat} {l : List AVal} (h : ShV prog B n 42 l) : ∃ v xs, l = [v] ∧ Ints v xs ∧ xs.length ≤ B := by
  obtain ⟨v, L, bs, rfl, h1, h2, h3, _⟩ := shV_slice (R := fun x b => x = .int .i64 b) (Q := fun _ => True) underlying42 (fun n x ha _ hx => by
    rw [cells_one (ha.trans ag3)] at hx
    obtain ⟨b, hb⟩ := shV_int hx
    exact ⟨b, hb, trivial⟩) h
  rw [ca3] at h1
  rw [all2_map h2] at h1
  exact ⟨v, bs, rfl, h1, h3⟩
theorem shV_strs {B n : Nat} {l : List AVal} (h : ShV prog B n 91 l) : ∃ v xs, l = [v] ∧ Strs v xs ∧ xs.length ≤ B ∧ ∀ s ∈ xs, s.size ≤ B := by
  obtain ⟨v, L, bs, rfl, h1, h2, h3, h4⟩ := shV_slice (R := fun x b => x = .str b) (Q := fun s => s.size ≤ B) underlying91 (fun n x ha _ hx => by
    rw [cells_one (ha.trans ag9)] at hx
    obtain ⟨b, hb, hs⟩ := shV_str hx
    exact ⟨b, hb, hs⟩) h
  rw [ca9] at h1
  rw [all2_map h2] at h1
  exact ⟨v, bs, rfl, h1, h3, h4⟩
theorem shV_intss {B n : Nat} {l : List AVal} (h : ShV prog B n 22 l) : ∃ v up, l = [v] ∧ Intss v up ∧ up.length ≤ B ∧ ∀ r ∈ up, r.length ≤ B := by
  obtain ⟨v, L, bs, rfl, h1, h2, h3, h4⟩ := shV_slice (R := Ints) (Q := fun r => r.length ≤ B) underlying22 (fun n x ha _ hx => by
    rw [cells_one (ha.trans ag42)] at hx
    obtain ⟨v, xs, e, h1, h2⟩ := shV_ints hx
    obtain rfl : x = v := by simpa using e
    exact ⟨xs, h1, h2⟩) h
  rw [ca42] at h1
  exact ⟨v, bs, rfl, ⟨L, h1, h2⟩, h3, h4⟩
theorem shV_strss {B n : Nat} {l : List AVal} (h : ShV prog B n 23 l) : ∃ v up, l = [v] ∧ Strss v up ∧ up.length ≤ B ∧ ∀ r ∈ up, r.length ≤ B ∧ ∀ s ∈ r, s.size ≤ B := by
  obtain ⟨v, L, bs, rfl, h1, h2, h3, h4⟩ := shV_slice (R := Strs) (Q := fun r => r.length ≤ B ∧ ∀ s ∈ r, s.size ≤ B) underlying23 (fun n x ha _ hx => by
    rw [cells_one (ha.trans ag91)] at hx
    obtain ⟨v, xs, e, h1, h2⟩ := shV_strs hx
    obtain rfl : x = v := by simpa using e
    exact ⟨xs, h1, h2⟩) h
  rw [ca91] at h1
  exact ⟨v, bs, rfl, ⟨L, h1, h2⟩, h3, h4⟩
theorem shV_model {B n : Nat} {l : List AVal} (hB : B ≤ 1048576) (h : ShV prog B n 25 l) : ∃ a b up val, l = [a, b] ∧ Intss a up ∧ Strss b val ∧ Small up val := by
  cases n with
  | zero => exact h.elim
  | succ n =>
    simp only [ShV, underlying25, ca25] at h
    obtain ⟨hl, hf⟩ := h
    have f1 := hf _ (List.mem_cons_self)
    have f2 := hf _ (List.mem_cons_of_mem _ List.mem_cons_self)
    simp only [ca22, ca23] at f1 f2
    match l, hl with
    | [a, b], _ =>
      obtain ⟨v, up, e1, h1, h2, h3⟩ := shV_intss f1
      obtain ⟨w, val, e2, h4, h5, h6⟩ := shV_strss f2
      obtain rfl : a = v := by simpa using e1
      obtain rfl : b = w := by simpa using e2
      exact ⟨a, b, up, val, rfl, h1, h4, Nat.le_trans h2 hB, Nat.le_trans h5 hB, fun r hr => Nat.le_trans (h3 r hr) hB, fun x hx => ⟨⟨by have := (h6 x hx).1; omega, fun s hs => by have := (h6 x hx).2 s hs; omega⟩, Nat.le_trans (h6 x hx).1 hB⟩⟩
theorem closed_ms : closedT prog [25, 22, 42, 3, 23, 91, 9] = true := by kernel_rfl
section
variable {H : Type} {enc : TypeId × Value → H} {W : World}
theorem arg_gotM {t : TypeId} {v : Value} {d : DataW H} {ps : List MemPlace} {B : Nat} (ht : t ∈ [25, 22, 42, 3, 23, 91, 9]) (h : DataW.Trod enc prog W 0 (fun _ => true) true t v d ps) (hb : Rows.uptoBulk d ≤ B) :
    ∃ n, Got prog W B n t v.cells.toList := by
  obtain ⟨n, hn⟩ := h
  exact ⟨n, trod_rel bulkOK closed_ms n t _ _ ht hn hb⟩
end
end Go.Proofs.YtljglglbfcgjpaaGreat

namespace Go.Proofs.YtljglglbfcgjpaaGreat
open Go Go.Sym Go.Proofs.Tryz
variable {K : AVal → Heap → Prop} {h : Heap}
def Ext (h h' : Heap) : Prop := ∀ q o, h q = some o → h' q = some o
theorem Ext.refl (h : Heap) : Ext h h := fun _ _ e => e
theorem Ext.trans {a b c : Heap} (x : Ext a b) (y : Ext b c) : Ext a c := fun q o e => y q o (x q o e)
theorem Ext.new {h : Heap} {r : Nat} (hr : h r = none) (o : AObj) : Ext h (h.set r o) := fun q o' e => by
  have : q ≠ r := fun e' => by rw [e', hr] at e; cases e
  rw [Heap.set_other _ _ this]
  exact e
theorem Ext.put {h h' : Heap} {r : Nat} (x : Ext h h') (hr : h r = none) (o : AObj) : Ext h (h'.set r o) := fun q o' e => by
  have : q ≠ r := fun e' => by rw [e', hr] at e; cases e
  rw [Heap.set_other _ _ this]
  exact x q o' e
theorem nilCheckA_ptr (r i o : Nat) (X : AVal → Prop) : nilCheckA (.ptr r i o) X = X (.ptr r i o) := rfl
end Go.Proofs.YtljglglbfcgjpaaGreat

namespace Go.Proofs.YtljglglbfcgjpaaGreat
open Go Go.Sym
def at2 (L : List (List Bool)) (x y : Nat) : Bool := (L.getD x []).getD y false
def topB (n : Nat) (p : Nat → Bool) (ov : Nat → Nat → Bool) (z : Nat) : Bool := p z && (List.range n).all fun w => !p w || ov z w
def bestP (n : Nat) (p : Nat → Bool) (ov : Nat → Nat → Bool) : Option Nat := (List.range n).find? (topB n p ov)
def meetO (n : Nat) (r : Nat → Nat → Bool) (x y : Nat) : Option Nat := bestP n (fun z => r z x && r z y) (fun z w => r w z)
def joinO (n : Nat) (r : Nat → Nat → Bool) (x y : Nat) : Option Nat := bestP n (fun z => r x z && r y z) (fun z w => r z w)
def mt (n : Nat) (r : Nat → Nat → Bool) (x y : Nat) : Nat := (meetO n r x y).getD 0
def jn (n : Nat) (r : Nat → Nat → Bool) (x y : Nat) : Nat := (joinO n r x y).getD 0
def imO (n : Nat) (r : Nat → Nat → Bool) (x y : Nat) : Option Nat := bestP n (fun z => r (mt n r z x) y) (fun z w => r w z)
def im (n : Nat) (r : Nat → Nat → Bool) (x y : Nat) : Nat := (imO n r x y).getD 0
def lowP (n : Nat) (r : Nat → Nat → Bool) : Nat := (bestP n (fun _ => true) (fun z w => r z w)).getD 0
def highP (n : Nat) (r : Nat → Nat → Bool) : Nat := (bestP n (fun _ => true) (fun z w => r w z)).getD 0
def ordP (n : Nat) (r : Nat → Nat → Bool) : Bool :=
  (List.range n).all fun x => r x x && (List.range n).all fun y => !((x != y) && r x y && r y x) && (List.range n).all fun z => !(r x y && r y z && !r x z)
def tabB (n : Nat) (r : Nat → Nat → Bool) (x y : Nat) : Bool := (meetO n r x y).isSome && (joinO n r x y).isSome
def tabsP (n : Nat) (r : Nat → Nat → Bool) : Bool := (List.range n).all fun x => (List.range n).all fun y => tabB n r x y
def distB (n : Nat) (r : Nat → Nat → Bool) (x y z : Nat) : Bool := mt n r x (jn n r y z) == jn n r (mt n r x y) (mt n r x z)
def distP (n : Nat) (r : Nat → Nat → Bool) : Bool := (List.range n).all fun x => (List.range n).all fun y => (List.range n).all fun z => distB n r x y z
def algP (L : List (List Bool)) : Bool :=
  decide (1 ≤ L.length) && decide (L.length ≤ 64) && L.all (fun row => row.length == L.length) && ordP L.length (at2 L) && tabsP L.length (at2 L) && distP L.length (at2 L)
theorem bestP_some {n : Nat} {p : Nat → Bool} {ov : Nat → Nat → Bool} {z : Nat} (h : bestP n p ov = some z) : z < n ∧ p z = true ∧ ∀ w, w < n → p w = true → ov z w = true := by
  have h1 := List.find?_some h
  have h2 := List.mem_of_find?_eq_some h
  unfold topB at h1
  rw [Bool.and_eq_true, List.all_eq_true] at h1
  refine ⟨List.mem_range.1 h2, h1.1, fun w hw hp => ?_⟩
  have := h1.2 w (List.mem_range.2 hw)
  simpa [hp] using this
theorem bestP_lt {n : Nat} {p : Nat → Bool} {ov : Nat → Nat → Bool} (hn : 1 ≤ n) : (bestP n p ov).getD 0 < n := by
  cases e : bestP n p ov with
  | none => exact hn
  | some z => exact (bestP_some e).1
theorem mt_lt {n : Nat} {r : Nat → Nat → Bool} (hn : 1 ≤ n) (x y : Nat) : mt n r x y < n := bestP_lt hn
theorem jn_lt {n : Nat} {r : Nat → Nat → Bool} (hn : 1 ≤ n) (x y : Nat) : jn n r x y < n := bestP_lt hn
theorem im_lt {n : Nat} {r : Nat → Nat → Bool} (hn : 1 ≤ n) (x y : Nat) : im n r x y < n := bestP_lt hn
theorem low_lt {n : Nat} {r : Nat → Nat → Bool} (hn : 1 ≤ n) : lowP n r < n := bestP_lt hn
structure PO (n : Nat) (r : Nat → Nat → Bool) : Prop where
  refl : ∀ x, x < n → r x x = true
  anti : ∀ x y, x < n → y < n → r x y = true → r y x = true → x = y
  trans : ∀ x y z, x < n → y < n → z < n → r x y = true → r y z = true → r x z = true
theorem PO.flip {n : Nat} {r : Nat → Nat → Bool} (h : PO n r) : PO n fun x y => r y x :=
  ⟨h.refl, fun x y hx hy a b => h.anti x y hx hy b a, fun x y z hx hy hz a b => h.trans z y x hz hy hx b a⟩
theorem po_of {n : Nat} {r : Nat → Nat → Bool} (h : ordP n r = true) : PO n r := by
  unfold ordP at h
  rw [List.all_eq_true] at h
  have h1 : ∀ x, x < n → r x x = true ∧ ∀ y, y < n → ((x != y) && r x y && r y x) = false ∧ ∀ z, z < n → (r x y && r y z && !r x z) = false := fun x hx => by
    have := h x (List.mem_range.2 hx)
    rw [Bool.and_eq_true, List.all_eq_true] at this
    refine ⟨this.1, fun y hy => ?_⟩
    have := this.2 y (List.mem_range.2 hy)
    rw [Bool.and_eq_true, List.all_eq_true] at this
    refine ⟨by rw [← Bool.not_eq_true']; exact this.1, fun z hz => ?_⟩
    have := this.2 z (List.mem_range.2 hz)
    rw [← Bool.not_eq_true']
    exact this
  refine ⟨fun x hx => (h1 x hx).1, fun x y hx hy a b => ?_, fun x y z hx hy hz a b => ?_⟩
  · have := ((h1 x hx).2 y hy).1
    rw [a, b] at this
    simpa using this
  · have := ((h1 x hx).2 y hy).2 z hz
    rw [a, b] at this
    simpa using this
theorem bestP_is {n : Nat} {r : Nat → Nat → Bool} (h : PO n r) {p : Nat → Bool} {g : Nat} (hg : g < n) (hp : p g = true) (hall : ∀ w, w < n → p w = true → r w g = true) : bestP n p (fun z w => r w z) = some g := by
  have hex : topB n p (fun z w => r w z) g = true := by
    unfold topB
    rw [hp, Bool.true_and, List.all_eq_true]
    intro w hw
    cases e : p w with
    | false => rfl
    | true => exact hall w (List.mem_range.1 hw) e
  cases e : bestP n p (fun z w => r w z) with
  | none =>
    unfold bestP at e
    rw [List.find?_eq_none] at e
    exact absurd hex (by simpa using e g (List.mem_range.2 hg))
  | some z =>
    obtain ⟨h1, h2, h3⟩ := bestP_some e
    congr 1
    exact h.anti z g h1 hg (hall z h1 h2) (h3 g hg hp)
def ovr (r : Nat → Nat → Bool) : Option Nat → Nat → Bool
  | none, _ => true
  | some o, z => r o z
def runB (p : Nat → Bool) (r : Nat → Nat → Bool) (out : Option Nat) (z : Nat) : Option Nat := if p z && ovr r out z then some z else out
theorem run_keep {n : Nat} {r : Nat → Nat → Bool} (h : PO n r) {p : Nat → Bool} {g : Nat} (hg : g < n) (hall : ∀ w, w < n → p w = true → r w g = true) : ∀ l : List Nat, (∀ w ∈ l, w < n) → l.foldl (runB p r) (some g) = some g
  | [], _ => rfl
  | w :: l, hl => by
    have hw := hl w List.mem_cons_self
    rw [List.foldl_cons]
    have : runB p r (some g) w = some g := by
      unfold runB
      split
      · rename_i e
        rw [Bool.and_eq_true] at e
        rw [h.anti w g hw hg (hall w hw e.1) e.2]
      · rfl
    rw [this]
    exact run_keep h hg hall l fun w' hw' => hl w' (List.mem_cons_of_mem _ hw')
theorem run_is {n : Nat} {r : Nat → Nat → Bool} (h : PO n r) {p : Nat → Bool} {g : Nat} (hg : g < n) (hp : p g = true) (hall : ∀ w, w < n → p w = true → r w g = true) :
    ∀ (l : List Nat) (out : Option Nat), (∀ w ∈ l, w < n) → g ∈ l → (∀ o, out = some o → o < n ∧ p o = true) → l.foldl (runB p r) out = some g
  | [], _, _, hm, _ => by cases hm
  | w :: l, out, hl, hm, ho => by
    have hw := hl w List.mem_cons_self
    have hl' : ∀ w' ∈ l, w' < n := fun w' hw' => hl w' (List.mem_cons_of_mem _ hw')
    rw [List.foldl_cons]
    by_cases e : w = g
    · subst e
      have : runB p r out w = some w := by
        unfold runB
        rw [hp, Bool.true_and]
        cases out with
        | none => rfl
        | some o => simp [ovr, hall o (ho o rfl).1 (ho o rfl).2]
      rw [this]
      exact run_keep h hw hall l hl'
    · refine run_is h hg hp hall l _ hl' ?_ fun o eo => ?_
      · rcases List.mem_cons.1 hm with h1 | h1
        · exact absurd h1.symm e
        · exact h1
      · unfold runB at eo
        split at eo
        · rename_i e2
          cases eo
          exact ⟨hw, by rw [Bool.and_eq_true] at e2; exact e2.1⟩
        · exact ho o eo
structure Lat (n : Nat) (r : Nat → Nat → Bool) : Prop where
  pos : 1 ≤ n
  po : PO n r
  meet : ∀ x y, x < n → y < n → r (mt n r x y) x = true ∧ r (mt n r x y) y = true ∧ ∀ w, w < n → r w x = true → r w y = true → r w (mt n r x y) = true
  join : ∀ x y, x < n → y < n → r x (jn n r x y) = true ∧ r y (jn n r x y) = true ∧ ∀ w, w < n → r x w = true → r y w = true → r (jn n r x y) w = true
  dist : ∀ x y z, x < n → y < n → z < n → mt n r x (jn n r y z) = jn n r (mt n r x y) (mt n r x z)
theorem lat_of {L : List (List Bool)} (h : algP L = true) : Lat L.length (at2 L) := by
  unfold algP at h
  simp only [Bool.and_eq_true, decide_eq_true_eq] at h
  obtain ⟨⟨⟨⟨⟨h1, h2⟩, h3⟩, h4⟩, h5⟩, h6⟩ := h
  have ht : ∀ x y, x < L.length → y < L.length → tabB L.length (at2 L) x y = true := fun x y hx hy => by
    unfold tabsP at h5
    rw [List.all_eq_true] at h5
    have := h5 x (List.mem_range.2 hx)
    rw [List.all_eq_true] at this
    exact this y (List.mem_range.2 hy)
  refine ⟨h1, po_of h4, fun x y hx hy => ?_, fun x y hx hy => ?_, fun x y z hx hy hz => ?_⟩
  · have := ht x y hx hy
    unfold tabB at this
    rw [Bool.and_eq_true] at this
    obtain ⟨z, e⟩ := Option.isSome_iff_exists.1 this.1
    have e' : mt L.length (at2 L) x y = z := by unfold mt; rw [e]; rfl
    unfold meetO at e
    obtain ⟨a, b, c⟩ := bestP_some e
    simp only [Bool.and_eq_true] at b c
    rw [e']
    exact ⟨b.1, b.2, fun w hw h1 h2 => c w hw ⟨h1, h2⟩⟩
  · have := ht x y hx hy
    unfold tabB at this
    rw [Bool.and_eq_true] at this
    obtain ⟨z, e⟩ := Option.isSome_iff_exists.1 this.2
    have e' : jn L.length (at2 L) x y = z := by unfold jn; rw [e]; rfl
    unfold joinO at e
    obtain ⟨a, b, c⟩ := bestP_some e
    simp only [Bool.and_eq_true] at b c
    rw [e']
    exact ⟨b.1, b.2, fun w hw h1 h2 => c w hw ⟨h1, h2⟩⟩
  · unfold distP at h6
    rw [List.all_eq_true] at h6
    have := h6 x (List.mem_range.2 hx)
    rw [List.all_eq_true] at this
    have := this y (List.mem_range.2 hy)
    rw [List.all_eq_true] at this
    have := this z (List.mem_range.2 hz)
    unfold distB at this
    simpa using this
section
variable {n : Nat} {r : Nat → Nat → Bool} (A : Lat n r)
include A
theorem Lat.comm {x y : Nat} (hx : x < n) (hy : y < n) : mt n r x y = mt n r y x := by
  have l1 := mt_lt (r := r) A.pos x y
  have l2 := mt_lt (r := r) A.pos y x
  obtain ⟨a, b, c⟩ := A.meet x y hx hy
  obtain ⟨a', b', c'⟩ := A.meet y x hy hx
  exact A.po.anti _ _ l1 l2 (c' _ l1 b a) (c _ l2 b' a')
theorem Lat.great {p : Nat → Bool} {s : Nat} (hs : s < n) (hp : p s = true) (hj : ∀ x y, x < n → y < n → p x = true → p y = true → p (jn n r x y) = true) : ∃ g, g < n ∧ p g = true ∧ ∀ w, w < n → p w = true → r w g = true := by
  have : ∀ l : List Nat, (∀ w ∈ l, w < n) → ∃ g, g < n ∧ p g = true ∧ ∀ w ∈ l, p w = true → r w g = true := by
    intro l
    induction l with
    | nil => exact fun _ => ⟨s, hs, hp, fun w hw => by cases hw⟩
    | cons w l ih =>
      intro hl
      obtain ⟨g, g1, g2, g3⟩ := ih fun w' hw' => hl w' (List.mem_cons_of_mem _ hw')
      have hw := hl w List.mem_cons_self
      cases e : p w with
      | false =>
        refine ⟨g, g1, g2, fun w' hw' hp' => ?_⟩
        rcases List.mem_cons.1 hw' with rfl | h1
        · rw [e] at hp'; cases hp'
        · exact g3 w' h1 hp'
      | true =>
        obtain ⟨j1, j2, j3⟩ := A.join w g hw g1
        refine ⟨jn n r w g, jn_lt A.pos _ _, hj w g hw g1 e g2, fun w' hw' hp' => ?_⟩
        rcases List.mem_cons.1 hw' with rfl | h1
        · exact j1
        · exact A.po.trans _ _ _ (hl w' hw') g1 (jn_lt A.pos _ _) (g3 w' h1 hp') j2
  obtain ⟨g, g1, g2, g3⟩ := this (List.range n) fun w hw => List.mem_range.1 hw
  exact ⟨g, g1, g2, fun w hw hp => g3 w (List.mem_range.2 hw) hp⟩
theorem Lat.least {p : Nat → Bool} {s : Nat} (hs : s < n) (hp : p s = true) (hj : ∀ x y, x < n → y < n → p x = true → p y = true → p (mt n r x y) = true) : ∃ g, g < n ∧ p g = true ∧ ∀ w, w < n → p w = true → r g w = true := by
  have : ∀ l : List Nat, (∀ w ∈ l, w < n) → ∃ g, g < n ∧ p g = true ∧ ∀ w ∈ l, p w = true → r g w = true := by
    intro l
    induction l with
    | nil => exact fun _ => ⟨s, hs, hp, fun w hw => by cases hw⟩
    | cons w l ih =>
      intro hl
      obtain ⟨g, g1, g2, g3⟩ := ih fun w' hw' => hl w' (List.mem_cons_of_mem _ hw')
      have hw := hl w List.mem_cons_self
      cases e : p w with
      | false =>
        refine ⟨g, g1, g2, fun w' hw' hp' => ?_⟩
        rcases List.mem_cons.1 hw' with rfl | h1
        · rw [e] at hp'; cases hp'
        · exact g3 w' h1 hp'
      | true =>
        obtain ⟨j1, j2, j3⟩ := A.meet w g hw g1
        refine ⟨mt n r w g, mt_lt A.pos _ _, hj w g hw g1 e g2, fun w' hw' hp' => ?_⟩
        rcases List.mem_cons.1 hw' with rfl | h1
        · exact j1
        · exact A.po.trans _ _ _ (mt_lt A.pos _ _) g1 (hl w' hw') j2 (g3 w' h1 hp')
  obtain ⟨g, g1, g2, g3⟩ := this (List.range n) fun w hw => List.mem_range.1 hw
  exact ⟨g, g1, g2, fun w hw hp => g3 w (List.mem_range.2 hw) hp⟩
theorem Lat.mono {a b c d : Nat} (ha : a < n) (hb : b < n) (hc : c < n) (hd : d < n) (h1 : r a c = true) (h2 : r b d = true) : r (mt n r a b) (mt n r c d) = true := by
  obtain ⟨m1, m2, m3⟩ := A.meet a b ha hb
  obtain ⟨k1, k2, k3⟩ := A.meet c d hc hd
  have l := mt_lt (r := r) A.pos a b
  exact k3 _ l (A.po.trans _ _ _ l ha hc m1 h1) (A.po.trans _ _ _ l hb hd m2 h2)
theorem Lat.imp {x y : Nat} (hx : x < n) (hy : y < n) : ∃ g, g < n ∧ r (mt n r g x) y = true ∧ (∀ w, w < n → r (mt n r w x) y = true → r w g = true) ∧ imO n r x y = some g ∧
    (List.range n).foldl (runB (fun z => r (mt n r z x) y) r) none = some g := by
  obtain ⟨g, g1, g2, g3⟩ := A.great (p := fun z => r (mt n r z x) y) (s := y) hy (A.meet y x hy hx).1 fun z w hz hw h1 h2 => by
    have l1 := jn_lt (r := r) A.pos z w
    have m1 := mt_lt (r := r) A.pos x z
    have m2 := mt_lt (r := r) A.pos x w
    show r (mt n r (jn n r z w) x) y = true
    rw [A.comm l1 hx, A.dist x z w hx hz hw]
    have h1' : r (mt n r x z) y = true := by rw [A.comm hx hz]; exact h1
    have h2' : r (mt n r x w) y = true := by rw [A.comm hx hw]; exact h2
    exact (A.join _ _ m1 m2).2.2 y hy h1' h2'
  exact ⟨g, g1, g2, g3, bestP_is A.po g1 g2 g3, run_is A.po g1 g2 g3 _ none (fun w hw => List.mem_range.1 hw) (List.mem_range.2 g1) fun o e => by cases e⟩
theorem Lat.high : ∀ o, o < n → (List.range n).foldl (runB (fun _ => true) r) (some o) = some (highP n r) := by
  obtain ⟨g, g1, g2, g3⟩ := A.great (p := fun _ => true) (s := 0) A.pos rfl fun _ _ _ _ _ _ => rfl
  have e : highP n r = g := by unfold highP; rw [bestP_is A.po g1 g2 g3]; rfl
  intro o ho
  rw [e]
  exact run_is A.po g1 g2 g3 _ _ (fun w hw => List.mem_range.1 hw) (List.mem_range.2 g1) fun o' e' => by cases e'; exact ⟨ho, rfl⟩
theorem Lat.low : ∀ o, o < n → (List.range n).foldl (runB (fun _ => true) fun x y => r y x) (some o) = some (lowP n r) := by
  obtain ⟨g, g1, g2, g3⟩ := A.least (p := fun _ => true) (s := 0) A.pos rfl fun _ _ _ _ _ _ => rfl
  have e : lowP n r = g := by
    unfold lowP
    have := bestP_is (r := fun x y => r y x) A.po.flip g1 g2 g3
    rw [this]; rfl
  intro o ho
  rw [e]
  exact run_is (r := fun x y => r y x) A.po.flip g1 g2 g3 _ _ (fun w hw => List.mem_range.1 hw) (List.mem_range.2 g1) fun o' e' => by cases e'; exact ⟨ho, rfl⟩
end
end Go.Proofs.YtljglglbfcgjpaaGreat

namespace Go.Proofs.YtljglglbfcgjpaaGreat
open Go Go.Sym Go.Proofs.Tryz
variable {K : AVal → Heap → Prop} {h : Heap} {n : Nat} {r : Nat → Nat → Bool} {f : AVal}
def T1 (f : AVal) (n : Nat) (p : Nat → Bool) : Prop := ∀ (x : Nat) (h : Heap) (K : AVal → Heap → Prop), x < n → K (.bool (p x)) h → callV prog f [.int .i64 (x : Int)] h K
def T2 (f : AVal) (n : Nat) (p : Nat → Nat → Bool) : Prop := ∀ (x y : Nat) (h : Heap) (K : AVal → Heap → Prop), x < n → y < n → K (.bool (p x y)) h → callV prog f [.int .i64 (x : Int), .int .i64 (y : Int)] h K
def topW (p : Nat → Bool) (ov : Nat → Nat → Bool) (z w : Nat) : Bool := (List.range w).all fun w => !p w || ov z w
theorem topW_succ (p : Nat → Bool) (ov : Nat → Nat → Bool) (z w : Nat) : topW p ov z (w + 1) = (topW p ov z w && (!p w || ov z w)) := by
  unfold topW
  rw [List.range_succ, List.all_append]
  simp
def bestFrom (p : Nat → Bool) (ov : Nat → Nat → Bool) (n z d : Nat) : Option Nat := (List.range' z d).find? (topB n p ov)
theorem best_from (p : Nat → Bool) (ov : Nat → Nat → Bool) : bestP n p ov = bestFrom p ov n 0 n := by
  unfold bestP bestFrom
  rw [List.range_eq_range']
def bestV (o : Option Nat) : AVal := .tuple [.int .i64 ((o.getD 0 : Nat) : Int), .bool o.isSome]
section
variable {fi fo : AVal} {p : Nat → Bool} {ov : Nat → Nat → Bool} (hi : T1 fi n p) (ho : T2 fo n ov) (hn : n ≤ 1073741824)
include hi ho hn
theorem best_l3 {z : Nat} (hz : z < n) {L1 : s75l1_T} (yes : topW p ov z n = true → K (bestV (some z)) h) (no : topW p ov z n = false → L1 n fi fo (n : Int) ((z : Int) + 1) h) :
    ∀ d w : Nat, w + d = n → s75l3 K L1 (d + 1) n fi fo (z : Int) (topW p ov z w) (n : Int) (z : Int) (n : Int) (w : Int) h
  | 0, w, hd => by
    obtain rfl : w = n := by omega
    unfold s75l3
    refine ifT_neg (by simp) ?_
    cases e : topW p ov z w with
    | true => exact ifT_pos rfl (retG_of (yes e))
    | false =>
      refine ifT_neg rfl ?_
      unfold s75c2
      exact rg_of (by omega) (by omega) (no e)
  | d + 1, w, hd => by
    have next : s75c4 K L1 (s75l3_G (s75l3 K L1 (d + 1))) n fi fo (z : Int) (topW p ov z (w + 1)) (n : Int) (z : Int) (n : Int) (w : Int) h := by
      unfold s75c4
      exact rg_of (by omega) (by omega) (s75l3_go (best_l3 hz yes no d (w + 1) (by omega)))
    rw [topW_succ] at next
    unfold s75l3
    refine ifT_pos (by simp; omega) ?_
    cases e : topW p ov z w with
    | false =>
      rw [e, Bool.false_and] at next
      exact ifT_neg rfl next
    | true =>
      rw [e, Bool.true_and] at next
      refine ifT_pos rfl (hi w h _ (by omega) ?_)
      rw [tBool_bool]
      cases e1 : p w with
      | false =>
        rw [e1] at next
        exact ifT_pos rfl next
      | true =>
        rw [e1] at next
        refine ifT_neg rfl (ho z w h _ hz (by omega) ?_)
        rw [tBool_bool]
        exact next
theorem best_l1 : ∀ d z : Nat, z + d = n → K (bestV (bestFrom p ov n z d)) h → s75l1 K (d + 1) n fi fo (n : Int) (z : Int) h
  | 0, z, hd, hk => by
    unfold s75l1
    exact ifT_neg (by simp; omega) (retG_of hk)
  | d + 1, z, hd, hk => by
    unfold bestFrom at hk
    rw [List.range'_succ, List.find?_cons] at hk
    unfold s75l1
    refine ifT_pos (by simp; omega) (hi z h _ (by omega) ?_)
    rw [tBool_bool]
    cases e : p z with
    | false =>
      have e2 : topB n p ov z = false := by unfold topB; rw [e, Bool.false_and]
      rw [e2] at hk
      refine ifT_pos rfl ?_
      unfold s75c2
      exact rg_of (by omega) (by omega) (s75l1_go (best_l1 d (z + 1) (by omega) hk))
    | true =>
      have e2 : topB n p ov z = topW p ov z n := by unfold topB topW; rw [e, Bool.true_and]
      rw [e2] at hk
      refine ifT_neg rfl (s75l3_in (n + 1) ?_)
      have h0 : topW p ov z 0 = true := rfl
      rw [← h0]
      refine best_l3 hi ho hn (by omega) (fun e3 => ?_) (fun e3 => ?_) n 0 (by omega)
      · rw [e3] at hk; exact hk
      · rw [e3] at hk
        exact s75l1_go (best_l1 d (z + 1) (by omega) hk)
theorem best_ok (hk : K (bestV (bestP n p ov)) h) : ACalls prog 75 [.int .i64 (n : Int), fi, fo] h K := by
  rw [best_from] at hk
  refine s75_ok ?_
  unfold s75
  exact s75l1_in (n + 1) (best_l1 hi ho hn n 0 (by omega) hk)
end
abbrev latC (n : Nat) (f : AVal) : List AVal := [.int .i64 (n : Int), f]
abbrev latV (n : Nat) (f : AVal) : AVal := .agg (latC n f)
section
variable (hf : T2 f n r)
include hf
theorem up_tells : T2 (.func (.func 77) [latV n f] []) n fun z w => r w z := by
  intro z w h K hz hw hk
  show callG prog 77 ([latV n f] ++ [.int .i64 (z : Int), .int .i64 (w : Int)] ++ []) h K
  refine callG_of (s77_ok ?_)
  unfold s77
  refine hf w z h _ hw hz ?_
  rw [tBool_bool]
  exact retG_of hk
theorem down_tells : T2 (.func (.func 76) [latV n f] []) n fun z w => r z w := by
  intro z w h K hz hw hk
  show callG prog 76 ([latV n f] ++ [.int .i64 (z : Int), .int .i64 (w : Int)] ++ []) h K
  refine callG_of (s76_ok ?_)
  unfold s76
  refine hf z w h _ hz hw ?_
  rw [tBool_bool]
  exact retG_of hk
theorem meet1_tells {x y : Nat} (hx : x < n) (hy : y < n) : T1 (.func (.func 95) [] [.lptr (latC n f), .lptr [.int .i64 (x : Int)], .lptr [.int .i64 (y : Int)]]) n fun z => r z x && r z y := by
  intro z h K hz hk
  show callG prog 95 ([] ++ [.int .i64 (z : Int)] ++ [.lptr (latC n f), .lptr [.int .i64 (x : Int)], .lptr [.int .i64 (y : Int)]]) h K
  refine callG_of (s95_ok ?_)
  unfold s95
  simp only [addOff_lptr, List.drop_succ_cons, List.drop_zero, ld1_lptr, tInt_int]
  refine hf z x h _ hz hx ?_
  rw [tBool_bool]
  cases e : r z x with
  | false => exact ifT_neg rfl (retG_of (by simpa [e] using hk))
  | true =>
    refine ifT_pos rfl (hf z y h _ hz hy ?_)
    rw [tBool_bool]
    exact retG_of (by simpa [e] using hk)
theorem join1_tells {x y : Nat} (hx : x < n) (hy : y < n) : T1 (.func (.func 78) [] [.lptr (latC n f), .lptr [.int .i64 (x : Int)], .lptr [.int .i64 (y : Int)]]) n fun z => r x z && r y z := by
  intro z h K hz hk
  show callG prog 78 ([] ++ [.int .i64 (z : Int)] ++ [.lptr (latC n f), .lptr [.int .i64 (x : Int)], .lptr [.int .i64 (y : Int)]]) h K
  refine callG_of (s78_ok ?_)
  unfold s78
  simp only [addOff_lptr, List.drop_succ_cons, List.drop_zero, ld1_lptr, tInt_int]
  refine hf x z h _ hx hz ?_
  rw [tBool_bool]
  cases e : r x z with
  | false => exact ifT_neg rfl (retG_of (by simpa [e] using hk))
  | true =>
    refine ifT_pos rfl (hf y z h _ hy hz ?_)
    rw [tBool_bool]
    exact retG_of (by simpa [e] using hk)
variable (hn : n ≤ 1073741824)
include hn
theorem meetH_ok {x y : Nat} (hx : x < n) (hy : y < n) (hk : K (bestV (meetO n r x y)) h) : ACalls prog 50 [latV n f, .int .i64 (x : Int), .int .i64 (y : Int)] h K := by
  refine s50_ok ?_
  unfold s50
  refine callG_of (best_ok (meet1_tells hf hx hy) (up_tells hf) hn ?_)
  unfold bestV
  rw [tTup_tuple, tCons_cons, tInt_int, tCons_cons, tBool_bool, tNil_nil]
  exact retG_of hk
theorem joinH_ok {x y : Nat} (hx : x < n) (hy : y < n) (hk : K (bestV (joinO n r x y)) h) : ACalls prog 37 [latV n f, .int .i64 (x : Int), .int .i64 (y : Int)] h K := by
  refine s37_ok ?_
  unfold s37
  refine callG_of (best_ok (join1_tells hf hx hy) (down_tells hf) hn ?_)
  unfold bestV
  rw [tTup_tuple, tCons_cons, tInt_int, tCons_cons, tBool_bool, tNil_nil]
  exact retG_of hk
theorem imp1_tells {x y : Nat} (hx : x < n) (hy : y < n) : T1 (.func (.func 96) [] [.lptr (latC n f), .lptr [.int .i64 (x : Int)], .lptr [.int .i64 (y : Int)]]) n fun z => r (mt n r z x) y := by
  intro z h K hz hk
  show callG prog 96 ([] ++ [.int .i64 (z : Int)] ++ [.lptr (latC n f), .lptr [.int .i64 (x : Int)], .lptr [.int .i64 (y : Int)]]) h K
  refine callG_of (s96_ok ?_)
  unfold s96
  rw [ldN_agg2, tCons_cons, tInt_int, tCons_cons, tNil_nil, ld1_lptr, tInt_int]
  refine callG_of (meetH_ok hf hn hz hx ?_)
  unfold bestV
  rw [tTup_tuple, tCons_cons, tInt_int, tCons_cons, tBool_bool, tNil_nil]
  simp only [addOff_lptr, List.drop_succ_cons, List.drop_zero, ld1_lptr, tInt_int]
  refine hf (mt n r z x) y h _ (mt_lt (by omega) _ _) hy ?_
  rw [tBool_bool]
  exact retG_of hk
theorem impH_ok {x y : Nat} (hx : x < n) (hy : y < n) (hk : K (.int .i64 ((im n r x y : Nat) : Int)) h) : ACalls prog 51 [latV n f, .int .i64 (x : Int), .int .i64 (y : Int)] h K := by
  refine s51_ok ?_
  unfold s51
  refine callG_of (best_ok (imp1_tells hf hn hx hy) (up_tells hf) hn ?_)
  unfold bestV
  rw [tTup_tuple, tCons_cons, tInt_int, tCons_cons, tBool_bool, tNil_nil]
  exact retG_of hk
omit hf hn in
theorem all1_tells : T1 (.func (.func 74) [] []) n fun _ => true := by
  intro z h K _ hk
  show callG prog 74 ([] ++ [.int .i64 (z : Int)] ++ []) h K
  refine callG_of (s74_ok ?_)
  unfold s74
  exact retG_of hk
theorem boundsH_ok (hk : K (.tuple [.int .i64 ((lowP n r : Nat) : Int), .int .i64 ((highP n r : Nat) : Int)]) h) : ACalls prog 36 [latV n f] h K := by
  refine s36_ok ?_
  unfold s36
  refine callG_of (best_ok all1_tells (down_tells hf) hn ?_)
  unfold bestV
  rw [tTup_tuple, tCons_cons, tInt_int, tCons_cons, tBool_bool, tNil_nil]
  refine callG_of (best_ok all1_tells (up_tells hf) hn ?_)
  unfold bestV
  rw [tTup_tuple, tCons_cons, tInt_int, tCons_cons, tBool_bool, tNil_nil]
  exact retG_of hk
end
/- ---------------- is it a partial order? ---------------- -/
def ordZ (r : Nat → Nat → Bool) (x y z : Nat) : Bool := !(r x y && r y z && !r x z)
def ordY (n : Nat) (r : Nat → Nat → Bool) (x y : Nat) : Bool := !((x != y) && r x y && r y x) && (List.range n).all (ordZ r x y)
def ordX (n : Nat) (r : Nat → Nat → Bool) (x : Nat) : Bool := r x x && (List.range n).all (ordY n r x)
theorem ordP_eq : ordP n r = (List.range n).all (ordX n r) := rfl
theorem all_of {p : Nat → Bool} (h : ∀ x, x < n → p x = true) : (List.range n).all p = true := List.all_eq_true.2 fun x hx => h x (List.mem_range.1 hx)
theorem all_not {p : Nat → Bool} {x : Nat} (hx : x < n) (h : p x = false) : (List.range n).all p = false := by
  rw [List.all_eq_false]
  exact ⟨x, List.mem_range.2 hx, by simp [h]⟩
section
variable (hf : T2 f n r) (hn : n ≤ 1073741824)
include hf hn
theorem ordered_l4 {x y : Nat} (hx : x < n) (hy : y < n) {L1 : s72l1_T} {L2 : s72l2_T} (no : ∀ z, z < n → ordZ r x y z = false → K (.bool false) h)
    (yes : (∀ z, z < n → ordZ r x y z = true) → L2 (.lptr (latC n f)) (x : Int) n (x : Int) n ((y : Int) + 1) h) : ∀ d z : Nat, z + d = n → (∀ z', z' < z → ordZ r x y z' = true) →
    s72l4 K L1 L2 (d + 1) (.lptr (latC n f)) (x : Int) (y : Int) n (x : Int) n (y : Int) (n : Int) (z : Int) h
  | 0, z, hd, hb => by
    unfold s72l4
    exact ifT_neg (by simp; omega) (rg_of (by omega) (by omega) (yes fun z' hz' => hb z' (by omega)))
  | d + 1, z, hd, hb => by
    have next : ordZ r x y z = true → s72c5 K L1 L2 (s72l4_G (s72l4 K L1 L2 (d + 1))) (.lptr (latC n f)) (x : Int) (y : Int) n (x : Int) n (y : Int) (n : Int) (z : Int) false h := fun e => by
      unfold s72c5
      refine ifT_neg rfl (rg_of (by omega) (by omega) (s72l4_go (ordered_l4 hx hy no yes d (z + 1) (by omega) fun z' hz' => ?_)))
      by_cases e2 : z' = z
      · rw [e2]; exact e
      · exact hb z' (by omega)
    unfold s72l4
    refine ifT_pos (by simp; omega) ?_
    simp only [addOff_lptr, List.drop_succ_cons, List.drop_zero, ld1_lptr]
    refine hf x y h _ hx hy ?_
    rw [tBool_bool]
    cases e1 : r x y with
    | false => exact ifT_neg rfl (next (by simp [ordZ, e1]))
    | true =>
      refine ifT_pos rfl (hf y z h _ hy (by omega) ?_)
      rw [tBool_bool]
      cases e2 : r y z with
      | false => exact ifT_neg rfl (next (by simp [ordZ, e2]))
      | true =>
        refine ifT_pos rfl (hf x z h _ hx (by omega) ?_)
        rw [tBool_bool]
        cases e3 : r x z with
        | true => exact next (by simp [ordZ, e3])
        | false =>
          unfold s72c5
          exact ifT_pos rfl (retG_of (no z (by omega) (by simp [ordZ, e1, e2, e3])))
theorem ordered_l2 {x : Nat} (hx : x < n) {L1 : s72l1_T} (no : ∀ y, y < n → ordY n r x y = false → K (.bool false) h)
    (yes : (∀ y, y < n → ordY n r x y = true) → L1 (.lptr (latC n f)) n ((x : Int) + 1) h) : ∀ d y : Nat, y + d = n → (∀ y', y' < y → ordY n r x y' = true) →
    s72l2 K L1 (d + 1) (.lptr (latC n f)) (x : Int) n (x : Int) (n : Int) (y : Int) h
  | 0, y, hd, hb => by
    unfold s72l2
    exact ifT_neg (by simp; omega) (rg_of (by omega) (by omega) (yes fun z' hz' => hb z' (by omega)))
  | d + 1, y, hd, hb => by
    have next : ((x != y) && r x y && r y x) = false → s72c3 K L1 (s72l2_G (s72l2 K L1 (d + 1))) (.lptr (latC n f)) (x : Int) (y : Int) n (x : Int) n (y : Int) false h := fun e => by
      unfold s72c3
      refine ifT_neg rfl ?_
      simp only [addOff_lptr, List.drop_zero, ld1_lptr, tInt_int]
      refine s72l4_in (n + 1) (ordered_l4 hf hn hx (by omega) (fun z hz ez => no y (by omega) ?_) (fun hall => ?_) n 0 (by omega) (fun z' hz' => by omega))
      · unfold ordY; rw [all_not hz ez, Bool.and_false]
      · refine s72l2_go (ordered_l2 hx no yes d (y + 1) (by omega) fun y' hy' => ?_)
        by_cases e2 : y' = y
        · subst e2
          unfold ordY
          rw [e, all_of hall]; rfl
        · exact hb y' (by omega)
    unfold s72l2
    refine ifT_pos (by simp; omega) ?_
    by_cases exy : x = y
    · exact ifT_neg (by simp [exy]) (next (by simp [exy]))
    · refine ifT_pos (by simp; omega) ?_
      simp only [addOff_lptr, List.drop_succ_cons, List.drop_zero, ld1_lptr]
      refine hf x y h _ hx (by omega) ?_
      rw [tBool_bool]
      cases e1 : r x y with
      | false => exact ifT_neg rfl (next (by simp [e1]))
      | true =>
        refine ifT_pos rfl (hf y x h _ (by omega) hx ?_)
        rw [tBool_bool]
        cases e2 : r y x with
        | false => exact next (by simp [e2])
        | true =>
          unfold s72c3
          refine ifT_pos rfl (retG_of (no y (by omega) ?_))
          unfold ordY
          simp [exy, e1, e2]
theorem ordered_l1 (hk : K (.bool (ordP n r)) h) : ∀ d x : Nat, x + d = n → (∀ x', x' < x → ordX n r x' = true) → s72l1 K (d + 1) (.lptr (latC n f)) (n : Int) (x : Int) h
  | 0, x, hd, hb => by
    have e : ordP n r = true := by rw [ordP_eq]; exact all_of fun x' hx' => hb x' (by omega)
    rw [e] at hk
    unfold s72l1
    exact ifT_neg (by simp; omega) (retG_of hk)
  | d + 1, x, hd, hb => by
    have no : ordX n r x = false → K (.bool false) h := fun e => by
      have e2 : ordP n r = false := by rw [ordP_eq]; exact all_not (by omega) e
      rwa [e2] at hk
    unfold s72l1
    refine ifT_pos (by simp; omega) ?_
    simp only [addOff_lptr, List.drop_succ_cons, List.drop_zero, ld1_lptr]
    refine hf x x h _ (by omega) (by omega) ?_
    rw [tBool_bool]
    cases e1 : r x x with
    | false => exact ifT_pos rfl (retG_of (no (by simp [ordX, e1])))
    | true =>
      refine ifT_neg rfl ?_
      rw [tInt_int]
      refine s72l2_in (n + 1) (ordered_l2 hf hn (by omega) (fun y hy ey => no ?_) (fun hall => ?_) n 0 (by omega) (fun y' hy' => by omega))
      · unfold ordX; rw [all_not hy ey, Bool.and_false]
      · refine s72l1_go (ordered_l1 hk d (x + 1) (by omega) fun x' hx' => ?_)
        by_cases e2 : x' = x
        · subst e2
          unfold ordX
          rw [e1, all_of hall]; rfl
        · exact hb x' (by omega)
theorem orderedH_ok (hk : K (.bool (ordP n r)) h) : ACalls prog 72 [latV n f] h K := by
  refine s72_ok ?_
  unfold s72
  exact s72l1_in (n + 1) (ordered_l1 hf hn hk n 0 (by omega) fun x' hx' => by omega)
end
end Go.Proofs.YtljglglbfcgjpaaGreat

namespace Go.Proofs.YtljglglbfcgjpaaGreat
open Go Go.Sym Go.Proofs.Tryz
variable {K : AVal → Heap → Prop} {h h0 hb : Heap} {n : Nat} {r : Nat → Nat → Bool} {f : AVal}
/- ---------------- two groups of rows that grow ---------------- -/
theorem rowsO_at {q k : Nat} {f : Nat → AVal} {g : Nat → List Nat} (A B : List Ow) (hk : k < q) : (A ++ (rowsO q f g ++ B))[A.length + k]? = some (.slc 1 (f k) ((natI (g k)).map (.int .i64))) := by
  rw [List.getElem?_append_right (by omega), show A.length + k - A.length = k by omega, List.getElem?_append_left (by simp [rowsO, hk])]
  unfold rowsO
  exact range_get _ hk
theorem rowsO_put {q k x : Nat} {f : Nat → AVal} {g : Nat → List Nat} {v : AVal} (A B : List Ow) (hk : k < q) :
    (A ++ (rowsO q f g ++ B)).set (A.length + k) (.slc 1 v ((natI (g k)).map (.int .i64) ++ [.int .i64 (x : Int)])) = A ++ (rowsO q (upd f k v) (upd g k (g k ++ [x])) ++ B) := by
  rw [List.set_append_right _ _ (by omega), show A.length + k - A.length = k by omega, List.set_append_left _ _ (by simp [rowsO, hk])]
  congr 2
  unfold rowsO
  rw [map_set]
  refine List.map_congr_left fun y _ => ?_
  unfold upd
  split
  · simp [natI]
  · rfl
structure GT (R : Nat → List Nat) (x y : Nat) (g : Nat → List Nat) : Prop where
  lo : ∀ k, k < x → g k = R k
  at_ : g x = (R x).take y
  hi : ∀ k, x < k → g k = []
theorem GT.put {R : Nat → List Nat} {x y a : Nat} {g : Nat → List Nat} (G : GT R x y g) (ha : (R x)[y]? = some a) : GT R x (y + 1) (upd g x (g x ++ [a])) where
  lo k hk := by unfold upd; rw [if_neg (by omega)]; exact G.lo k hk
  at_ := by unfold upd; rw [if_pos rfl, G.at_, List.take_add_one, ha]; rfl
  hi k hk := by unfold upd; rw [if_neg (by omega)]; exact G.hi k hk
theorem GT.next {R : Nat → List Nat} {x y : Nat} {g : Nat → List Nat} (G : GT R x y g) (hy : (R x).length ≤ y) : GT R (x + 1) 0 g where
  lo k hk := by
    rcases Nat.lt_or_ge k x with e | e
    · exact G.lo k e
    · obtain rfl : k = x := by omega
      rw [G.at_, List.take_of_length_le hy]
  at_ := by rw [G.hi _ (by omega)]; simp
  hi k hk := G.hi k (by omega)
def mRow (n : Nat) (r : Nat → Nat → Bool) (x : Nat) : List Nat := (List.range n).map fun y => mt n r x y
def jRow (n : Nat) (r : Nat → Nat → Bool) (x : Nat) : List Nat := (List.range n).map fun y => jn n r x y
def mTab (n : Nat) (r : Nat → Nat → Bool) : List (List Int) := (List.range n).map fun x => natI (mRow n r x)
def jTab (n : Nat) (r : Nat → Nat → Bool) : List (List Int) := (List.range n).map fun x => natI (jRow n r x)
section
theorem row_app {rm x a i : Nat} {F : Nat → AVal} {G : Nat → List Nat} (A B : List Ow) (hn : n ≤ 64) (hx : x < n) (hA : A[i]? = some (.slc 1 (.sl rm 1 0 n) ((List.range n).map F))) (W : Own hb (A ++ (rowsO n F G ++ B)) h) (hl : (G x).length ≤ 64)
    {X : Heap → Prop} (hX : ∀ v h', Own hb (A.set i (.slc 1 (.sl rm 1 0 n) ((List.range n).map (upd F x v))) ++ (rowsO n (upd F x v) (upd G x (G x ++ [a])) ++ B)) h' → X h') :
    ixS 1 (.sl rm 1 0 n) (x : Int) fun p1 => ld1 h p1 fun v20 => appC 1 8 h v20 (.lsl 1 [(.int .i64 (a : Int))]) fun v21 h_4 => ixS 1 (.sl rm 1 0 n) (x : Int) fun p2 => chk (sc v21) (st true h_4 p2 [v21] X) := by
  have hi := rowsO_at (f := F) (g := G) A B hx
  have hil := (List.getElem?_eq_some_iff.1 hA).1
  have hA' : ∀ Z : List Ow, (A ++ Z)[i]? = some (.slc 1 (.sl rm 1 0 n) ((List.range n).map F)) := fun Z => by rw [List.getElem?_append_left hil]; exact hA
  have hget : ((List.range n).map F)[x]? = some (F x) := range_get _ hx
  have hag := (W.sc hi).2.2
  have rU := W.get i _ rm (hA' _) rfl
  refine ixS_sl0 hx ?_
  rw [ld1_ptr rU hget hag]
  refine W.app hi (by simp [natI]; omega) (by simp [natI]; omega) fun v2 h2 W2 => ?_
  rw [rowsO_put _ _ hx] at W2
  refine ixS_sl0 hx ?_
  have hi2 := rowsO_at (f := upd F x v2) (g := upd G x (G x ++ [a])) A B hx
  have hsc : sc v2 = true := by
    have := (W2.sc hi2).1
    unfold upd at this
    rwa [if_pos rfl] at this
  refine chk_iff.2 ⟨hsc, st_elem (W2.get i _ rm (hA' _) rfl) hget hag ?_⟩
  have hlen : ((List.range n).map F).length = n := by simp
  have hi1 := hA' (rowsO n (upd F x v2) (upd G x (G x ++ [a])) ++ B)
  have hi1' : (A ++ (rowsO n (upd F x v2) (upd G x (G x ++ [a])) ++ B))[i]? = some (.slc 1 (.sl rm 1 0 ((List.range n).map F).length) ((List.range n).map F)) := by rw [hlen]; exact hi1
  have W3 := W2.putS hi1' (l' := ((List.range n).map F).set x v2) (by simp)
  rw [hlen, map_set, List.set_append_left _ _ hil] at W3
  rw [map_set]
  exact hX v2 _ W3
end
abbrev TB2 (hb : Heap) (rm rj n : Nat) (f f' : Nat → AVal) (g g' : Nat → List Nat) (h : Heap) : Prop :=
  Own hb ([.slc 1 (.sl rm 1 0 n) ((List.range n).map f), .slc 1 (.sl rj 1 0 n) ((List.range n).map f')] ++ (rowsO n f g ++ rowsO n f' g')) h
section
variable {rm rj : Nat} {F F' : Nat → AVal} {G G' : Nat → List Nat}
theorem TB2.app1 (hn : n ≤ 64) {x a : Nat} (hx : x < n) (W : TB2 hb rm rj n F F' G G' h) (hl : (G x).length ≤ 64) {X : Heap → Prop} (hX : ∀ v h', TB2 hb rm rj n (upd F x v) F' (upd G x (G x ++ [a])) G' h' → X h') :
    ixS 1 (.sl rm 1 0 n) (x : Int) fun p1 => ld1 h p1 fun v20 => appC 1 8 h v20 (.lsl 1 [(.int .i64 (a : Int))]) fun v21 h_4 => ixS 1 (.sl rm 1 0 n) (x : Int) fun p2 => chk (sc v21) (st true h_4 p2 [v21] X) :=
  row_app (i := 0) _ _ hn hx rfl W hl fun v h' W' => hX v h' W'
theorem TB2.app2 (hn : n ≤ 64) {x a : Nat} (hx : x < n) (W : TB2 hb rm rj n F F' G G' h) (hl : (G' x).length ≤ 64) {X : Heap → Prop} (hX : ∀ v h', TB2 hb rm rj n F (upd F' x v) G (upd G' x (G' x ++ [a])) h' → X h') :
    ixS 1 (.sl rj 1 0 n) (x : Int) fun p1 => ld1 h p1 fun v20 => appC 1 8 h v20 (.lsl 1 [(.int .i64 (a : Int))]) fun v21 h_4 => ixS 1 (.sl rj 1 0 n) (x : Int) fun p2 => chk (sc v21) (st true h_4 p2 [v21] X) := by
  have e : ∀ (m j : Ow) (R R' : List Ow), [m, j] ++ (R ++ R') = ([m, j] ++ R) ++ (R' ++ []) := fun m j R R' => by simp
  have W1 : Own hb (([.slc 1 (.sl rm 1 0 n) ((List.range n).map F), .slc 1 (.sl rj 1 0 n) ((List.range n).map F')] ++ rowsO n F G) ++ (rowsO n F' G' ++ [])) h := by rw [← e]; exact W
  refine row_app (i := 1) _ _ hn hx rfl W1 hl fun v h' W' => hX v h' ?_
  have W2 : Own hb (([.slc 1 (.sl rm 1 0 n) ((List.range n).map F), .slc 1 (.sl rj 1 0 n) ((List.range n).map (upd F' x v))] ++ rowsO n F G) ++ (rowsO n (upd F' x v) (upd G' x (G' x ++ [a])) ++ [])) h' := W'
  rw [← e] at W2
  exact W2
end
section
variable (hf : T2 f n r) (hn : n ≤ 64) {rm rj : Nat}
include hf hn
theorem tables_l2 {x : Nat} (hx : x < n) {L1 : s73l1_T} {b0 : AVal × AVal} (hb0 : b0 = (.sl rm 1 0 n, .sl rj 1 0 n)) (no : ∀ y, y < n → tabB n r x y = false → K (.tuple [.nilsl, .nilsl, .bool false]) hb)
    (yes : (∀ y, y < n → tabB n r x y = true) → ∀ F F' G G' h', GT (mRow n r) x n G → GT (jRow n r) x n G' → TB2 hb rm rj n F F' G G' h' → L1 (.lptr (latC n f)) b0.1 b0.2 n ((x : Int) + 1) h') :
    ∀ d y : Nat, y + d = n → (∀ y', y' < y → tabB n r x y' = true) → ∀ F F' G G' h, GT (mRow n r) x y G → GT (jRow n r) x y G' → TB2 hb rm rj n F F' G G' h →
      s73l2 K L1 (d + 1) (.lptr (latC n f)) b0.1 b0.2 (x : Int) n (x : Int) n (y : Int) h
  | 0, y, hd, hb', F, F', G, G', h, g1, g2, W => by
    obtain rfl : y = n := by omega
    unfold s73l2
    exact ifT_neg (by simp) (rg_of (by omega) (by omega) (yes (fun z' hz' => hb' z' hz') F F' G G' h g1 g2 W))
  | d + 1, y, hd, hb', F, F', G, G', h, g1, g2, W => by
    have hy : y < n := by omega
    unfold s73l2
    refine ifT_pos (by simp; omega) ?_
    rw [ldN_agg2, tCons_cons, tInt_int, tCons_cons, tNil_nil]
    refine callG_of (meetH_ok hf (by omega) hx hy ?_)
    unfold bestV
    rw [tTup_tuple, tCons_cons, tInt_int, tCons_cons, tBool_bool, tNil_nil, ldN_agg2, tCons_cons, tInt_int, tCons_cons, tNil_nil]
    refine callG_of (joinH_ok hf (by omega) hx hy ?_)
    unfold bestV
    rw [tTup_tuple, tCons_cons, tInt_int, tCons_cons, tBool_bool, tNil_nil]
    have bad : tabB n r x y = false → s73c3 K L1 (s73l2_G (s73l2 K L1 (d + 1))) (.lptr (latC n f)) b0.1 b0.2 (x : Int) (((meetO n r x y).getD 0 : Nat) : Int) (((joinO n r x y).getD 0 : Nat) : Int) n (x : Int) n (y : Int) true h := fun e => by
      unfold s73c3
      exact ifT_pos rfl (retG_drop W.old (no y hy e))
    cases e1 : (meetO n r x y).isSome with
    | false => exact ifT_pos rfl (bad (by unfold tabB; rw [e1, Bool.false_and]))
    | true =>
      refine ifT_neg rfl ?_
      cases e2 : (joinO n r x y).isSome with
      | false => exact bad (by unfold tabB; rw [e2, Bool.and_false])
      | true =>
        have et : tabB n r x y = true := by unfold tabB; rw [e1, e2]; rfl
        show s73c3 K L1 (s73l2_G (s73l2 K L1 (d + 1))) (.lptr (latC n f)) b0.1 b0.2 (x : Int) ((mt n r x y : Nat) : Int) ((jn n r x y : Nat) : Int) n (x : Int) n (y : Int) false h
        unfold s73c3
        refine ifT_neg rfl ?_
        subst hb0
        have lm : (mRow n r x).length = n := by simp [mRow]
        have lj : (jRow n r x).length = n := by simp [jRow]
        refine W.app1 hn hx (by rw [g1.at_, List.length_take]; omega) fun v h2 W2 => ?_
        refine W2.app2 hn hx (by rw [g2.at_, List.length_take]; omega) fun v' h3 W3 => ?_
        refine rg_of (by omega) (by omega) (s73l2_go (tables_l2 hx rfl no yes d (y + 1) (by omega) (fun y' hy' => ?_) _ _ _ _ _ (g1.put (range_get _ hy)) (g2.put (range_get _ hy)) W3))
        by_cases e3 : y' = y
        · rw [e3]; exact et
        · exact hb' y' (by omega)
theorem tables_l1 (no : tabsP n r = false → K (.tuple [.nilsl, .nilsl, .bool false]) hb) (yes : tabsP n r = true → ∀ vm vj, Intss vm (mTab n r) → Intss vj (jTab n r) → K (.tuple [vm, vj, .bool true]) hb)
    {b0 : AVal × AVal} (hb0 : b0 = (.sl rm 1 0 n, .sl rj 1 0 n)) : ∀ d x : Nat, x + d = n → (∀ x', x' < x → ∀ y, y < n → tabB n r x' y = true) → ∀ F F' G G' h, GT (mRow n r) x 0 G → GT (jRow n r) x 0 G' → TB2 hb rm rj n F F' G G' h →
      s73l1 K (d + 1) (.lptr (latC n f)) b0.1 b0.2 n (x : Int) h
  | 0, x, hd, hb', F, F', G, G', h, g1, g2, W => by
    obtain rfl : x = n := by omega
    unfold s73l1
    refine ifT_neg (by simp) ?_
    have et : tabsP x r = true := by
      unfold tabsP
      exact all_of fun x' hx' => all_of fun y hy => hb' x' hx' y hy
    subst hb0
    let Sg : Nat → Prop := fun q => nameOf (.sl rm 1 0 x) q ∨ nameOf (.sl rj 1 0 x) q ∨ (∃ k, k < x ∧ nameOf (F k) q) ∨ ∃ k, k < x ∧ nameOf (F' k) q
    have e : ∀ (m j : Ow) (R R' : List Ow), [m, j] ++ (R ++ R') = ([m, j] ++ R) ++ (R' ++ []) := fun m j R R' => by simp
    have i1 := fun k (hk : k < x) => rowsO_at (f := F) (g := G) [.slc 1 (.sl rm 1 0 x) ((List.range x).map F), .slc 1 (.sl rj 1 0 x) ((List.range x).map F')] (rowsO x F' G') hk
    have i2 := fun k (hk : k < x) => rowsO_at (f := F') (g := G') ([.slc 1 (.sl rm 1 0 x) ((List.range x).map F), .slc 1 (.sl rj 1 0 x) ((List.range x).map F')] ++ rowsO x F G) [] hk
    simp only [← e] at i2
    obtain ⟨l1, hl1, hR1⟩ := lits_rows (g := G) W (S := Sg) (List.range x) (fun k hk => ⟨_, i1 k (List.mem_range.1 hk)⟩) (fun k hk q hq => .inr (.inr (.inl ⟨k, List.mem_range.1 hk, hq⟩)))
    obtain ⟨l2, hl2, hR2⟩ := lits_rows (g := G') W (S := Sg) (List.range x) (fun k hk => ⟨_, i2 k (List.mem_range.1 hk)⟩) (fun k hk q hq => .inr (.inr (.inr ⟨k, List.mem_range.1 hk, hq⟩)))
    obtain ⟨m', lm, sm⟩ := W.lit (i := 0) rfl (S := Sg) (fun q hq => .inl hq) hl1
    obtain ⟨j', lj, sj⟩ := W.lit (i := 1) rfl (S := Sg) (fun q hq => .inr (.inl hq)) hl2
    have r1 : (List.range x).map (fun k => natI (G k)) = mTab x r := List.map_congr_left fun k hk => by rw [g1.lo k (List.mem_range.1 hk)]
    have r2 : (List.range x).map (fun k => natI (G' k)) = jTab x r := List.map_congr_left fun k hk => by rw [g2.lo k (List.mem_range.1 hk)]
    rw [r1] at hR1
    rw [r2] at hR2
    refine ⟨Sg, .tuple [m', j', .bool true], hb, .tuple (.cons lm (.cons lj (.cons (.refl _) .nil))), base_step W Sg fun q hs => ?_, yes et m' j' ⟨_, sm, hR1⟩ ⟨_, sj, hR2⟩⟩
    rcases hs with hs | hs | ⟨k, hk, hs⟩ | ⟨k, hk, hs⟩
    · exact W.new 0 _ q rfl hs
    · exact W.new 1 _ q rfl hs
    · exact W.new _ _ q (i1 k hk) hs
    · exact W.new _ _ q (i2 k hk) hs
  | d + 1, x, hd, hb', F, F', G, G', h, g1, g2, W => by
    unfold s73l1
    refine ifT_pos (by simp; omega) ?_
    simp only [addOff_lptr, List.drop_zero, ld1_lptr, tInt_int]
    refine s73l2_in (n + 1) (tables_l2 hf hn (by omega) hb0 (fun y hy ey => no ?_) (fun hall F1 F1' G1 G1' h1 k1 k2 W1 => ?_) n 0 (by omega) (fun y' hy' => by omega) F F' G G' h g1 g2 W)
    · unfold tabsP
      exact all_not (x := x) (by omega) (all_not hy ey)
    · have lm : (mRow n r x).length = n := by simp [mRow]
      have lj : (jRow n r x).length = n := by simp [jRow]
      refine s73l1_go (tables_l1 no yes hb0 d (x + 1) (by omega) (fun x' hx' y hy => ?_) F1 F1' G1 G1' h1 (k1.next (by omega)) (k2.next (by omega)) W1)
      by_cases e3 : x' = x
      · rw [e3]; exact hall y hy
      · exact hb' x' (by omega) y hy
omit hf hn in
theorem rowsO_nil (q : Nat) : rowsO q (fun _ => .nilsl) (fun _ => []) = (List.range q).map fun _ => .slc 1 .nilsl [] := rfl
omit hf hn in
theorem map_nil_rep (n : Nat) : (List.range n).map (fun _ => AVal.nilsl) = List.replicate n .nilsl := by
  refine List.ext_getElem (by simp) fun i h1 h2 => ?_
  simp
omit hf hn in
theorem gt_start (R : Nat → List Nat) : GT R 0 0 fun _ => [] := ⟨fun k hk => by omega, rfl, fun _ _ => rfl⟩
theorem tables_ok (no : tabsP n r = false → K (.tuple [.nilsl, .nilsl, .bool false]) h) (yes : tabsP n r = true → ∀ vm vj, Intss vm (mTab n r) → Intss vj (jTab n r) → K (.tuple [vm, vj, .bool true]) h) : ACalls prog 73 [latV n f] h K := by
  refine s73_ok ?_
  unfold s73
  refine ⟨mkS_own (by omega) (by omega) fun ra hra => ⟨rfl, mkS_own (by omega) (by omega) fun rb hrb => ?_⟩, mkS_own (by omega) (by omega) fun ra hra => ⟨rfl, mkS_own (by omega) (by omega) fun rb hrb => ?_⟩⟩
  · have W0 := (Own.start h).newS hra (es := 1) (List.replicate n .nilsl)
    have W1 := W0.newS hrb (es := 1) (List.replicate n .nilsl)
    rw [List.length_replicate] at W1
    have W2 := newNs (newNs W1 n) n
    rw [List.append_assoc, ← rowsO_nil, ← map_nil_rep] at W2
    rw [← map_nil_rep]
    exact s73l1_in (n + 1) (tables_l1 hf hn no yes (rm := ra) (rj := rb) (b0 := (.sl ra 1 0 n, .sl rb 1 0 n)) rfl n 0 (by omega) (fun x' hx' => by omega) _ _ _ _ _ (gt_start _) (gt_start _) W2)
  · have W0 := (Own.start h).newS hra (es := 1) (List.replicate n .nilsl)
    have W1 := W0.newS hrb (es := 1) (List.replicate n .nilsl)
    rw [List.length_replicate] at W1
    have W1' := W1.renum [.slc 1 (.sl rb 1 0 n) (List.replicate n .nilsl), .slc 1 (.sl ra 1 0 n) (List.replicate n .nilsl)] (fun j => 1 - j) (fun j y hj => by
      match j, hj with
      | 0, hj => exact hj
      | 1, hj => exact hj
      | j + 2, hj => simp at hj) (show ∀ j, j < 2 → ∀ k, k < 2 → _ = _ → j = k by omega)
    have W2 := newNs (newNs W1' n) n
    rw [List.append_assoc, ← rowsO_nil, ← map_nil_rep] at W2
    rw [← map_nil_rep]
    exact s73l1_in (n + 1) (tables_l1 hf hn no yes (rm := rb) (rj := ra) (b0 := (.sl rb 1 0 n, .sl ra 1 0 n)) rfl n 0 (by omega) (fun x' hx' => by omega) _ _ _ _ _ (gt_start _) (gt_start _) W2)
end
end Go.Proofs.YtljglglbfcgjpaaGreat

namespace Go.Proofs.YtljglglbfcgjpaaGreat
open Go Go.Sym Go.Proofs.Tryz
variable {K : AVal → Heap → Prop} {h h0 hb : Heap} {n : Nat} {r : Nat → Nat → Bool} {f : AVal}
/- ---------------- rows of truths ---------------- -/
def Bools (v : AVal) (l : List Bool) : Prop := SlOf 1 v (l.map .bool)
def Boolss (v : AVal) (ll : List (List Bool)) : Prop := ∃ l, SlOf 1 v l ∧ All2 Bools l ll
theorem Bools.len {v : AVal} {l : List Bool} (h : Bools v l) (K : Int → Prop) : lenN v K = K l.length := by rw [lenN_of h]; simp
theorem Bools.ix {v : AVal} {l : List Bool} (h : Bools v l) {i : Nat} (hi : i < l.length) (K : AVal → Prop) : ixS 1 v (i : Int) K = K (.lptr [.bool l[i]]) := by
  rw [ixS_nat h (e := .bool l[i]) (by simp [hi])]; rfl
theorem Boolss.len {v : AVal} {l : List (List Bool)} (h : Boolss v l) (K : Int → Prop) : lenN v K = K l.length := by
  obtain ⟨m, h1, h2⟩ := h
  rw [lenN_of h1, h2.length]
theorem Bools.notAgg {v : AVal} {l : List Bool} (h : Bools v l) : cellsOf v = [v] ∧ sc v = true := by
  rcases h with rfl | ⟨rfl, _⟩ <;> exact ⟨rfl, rfl⟩
theorem Boolss.ix {v : AVal} {l : List (List Bool)} (h : Boolss v l) {i : Nat} (hi : i < l.length) : ∃ e, Bools e l[i] ∧ ∀ K : AVal → Prop, ixS 1 v (i : Int) K = K (.lptr [e]) := by
  obtain ⟨m, h1, h2⟩ := h
  obtain ⟨e, he, hr⟩ := h2.get (i := i) (b := l[i]) (by simp [hi])
  refine ⟨e, hr, fun K => ?_⟩
  rw [ixS_nat h1 he, hr.notAgg.1]
def Sq (L : List (List Bool)) : Prop := ∀ row ∈ L, row.length = L.length
theorem Boolss.rd {v : AVal} {L : List (List Bool)} (hv : Boolss v L) (hs : Sq L) {x : Nat} (hx : x < L.length) : ∃ e, (∀ (h : Heap) (K : AVal → Prop), (ixS 1 v (x : Int) fun p => ld1 h p K) = K e) ∧ (∀ K : Int → Prop, lenN e K = K L.length) ∧
    ∀ y, y < L.length → ∀ (h : Heap) (K : AVal → Prop), (ixS 1 e (y : Int) fun p => ld1 h p K) = K (.bool (at2 L x y)) := by
  obtain ⟨e, he, hix⟩ := hv.ix hx
  have hl := hs _ (List.getElem_mem hx)
  refine ⟨e, fun h K => ?_, fun K => ?_, fun y hy h K => ?_⟩
  · rw [hix, ld1_lptr]
  · rw [he.len, hl]
  · have hy' : y < L[x].length := by omega
    rw [he.ix hy', ld1_lptr]
    congr 2
    unfold at2
    simp [List.getD, hx, hy']
abbrev leqV (a : AVal) : AVal := .func (.func 69) [] [.lptr [a]]
theorem leqV_tells {a : AVal} {L : List (List Bool)} (hv : Boolss a L) (hs : Sq L) : T2 (leqV a) L.length (at2 L) := by
  intro x y h K hx hy hk
  show callG prog 69 ([] ++ [.int .i64 (x : Int), .int .i64 (y : Int)] ++ [.lptr [a]]) h K
  refine callG_of (s69_ok ?_)
  unfold s69
  obtain ⟨e, e1, _, e2⟩ := hv.rd hs hx
  simp only [addOff_lptr, List.drop_zero, ld1_lptr]
  rw [e1, e2 y hy, tBool_bool]
  exact retG_of hk
theorem idxFB_loop {v f : AVal} {l : List (List Bool)} {p : List Bool → Bool} (hv : Boolss v l) (hm : l.length ≤ 1073741824)
    (hf : ∀ s ∈ l, ∀ e, Bools e s → ∀ K : AVal → Heap → Prop, K (.bool (p s)) h → callV prog f [e] h K) (hk : ∀ n : Int, (0 ≤ n ↔ ∃ s ∈ l, p s = true) → K (.int .i64 n) h) : ∀ d i : Nat, i + d = l.length → (∀ s ∈ l.take i, p s = false) →
    s115l1 K (d + 1) v f (l.length : Int) (i : Int) h
  | 0, i, hd, hn => by
    unfold s115l1
    refine ifT_neg (by simp; omega) (retG_of (hk _ ?_))
    rw [List.take_of_length_le (by omega)] at hn
    constructor
    · intro h0; omega
    · rintro ⟨s, hs, hp⟩; rw [hn s hs] at hp; cases hp
  | d + 1, i, hd, hn => by
    have hi : i < l.length := by omega
    unfold s115l1
    refine ifT_pos (by simp; omega) ?_
    obtain ⟨e, he, hix⟩ := hv.ix hi
    rw [hix, ld1_lptr]
    refine hf _ (List.getElem_mem hi) e he _ ?_
    rw [tBool_bool]
    cases he : p l[i] with
    | true => exact ifT_pos rfl (retG_of (hk _ ⟨fun _ => ⟨_, List.getElem_mem hi, he⟩, fun _ => by omega⟩))
    | false =>
      refine ifT_neg rfl (rg_of (by omega) (by omega) (s115l1_go (idxFB_loop hv hm hf hk d (i + 1) (by omega) ?_)))
      rw [List.take_succ_eq_append_getElem hi]
      intro s hs
      rcases List.mem_append.1 hs with hs | hs
      · exact hn s hs
      · simp at hs; rw [hs, he]
theorem containsFB_ok {v f : AVal} {l : List (List Bool)} {p : List Bool → Bool} (hv : Boolss v l) (hm : l.length ≤ 1073741824)
    (hf : ∀ s ∈ l, ∀ e, Bools e s → ∀ K : AVal → Heap → Prop, K (.bool (p s)) h → callV prog f [e] h K) (hk : K (.bool (l.any p)) h) : ACalls prog 70 [v, f] h K := by
  refine s70_ok (callG_of (s115_ok ?_))
  unfold s115
  rw [hv.len]
  refine s115l1_in (l.length + 1) (idxFB_loop hv hm hf (fun n hn => ?_) l.length 0 (by omega) (by simp))
  rw [tInt_int]
  refine retG_of ?_
  rwa [show decide (0 ≤ n) = l.any p by rw [Bool.eq_iff_iff]; simpa using hn]
/- ---------------- tables of numbers that are read ---------------- -/
theorem tab_rd {v : AVal} {c : Nat → Nat → Nat} (hv : Intss v ((List.range n).map fun x => natI ((List.range n).map fun y => c x y))) {x : Nat} (hx : x < n) : ∃ e, (∀ (h : Heap) (K : AVal → Prop), (ixS 1 v (x : Int) fun p => ld1 h p K) = K e) ∧
    ∀ y, y < n → ∀ (h : Heap) (K : AVal → Prop), (ixS 1 e (y : Int) fun p => ld1 h p K) = K (.int .i64 ((c x y : Nat) : Int)) := by
  obtain ⟨e, he, hix⟩ := hv.ix (i := x) (by simpa using hx)
  refine ⟨e, fun h K => by rw [hix, ld1_lptr], fun y hy h K => ?_⟩
  simp only [List.getElem_map, List.getElem_range] at he
  rw [he.ix (i := y) (by simp [natI, hy]), ld1_lptr]
  simp [natI]
/- ---------------- the look ---------------- -/
def inE (n : Nat) (e : Int) : Bool := decide (0 ≤ e) && decide (e < n)
def lookE (L : List (List Bool)) (els : List Int) : Int := if algP L then (if els.all (inE L.length) then 0 else 2) else 230
abbrev LM (h0 : Heap) (rt r1 r2 n : Nat) (f X Y : AVal) (h : Heap) : Prop := Own h0 [.cell rt (.row 2 [.agg [X, Y]]), .cell r1 (.row 1 [.int .i64 (n : Int)]), .cell r2 (.row 2 [.agg (latC n f)])] h
section
variable {rt r1 r2 : Nat} {X Y : AVal}
theorem look_end (W : LM h0 rt r1 r2 n f X Y h) {e : Int} (hk : K (.tuple [latV n f, .int .i64 e]) h0) :
    ldN 2 h (.ptr r2 0 0) fun l_1 => tCons l_1 fun v2 l_2 => tInt .i64 v2 fun v3 => tCons l_2 fun v4 l_3 => tNil l_3 (st false h (.ptr rt 0 0) [(.int .i64 v3), v4] fun h_5 => ldN 2 h_5 (.ptr rt 0 0) fun l_4 =>
      tCons l_4 fun v5 l_5 => tInt .i64 v5 fun v6 => tCons l_5 fun v7 l_6 => tNil l_6 (retG (.tuple [(.agg [(.int .i64 v6), v7]), (.int .i64 e)]) h_5 K)) := by
  rw [ldN2 (W.get 2 _ r2 rfl rfl), tCons_cons, tInt_int, tCons_cons, tNil_nil]
  refine st_all (W.get 0 _ rt rfl rfl) rfl ?_
  have W2 := W.put (i := 0) rfl (.row 2 [.agg (latC n f)])
  rw [ldN2 (W2.get 0 _ rt rfl rfl), tCons_cons, tInt_int, tCons_cons, tNil_nil]
  exact retG_drop W2.old hk
variable (hn : n ≤ 64) (h1 : 1 ≤ n)
section
variable {vm vj : AVal} (hm : Intss vm (mTab n r)) (hj : Intss vj (jTab n r)) (W : LM h0 rt r1 r2 n f X Y h)
include hm hj W hn h1
theorem look_l4 {x y : Nat} (hx : x < n) (hy : y < n) {L2 : s35l2_T} {L3 : s35l3_T} {ev : AVal} (no : ∀ z, z < n → distB n r x y z = false → K (.tuple [latV n f, .int .i64 230]) h0)
    (yes : (∀ z, z < n → distB n r x y z = true) → L3 ev (.ptr rt 0 0) (.ptr r1 0 0) (.ptr r2 0 0) vm vj (x : Int) n (x : Int) n ((y : Int) + 1) h) : ∀ d z : Nat, z + d = n → (∀ z', z' < z → distB n r x y z' = true) →
    s35l4 K L2 L3 (d + 1) ev (.ptr rt 0 0) (.ptr r1 0 0) (.ptr r2 0 0) vm vj (x : Int) (y : Int) n (x : Int) n (y : Int) n (z : Int) h
  | 0, z, hd, hb => by
    unfold s35l4
    exact ifT_neg (by simp; omega) (rg_of (by omega) (by omega) (yes fun z' hz' => hb z' (by omega)))
  | d + 1, z, hd, hb => by
    have hz : z < n := by omega
    obtain ⟨em, m1, m2⟩ := tab_rd (c := mt n r) hm hx
    obtain ⟨ej, j1, j2⟩ := tab_rd (c := jn n r) hj hy
    obtain ⟨ek, k1, k2⟩ := tab_rd (c := jn n r) hj (mt_lt (r := r) h1 x y)
    unfold s35l4
    refine ifT_pos (by simp; omega) ?_
    rw [m1, j1, j2 z hz, tInt_int, m2 _ (jn_lt h1 _ _), tInt_int, m1, m2 y hy, tInt_int, k1, m1, m2 z hz, tInt_int, k2 _ (mt_lt h1 _ _), tInt_int]
    cases e : distB n r x y z with
    | false =>
      refine ifT_pos ?_ (look_end W (no z hz e))
      unfold distB at e
      simp at e ⊢
      omega
    | true =>
      refine ifT_neg ?_ (rg_of (by omega) (by omega) (s35l4_go (look_l4 hx hy no yes d (z + 1) (by omega) fun z' hz' => ?_)))
      · unfold distB at e
        simp at e ⊢
        omega
      · by_cases e2 : z' = z
        · rw [e2]; exact e
        · exact hb z' (by omega)
theorem look_l3 {x : Nat} (hx : x < n) {L2 : s35l2_T} {ev : AVal} (no : ∀ y z, y < n → z < n → distB n r x y z = false → K (.tuple [latV n f, .int .i64 230]) h0)
    (yes : (∀ y z, y < n → z < n → distB n r x y z = true) → L2 ev (.ptr rt 0 0) (.ptr r1 0 0) (.ptr r2 0 0) vm vj n ((x : Int) + 1) h) : ∀ d y : Nat, y + d = n → (∀ y' z, y' < y → z < n → distB n r x y' z = true) →
    s35l3 K L2 (d + 1) ev (.ptr rt 0 0) (.ptr r1 0 0) (.ptr r2 0 0) vm vj (x : Int) n (x : Int) n (y : Int) h
  | 0, y, hd, hb => by
    unfold s35l3
    exact ifT_neg (by simp; omega) (rg_of (by omega) (by omega) (yes fun y' z' hy' hz' => hb y' z' (by omega) hz'))
  | d + 1, y, hd, hb => by
    unfold s35l3
    refine ifT_pos (by simp; omega) ?_
    rw [ld1_one (W.get 1 _ r1 rfl rfl) rfl, tInt_int]
    refine s35l4_in (n + 1) (look_l4 hn h1 hm hj W hx (by omega) (fun z hz e => no y z (by omega) hz e) (fun hall => ?_) n 0 (by omega) (fun z' hz' => by omega))
    refine s35l3_go (look_l3 hx no yes d (y + 1) (by omega) fun y' z hy' hz => ?_)
    by_cases e2 : y' = y
    · rw [e2]; exact hall z hz
    · exact hb y' z (by omega) hz
omit hm hj hn h1 in
theorem look_l5 {ev : AVal} {els : List Int} (he : Ints ev els) (hl : els.length ≤ 1048576) (no : els.all (inE n) = false → K (.tuple [latV n f, .int .i64 2]) h0) (yes : els.all (inE n) = true → K (.tuple [latV n f, .int .i64 0]) h0) :
    ∀ d i : Nat, i + d = els.length → (∀ x ∈ els.take i, inE n x = true) → s35l5 K (d + 1) (.ptr rt 0 0) (.ptr r1 0 0) (.ptr r2 0 0) ev els.length (i : Int) h
  | 0, i, hd, hb => by
    unfold s35l5
    refine ifT_neg (by simp; omega) (look_end W (yes ?_))
    rw [List.take_of_length_le (by omega)] at hb
    rw [List.all_eq_true]
    exact hb
  | d + 1, i, hd, hb => by
    have hi : i < els.length := by omega
    unfold s35l5
    refine ifT_pos (by simp; omega) ?_
    rw [he.ix hi, ld1_lptr, tInt_int]
    have bad : inE n els[i] = false → s35c6 K (s35l5_G (s35l5 K (d + 1))) (.ptr rt 0 0) (.ptr r1 0 0) (.ptr r2 0 0) ev els.length (i : Int) true h := fun e => by
      unfold s35c6
      refine ifT_pos rfl (look_end W (no ?_))
      rw [List.all_eq_false]
      exact ⟨_, List.getElem_mem hi, by simp [e]⟩
    by_cases e1 : els[i] < 0
    · exact ifT_pos (by simpa using e1) (bad (by unfold inE; simp; omega))
    · refine ifT_neg (by simpa using e1) ?_
      rw [ld1_one (W.get 1 _ r1 rfl rfl) rfl, tInt_int]
      by_cases e2 : (n : Int) ≤ els[i]
      · rw [decide_eq_true e2]
        exact bad (by unfold inE; simp; omega)
      · rw [decide_eq_false e2]
        unfold s35c6
        refine ifT_neg rfl (rg_of (by omega) (by omega) (s35l5_go (look_l5 he hl no yes d (i + 1) (by omega) ?_)))
        rw [List.take_succ_eq_append_getElem hi]
        intro s hs
        rcases List.mem_append.1 hs with hs | hs
        · exact hb s hs
        · simp at hs; rw [hs]; unfold inE; simp; omega
theorem look_l2 {ev : AVal} {els : List Int} (he : Ints ev els) (hl : els.length ≤ 1048576) (bad : distP n r = false → K (.tuple [latV n f, .int .i64 230]) h0) (no : distP n r = true → els.all (inE n) = false → K (.tuple [latV n f, .int .i64 2]) h0)
    (yes : distP n r = true → els.all (inE n) = true → K (.tuple [latV n f, .int .i64 0]) h0) : ∀ d x : Nat, x + d = n → (∀ x' y z, x' < x → y < n → z < n → distB n r x' y z = true) →
    s35l2 K (d + 1) ev (.ptr rt 0 0) (.ptr r1 0 0) (.ptr r2 0 0) vm vj n (x : Int) h
  | 0, x, hd, hb => by
    have ed : distP n r = true := by
      unfold distP
      exact all_of fun x' hx' => all_of fun y hy => all_of fun z hz => hb x' y z (by omega) hy hz
    unfold s35l2
    refine ifT_neg (by simp; omega) ?_
    rw [he.len]
    exact s35l5_in (els.length + 1) (look_l5 W he hl (no ed) (yes ed) els.length 0 (by omega) (by simp))
  | d + 1, x, hd, hb => by
    unfold s35l2
    refine ifT_pos (by simp; omega) ?_
    rw [ld1_one (W.get 1 _ r1 rfl rfl) rfl, tInt_int]
    refine s35l3_in (n + 1) (look_l3 hn h1 hm hj W (by omega) (fun y z hy hz e => bad ?_) (fun hall => ?_) n 0 (by omega) (fun y' z hy' => by omega))
    · unfold distP
      exact all_not (x := x) (by omega) (all_not hy (all_not hz e))
    · refine s35l2_go (look_l2 he hl bad no yes d (x + 1) (by omega) fun x' y z hx' hy hz => ?_)
      by_cases e2 : x' = x
      · rw [e2]; exact hall y z hy hz
      · exact hb x' y z (by omega) hy hz
end
end
theorem sq_any {L : List (List Bool)} : (L.any fun row => row.length != L.length) = false ↔ Sq L := by
  rw [List.any_eq_false]
  unfold Sq
  simp
theorem sq_all {L : List (List Bool)} : (L.all fun row => row.length == L.length) = true ↔ Sq L := by
  rw [List.all_eq_true]
  unfold Sq
  simp
theorem algP_sq {L : List (List Bool)} (h : algP L = true) : Sq L ∧ 1 ≤ L.length ∧ L.length ≤ 64 := by
  unfold algP at h
  simp only [Bool.and_eq_true, decide_eq_true_eq] at h
  obtain ⟨⟨⟨⟨⟨h1, h2⟩, h3⟩, _⟩, _⟩, _⟩ := h
  exact ⟨sq_all.1 h3, h1, h2⟩
theorem look_ok {a ev : AVal} {L : List (List Bool)} {els : List Int} (hv : Boolss a L) (hL : L.length ≤ 1048576) (hrl : ∀ row ∈ L, row.length ≤ 1048576) (he : Ints ev els) (hl : els.length ≤ 1048576)
    (hk : K (.tuple [latV L.length (leqV a), .int .i64 (lookE L els)]) h) : ACalls prog 35 [.agg [a], ev] h K := by
  refine s35_ok ?_
  unfold s35
  refine newRow_in fun rt hrt => ?_
  rw [hv.len]
  have W0 := (Own.start h).newC hrt (.row 2 [.agg [.int .i64 0, .nilfunc]])
  refine newRow_in fun r1 hr1 => ?_
  have W1 := W0.newC hr1 (.row 1 [.int .i64 0])
  refine st_elem (Heap.set_same _ _ _) rfl rfl ?_
  have W2 : Own h [.cell rt (.row 2 [.agg [.int .i64 0, .nilfunc]]), .cell r1 (.row 1 [.int .i64 (L.length : Int)])] _ := W1.put (i := 1) rfl (.row 1 ([.int .i64 0].set 0 (.int .i64 (L.length : Int))))
  rw [ld1_one (W2.get 1 _ r1 rfl rfl) rfl, tInt_int]
  refine newRow_in fun r2 hr2 => ?_
  have W3 := W2.newC hr2 (.row 2 [.agg [.int .i64 0, .nilfunc]])
  refine st_all (Heap.set_same _ _ _) rfl ?_
  have W4 : LM h rt r1 r2 L.length (leqV a) (.int .i64 0) .nilfunc _ := W3.put (i := 2) rfl (.row 2 [.agg (latC L.length (leqV a))])
  generalize hgen : Heap.set _ r2 _ = hh at W4 ⊢
  clear hgen
  rw [ld1_one (W4.get 1 _ r1 rfl rfl) rfl, tInt_int]
  have bad : algP L = false → s35c1 K ev (.ptr rt 0 0) (.ptr r1 0 0) (.ptr r2 0 0) true hh := fun e => by
    unfold lookE at hk
    rw [e] at hk
    unfold s35c1
    exact ifT_pos rfl (look_end W4 hk)
  by_cases c1 : (L.length : Int) < 1
  · exact ifT_pos (by simpa using c1) (bad (by unfold algP; rw [decide_eq_false (show ¬ 1 ≤ L.length by omega)]; rfl))
  refine ifT_neg (by simpa using c1) ?_
  rw [ld1_one (W4.get 1 _ r1 rfl rfl) rfl, tInt_int]
  by_cases c2 : (64 : Int) < L.length
  · exact ifT_pos (by simpa using c2) (bad (by unfold algP; rw [decide_eq_false (show ¬ L.length ≤ 64 by omega)]; simp))
  refine ifT_neg (by simpa using c2) ?_
  refine callG_of (containsFB_ok (p := fun row => row.length != L.length) hv (by omega) (fun s hs e hse K' hk' => ?_) ?_)
  · show callG prog 71 ([] ++ [e] ++ [.ptr r1 0 0]) hh K'
    refine callG_of (s71_ok ?_)
    unfold s71
    rw [hse.len, ld1_one (W4.get 1 _ r1 rfl rfl) rfl, tInt_int]
    refine retG_of ?_
    rwa [show ((s.length : Int) != (L.length : Int)) = (s.length != L.length) by rw [Bool.eq_iff_iff]; simp; omega]
  rw [tBool_bool]
  cases c3 : (L.any fun row => row.length != L.length) with
  | true =>
    refine ifT_pos rfl (bad ?_)
    have : ¬ Sq L := fun hs => by rw [sq_any.2 hs] at c3; cases c3
    have e : (L.all fun row => row.length == L.length) = false := by
      cases e : (L.all fun row => row.length == L.length) with
      | false => rfl
      | true => exact absurd (sq_all.1 e) this
    unfold algP
    rw [e]
    simp
  | false =>
    have hs := sq_any.1 c3
    refine ifT_neg rfl ?_
    rw [ldN2 (W4.get 2 _ r2 rfl rfl), tCons_cons, tInt_int, tCons_cons, tNil_nil]
    have hf := leqV_tells hv hs
    refine callG_of (orderedH_ok hf (by omega) ?_)
    rw [tBool_bool]
    cases c4 : ordP L.length (at2 L) with
    | false => exact bad (by unfold algP; rw [c4]; simp)
    | true =>
      unfold s35c1
      refine ifT_neg rfl ?_
      rw [ldN2 (W4.get 2 _ r2 rfl rfl), tCons_cons, tInt_int, tCons_cons, tNil_nil]
      refine callG_of (tables_ok hf (by omega) (fun c5 => ?_) fun c5 vm vj hm hj => ?_)
      · rw [tTup_tuple, tCons_cons, tCons_cons, tCons_cons, tBool_bool, tNil_nil]
        refine ifT_pos rfl (look_end W4 ?_)
        unfold lookE at hk
        rwa [if_neg (by unfold algP; rw [c5]; simp)] at hk
      · rw [tTup_tuple, tCons_cons, tCons_cons, tCons_cons, tBool_bool, tNil_nil]
        refine ifT_neg rfl ?_
        rw [ld1_one (W4.get 1 _ r1 rfl rfl) rfl, tInt_int]
        have alg : distP L.length (at2 L) = true → algP L = true := fun c6 => by
          unfold algP
          rw [sq_all.2 hs, c4, c5, c6, decide_eq_true (show 1 ≤ L.length by omega), decide_eq_true (show L.length ≤ 64 by omega)]
          rfl
        refine s35l2_in (L.length + 1) (look_l2 (by omega) (by omega) hm hj W4 he hl (fun c6 => ?_) (fun c6 c7 => ?_) (fun c6 c7 => ?_) L.length 0 (by omega) (fun x' y z hx' => by omega))
        · unfold lookE at hk
          rwa [if_neg (by unfold algP; rw [c6]; simp)] at hk
        · unfold lookE at hk
          rwa [if_pos (alg c6), c7] at hk
        · unfold lookE at hk
          rwa [if_pos (alg c6), c7] at hk
/- ---------------- what the package answers ---------------- -/
structure AlgV (a : AVal) (L : List (List Bool)) : Prop where
  v : Boolss a L
  len : L.length ≤ 1048576
  row : ∀ row ∈ L, row.length ≤ 1048576
theorem lookE_zero {L : List (List Bool)} {els : List Int} (h : lookE L els = 0) : algP L = true ∧ els.all (inE L.length) = true := by
  unfold lookE at h
  split at h
  · split at h
    · exact ⟨by assumption, by assumption⟩
    · cases h
  · cases h
section
variable {a : AVal} {L : List (List Bool)} (A : AlgV a L)
include A
theorem AlgV.alg (e : algP L = true) : T2 (leqV a) L.length (at2 L) ∧ L.length ≤ 1073741824 ∧ 1 ≤ L.length := by
  obtain ⟨hs, h1, h2⟩ := algP_sq e
  exact ⟨leqV_tells A.v hs, by omega, h1⟩
theorem checkH_ok (hk : K (.int .i64 (lookE L [])) h) : ACalls prog 45 [.agg [a]] h K := by
  refine s45_ok ?_
  unfold s45
  refine callG_of (look_ok A.v A.len A.row (els := []) (.inr ⟨rfl, rfl⟩) (by simp) ?_)
  rw [tTup_tuple, tCons_cons, tCons_cons, tInt_int, tNil_nil, tAgg_agg, tCons_cons, tInt_int, tCons_cons, tNil_nil]
  refine newRow_in fun q hq => st_all (Heap.set_same _ _ _) rfl ?_
  rw [Heap.set_set]
  exact retG_drop (Heap.set_sub hq) hk
def two (L : List (List Bool)) (R : Nat → Nat → Nat) (x y : Int) : AVal := .tuple [.int .i64 (if lookE L [x, y] = 0 then ((R x.toNat y.toNat : Nat) : Int) else 0), .int .i64 (lookE L [x, y])]
omit A in
theorem two_in {x y : Int} {n : Nat} (h : [x, y].all (inE n) = true) : (x.toNat < n ∧ (x.toNat : Int) = x) ∧ y.toNat < n ∧ (y.toNat : Int) = y := by
  simp only [List.all_cons, List.all_nil, Bool.and_true, Bool.and_eq_true, inE, decide_eq_true_eq] at h
  omega
theorem impP_ok {x y : Int} (hk : K (two L (im L.length (at2 L)) x y) h) : ACalls prog 43 [.agg [a], .int .i64 x, .int .i64 y] h K := by
  refine s43_ok ?_
  unfold s43
  refine callG_of (look_ok A.v A.len A.row (els := [x, y]) (.inl rfl) (by simp) ?_)
  rw [tTup_tuple, tCons_cons, tCons_cons, tInt_int, tNil_nil, tAgg_agg, tCons_cons, tInt_int, tCons_cons, tNil_nil]
  refine newRow_in fun q hq => st_all (Heap.set_same _ _ _) rfl ?_
  rw [Heap.set_set]
  unfold two at hk
  by_cases e : lookE L [x, y] = 0
  · obtain ⟨e1, e2⟩ := lookE_zero e
    obtain ⟨hf, hn, h1⟩ := A.alg e1
    obtain ⟨⟨hx, ex⟩, hy, ey⟩ := two_in e2
    rw [if_pos e] at hk
    refine ifT_neg (by simp [e]) ?_
    rw [ldN2 (Heap.set_same _ _ _), tCons_cons, tInt_int, tCons_cons, tNil_nil, ← ex, ← ey]
    refine callG_of (impH_ok hf hn hx hy ?_)
    rw [tInt_int]
    rw [e] at hk
    exact retG_drop (Heap.set_sub hq) hk
  · rw [if_neg e] at hk
    exact ifT_pos (by simpa using e) (retG_drop (Heap.set_sub hq) hk)
def boolX (n : Nat) (r : Nat → Nat → Bool) (x : Nat) : Bool := jn n r x (im n r x (lowP n r)) == highP n r
def boolP (n : Nat) (r : Nat → Nat → Bool) : Bool := (List.range n).all (boolX n r)
omit A in
theorem boolean_l1 {q n : Nat} {f : AVal} {r : Nat → Nat → Bool} (hf : T2 f n r) (hn : n ≤ 1073741824) (h1 : 1 ≤ n) {hh : Heap} (hq : hh q = some (.row 2 [.agg (latC n f)])) (old : ∀ q o, h q = some o → hh q = some o) (hk : K (.tuple [.bool (boolP n r), .int .i64 0]) h) :
    ∀ d x : Nat, x + d = n → (∀ x', x' < x → boolX n r x' = true) → s44l1 K (d + 1) (.ptr q 0 0) ((lowP n r : Nat) : Int) ((highP n r : Nat) : Int) n (x : Int) hh
  | 0, x, hd, hb => by
    unfold s44l1
    have e : boolP n r = true := all_of fun x' hx' => hb x' (by omega)
    rw [e] at hk
    exact ifT_neg (by simp; omega) (retG_drop old hk)
  | d + 1, x, hd, hb => by
    unfold s44l1
    refine ifT_pos (by simp; omega) ?_
    rw [ldN2 hq, tCons_cons, tInt_int, tCons_cons, tNil_nil, ldN2 hq, tCons_cons, tInt_int, tCons_cons, tNil_nil]
    refine callG_of (impH_ok hf hn (by omega) (low_lt h1) ?_)
    rw [tInt_int]
    refine ⟨by rw [ldN2 hq], callG_of (joinH_ok hf hn (by omega) (im_lt h1 _ _) ?_)⟩
    unfold bestV
    rw [tTup_tuple, tCons_cons, tInt_int, tCons_cons, tBool_bool, tNil_nil]
    cases e : boolX n r x with
    | false =>
      have e2 : boolP n r = false := all_not (x := x) (by omega) e
      rw [e2] at hk
      refine ifT_pos ?_ (retG_drop old hk)
      unfold boolX jn at e
      simp at e ⊢
      omega
    | true =>
      refine ifT_neg ?_ (rg_of (by omega) (by omega) (s44l1_go (boolean_l1 hf hn h1 hq old hk d (x + 1) (by omega) fun x' hx' => ?_)))
      · unfold boolX jn at e
        simp at e ⊢
        omega
      · by_cases e3 : x' = x
        · rw [e3]; exact e
        · exact hb x' (by omega)
theorem booleanP_ok (no : algP L = false → K (.tuple [.bool false, .int .i64 230]) h) (yes : algP L = true → K (.tuple [.bool (boolP L.length (at2 L)), .int .i64 0]) h) : ACalls prog 44 [.agg [a]] h K := by
  refine s44_ok ?_
  unfold s44
  refine callG_of (look_ok A.v A.len A.row (els := []) (.inr ⟨rfl, rfl⟩) (by simp) ?_)
  rw [tTup_tuple, tCons_cons, tCons_cons, tInt_int, tNil_nil, tAgg_agg, tCons_cons, tInt_int, tCons_cons, tNil_nil]
  refine newRow_in fun q hq => st_all (Heap.set_same _ _ _) rfl ?_
  rw [Heap.set_set]
  unfold lookE
  cases e : algP L with
  | false => exact ifT_pos rfl (retG_drop (Heap.set_sub hq) (no e))
  | true =>
    obtain ⟨hf, hn, h1⟩ := A.alg e
    refine ifT_neg rfl ?_
    rw [ldN2 (Heap.set_same _ _ _), tCons_cons, tInt_int, tCons_cons, tNil_nil]
    refine callG_of (boundsH_ok hf hn ?_)
    rw [tTup_tuple, tCons_cons, tInt_int, tCons_cons, tInt_int, tNil_nil, ld1_fld (Heap.set_same _ _ _) rfl, tInt_int]
    exact s44l1_in (L.length + 1) (boolean_l1 hf hn h1 (Heap.set_same _ _ _) (Heap.set_sub hq) (yes e) L.length 0 (by omega) fun x' hx' => by omega)
end
end Go.Proofs.YtljglglbfcgjpaaGreat

namespace Go.Proofs.YtljglglbfcgjpaaGreat
open Go Go.Sym Go.Proofs.Tryz
open Go.ChangeShapes Go.WideShapes Go.ChangeAt Go.RowKit
set_option linter.unusedVariables false
set_option maxRecDepth 4000
theorem ca4 : prog.cellsOf 4 = 1 := by kernel_rfl
theorem ag4 : aggT prog 4 = false := by kernel_rfl
theorem ca81 : prog.cellsOf 81 = 1 := by kernel_rfl
theorem ag81 : aggT prog 81 = false := by kernel_rfl
theorem ca26 : prog.cellsOf 26 = 1 := by kernel_rfl
theorem ca28 : prog.cellsOf 28 = 1 := by kernel_rfl
theorem shV_bool {B n : Nat} {x : AVal} (h : ShV prog B n 4 [x]) : ∃ b, x = .bool b := by
  cases n with
  | zero => exact h.elim
  | succ n =>
    simp only [ShV, underlying4] at h
    obtain ⟨b, e⟩ := h
    exact ⟨b, by simpa using e⟩
theorem shV_bools {B n : Nat} {l : List AVal} (h : ShV prog B n 81 l) : ∃ v xs, l = [v] ∧ Bools v xs ∧ xs.length ≤ B := by
  obtain ⟨v, L, bs, rfl, h1, h2, h3, _⟩ := shV_slice (R := fun x b => x = .bool b) (Q := fun _ => True) underlying81 (fun n x ha _ hx => by
    rw [cells_one (ha.trans ag4)] at hx
    obtain ⟨b, hb⟩ := shV_bool hx
    exact ⟨b, hb, trivial⟩) h
  rw [ca4] at h1
  rw [all2_map h2] at h1
  exact ⟨v, bs, rfl, h1, h3⟩
theorem shV_boolss {B n : Nat} {l : List AVal} (h : ShV prog B n 26 l) : ∃ v L, l = [v] ∧ Boolss v L ∧ L.length ≤ B ∧ ∀ r ∈ L, r.length ≤ B := by
  obtain ⟨v, L, bs, rfl, h1, h2, h3, h4⟩ := shV_slice (R := Bools) (Q := fun r => r.length ≤ B) underlying26 (fun n x ha _ hx => by
    rw [cells_one (ha.trans ag81)] at hx
    obtain ⟨v, xs, e, h1, h2⟩ := shV_bools hx
    obtain rfl : x = v := by simpa using e
    exact ⟨xs, h1, h2⟩) h
  rw [ca81] at h1
  exact ⟨v, bs, rfl, ⟨L, h1, h2⟩, h3, h4⟩
theorem shV_alg {B n : Nat} {l : List AVal} (hB : B ≤ 1048576) (h : ShV prog B n 28 l) : ∃ a L, l = [a] ∧ AlgV a L := by
  cases n with
  | zero => exact h.elim
  | succ n =>
    simp only [ShV, underlying28, ca28] at h
    obtain ⟨hl, hf⟩ := h
    have f1 := hf _ (List.mem_cons_self)
    simp only [ca26] at f1
    match l, hl with
    | [a], _ =>
      obtain ⟨v, L, e1, h1, h2, h3⟩ := shV_boolss f1
      obtain rfl : a = v := by simpa using e1
      exact ⟨a, L, rfl, h1, Nat.le_trans h2 hB, fun r hr => Nat.le_trans (h3 r hr) hB⟩
theorem closed_al : closedT prog [28, 26, 81, 4] = true := by kernel_rfl
section
variable {H : Type} {enc : TypeId × Value → H} {W : World}
theorem arg_gotA {t : TypeId} {v : Value} {d : DataW H} {ps : List MemPlace} {B : Nat} (ht : t ∈ [28, 26, 81, 4]) (h : DataW.Trod enc prog W 0 (fun _ => true) true t v d ps) (hb : Rows.uptoBulk d ≤ B) :
    ∃ n, Got prog W B n t v.cells.toList := by
  obtain ⟨n, hn⟩ := h
  exact ⟨n, trod_rel bulkOK closed_al n t _ _ ht hn hb⟩
end
end Go.Proofs.YtljglglbfcgjpaaGreat

namespace Go.Proofs.YtljglglbfcgjpaaGreat
open Go Go.Sym Go.Proofs.Tryz
variable {K : AVal → Heap → Prop} {h : Heap}
def fine1 (l : List ByteArray) (i : Nat) : Bool := wordB (l.getD i ByteArray.empty) && (i == 0 || strLt (l.getD (i - 1) ByteArray.empty) (l.getD i ByteArray.empty))
def fineB (l : List ByteArray) : Bool := (List.range' 0 l.length).all (fine1 l)
def inS (l : List ByteArray) (s : ByteArray) : Bool := l.any fun x => decide (x = s)
theorem inS_iff {l : List ByteArray} {s : ByteArray} : inS l s = true ↔ s ∈ l := by
  unfold inS
  rw [List.any_eq_true]
  constructor
  · rintro ⟨x, hx, he⟩; rwa [← of_decide_eq_true he]
  · exact fun hx => ⟨s, hx, decide_eq_true rfl⟩
theorem idxS_loop {v : AVal} {l : List ByteArray} {s : ByteArray} (hv : Strs v l) (hm : l.length ≤ 1073741824) (hk : ∀ n : Int, (0 ≤ n ↔ s ∈ l) → K (.int .i64 n) h) : ∀ d i : Nat, i + d = l.length → s ∉ l.take i →
    s122l1 K (d + 1) v s (l.length : Int) (i : Int) h
  | 0, i, hd, hn => by
    unfold s122l1
    refine ifT_neg (by simp; omega) (retG_of (hk _ ?_))
    rw [List.take_of_length_le (by omega)] at hn
    simp [hn]
  | d + 1, i, hd, hn => by
    have hi : i < l.length := by omega
    unfold s122l1
    refine ifT_pos (by simp; omega) ?_
    rw [hv.ix hi, ld1_lptr, tStr_str, strEq_dec]
    by_cases he : s = l[i]
    · exact ifT_pos (by simpa using he) (retG_of (hk _ ⟨fun _ => he ▸ List.getElem_mem hi, fun _ => by omega⟩))
    · refine ifT_neg (by simpa using he) (rg_of (by omega) (by omega) (s122l1_go (idxS_loop hv hm hk d (i + 1) (by omega) ?_)))
      rw [List.take_succ_eq_append_getElem hi]
      intro hx
      rcases List.mem_append.1 hx with hx | hx
      · exact hn hx
      · exact he (List.mem_singleton.1 hx)
theorem containsS_ok {v : AVal} {l : List ByteArray} {s : ByteArray} (hv : Strs v l) (hm : l.length ≤ 1073741824) (hk : K (.bool (inS l s)) h) : ACalls prog 99 [v, .str s] h K := by
  refine s99_ok (callG_of (s122_ok ?_))
  unfold s122
  rw [hv.len]
  refine s122l1_in (l.length + 1) (idxS_loop hv hm (fun n hn => ?_) l.length 0 (by omega) (by simp))
  rw [tInt_int]
  refine retG_of ?_
  rwa [show decide (0 ≤ n) = inS l s by rw [Bool.eq_iff_iff, inS_iff]; simpa using hn]
theorem idxFS_loop {v f : AVal} {l : List ByteArray} {p : ByteArray → Bool} (hv : Strs v l) (hm : l.length ≤ 1073741824)
    (hf : ∀ s ∈ l, ∀ K : AVal → Heap → Prop, K (.bool (p s)) h → callV prog f [.str s] h K) (hk : ∀ n : Int, (0 ≤ n ↔ ∃ s ∈ l, p s = true) → K (.int .i64 n) h) : ∀ d i : Nat, i + d = l.length → (∀ s ∈ l.take i, p s = false) →
    s158l1 K (d + 1) v f (l.length : Int) (i : Int) h
  | 0, i, hd, hn => by
    unfold s158l1
    refine ifT_neg (by simp; omega) (retG_of (hk _ ?_))
    rw [List.take_of_length_le (by omega)] at hn
    constructor
    · intro h0; omega
    · rintro ⟨s, hs, hp⟩; rw [hn s hs] at hp; cases hp
  | d + 1, i, hd, hn => by
    have hi : i < l.length := by omega
    unfold s158l1
    refine ifT_pos (by simp; omega) ?_
    rw [hv.ix hi, ld1_lptr, tStr_str]
    refine hf _ (List.getElem_mem hi) _ ?_
    rw [tBool_bool]
    cases he : p l[i] with
    | true => exact ifT_pos rfl (retG_of (hk _ ⟨fun _ => ⟨_, List.getElem_mem hi, he⟩, fun _ => by omega⟩))
    | false =>
      refine ifT_neg rfl (rg_of (by omega) (by omega) (s158l1_go (idxFS_loop hv hm hf hk d (i + 1) (by omega) ?_)))
      rw [List.take_succ_eq_append_getElem hi]
      intro s hs
      rcases List.mem_append.1 hs with hs | hs
      · exact hn s hs
      · simp at hs; rw [hs, he]
theorem containsFS_ok {v f : AVal} {l : List ByteArray} {p : ByteArray → Bool} (hv : Strs v l) (hm : l.length ≤ 1073741824)
    (hf : ∀ s ∈ l, ∀ K : AVal → Heap → Prop, K (.bool (p s)) h → callV prog f [.str s] h K) (hk : K (.bool (l.any p)) h) : ACalls prog 141 [v, f] h K := by
  refine s141_ok (callG_of (s158_ok ?_))
  unfold s158
  rw [hv.len]
  refine s158l1_in (l.length + 1) (idxFS_loop hv hm hf (fun n hn => ?_) l.length 0 (by omega) (by simp))
  rw [tInt_int]
  refine retG_of ?_
  rwa [show decide (0 ≤ n) = l.any p by rw [Bool.eq_iff_iff]; simpa using hn]
theorem idxFI_loop {v f : AVal} {l : List Int} {p : Int → Bool} (hv : Ints v l) (hm : l.length ≤ 1073741824)
    (hf : ∀ s ∈ l, ∀ K : AVal → Heap → Prop, K (.bool (p s)) h → callV prog f [.int .i64 s] h K) (hk : ∀ n : Int, (0 ≤ n ↔ ∃ s ∈ l, p s = true) → K (.int .i64 n) h) : ∀ d i : Nat, i + d = l.length → (∀ s ∈ l.take i, p s = false) →
    s117l1 K (d + 1) v f (l.length : Int) (i : Int) h
  | 0, i, hd, hn => by
    unfold s117l1
    refine ifT_neg (by simp; omega) (retG_of (hk _ ?_))
    rw [List.take_of_length_le (by omega)] at hn
    constructor
    · intro h0; omega
    · rintro ⟨s, hs, hp⟩; rw [hn s hs] at hp; cases hp
  | d + 1, i, hd, hn => by
    have hi : i < l.length := by omega
    unfold s117l1
    refine ifT_pos (by simp; omega) ?_
    rw [hv.ix hi, ld1_lptr, tInt_int]
    refine hf _ (List.getElem_mem hi) _ ?_
    rw [tBool_bool]
    cases he : p l[i] with
    | true => exact ifT_pos rfl (retG_of (hk _ ⟨fun _ => ⟨_, List.getElem_mem hi, he⟩, fun _ => by omega⟩))
    | false =>
      refine ifT_neg rfl (rg_of (by omega) (by omega) (s117l1_go (idxFI_loop hv hm hf hk d (i + 1) (by omega) ?_)))
      rw [List.take_succ_eq_append_getElem hi]
      intro s hs
      rcases List.mem_append.1 hs with hs | hs
      · exact hn s hs
      · simp at hs; rw [hs, he]
theorem containsFI_ok {v f : AVal} {l : List Int} {p : Int → Bool} (hv : Ints v l) (hm : l.length ≤ 1073741824)
    (hf : ∀ s ∈ l, ∀ K : AVal → Heap → Prop, K (.bool (p s)) h → callV prog f [.int .i64 s] h K) (hk : K (.bool (l.any p)) h) : ACalls prog 83 [v, f] h K := by
  refine s83_ok (callG_of (s117_ok ?_))
  unfold s117
  rw [hv.len]
  refine s117l1_in (l.length + 1) (idxFI_loop hv hm hf (fun n hn => ?_) l.length 0 (by omega) (by simp))
  rw [tInt_int]
  refine retG_of ?_
  rwa [show decide (0 ≤ n) = l.any p by rw [Bool.eq_iff_iff]; simpa using hn]
theorem getD_of {l : List ByteArray} {i : Nat} (hi : i < l.length) : l.getD i ByteArray.empty = l[i] := by simp [List.getD, hi]
theorem rising_loop {v : AVal} {l : List ByteArray} (hv : Strs v l) (hm : SB l) : ∀ d i : Nat, i + d = l.length → K (.bool ((List.range' i d).all (fine1 l))) h → s140l1 K (d + 1) v v (l.length : Int) (i : Int) h
  | 0, i, hd, hk => by
    unfold s140l1
    exact ifT_neg (by simp; omega) (retG_of (by simpa using hk))
  | d + 1, i, hd, hk => by
    have hi : i < l.length := by omega
    have hl := hm.1
    unfold s140l1
    refine ifT_pos (by simp; omega) ?_
    rw [hv.ix hi, ld1_lptr, tStr_str]
    refine callG_of (word_ok _ (hm.2 _ (List.getElem_mem hi)) ?_)
    rw [tBool_bool]
    rw [List.range'_succ, List.all_cons] at hk
    have rest : fine1 l i = true → s140c2 K (s140l1_G (s140l1 K (d + 1))) v v l.length i false h := by
      intro hg
      rw [hg] at hk
      exact ifT_neg rfl (rg_of (by omega) (by omega) (s140l1_go (rising_loop hv hm d (i + 1) (by omega) (by simpa using hk))))
    have stop : fine1 l i = false → s140c2 K (s140l1_G (s140l1 K (d + 1))) v v l.length i true h := by
      intro hg
      rw [hg] at hk
      exact ifT_pos rfl (retG_of (by simpa using hk))
    unfold fine1 at rest stop
    rw [getD_of hi] at rest stop
    cases hw : wordB l[i] with
    | false => exact ifT_pos rfl (stop (by rw [hw]; rfl))
    | true =>
      rw [hw, Bool.true_and] at rest stop
      refine ifT_neg rfl ?_
      by_cases h0 : 0 < i
      · refine ifT_pos (by simp; omega) (rg_of (by omega) (by omega) ?_)
        have hi1 : i - 1 < l.length := by omega
        rw [show (i : Int) - 1 = ((i - 1 : Nat) : Int) by omega, hv.ix hi1, ld1_lptr, tStr_str]
        rw [getD_of hi1, show (i == 0) = false by simp; omega, Bool.false_or] at rest stop
        cases hs : strLt l[i - 1] l[i] with
        | true => exact rest hs
        | false => exact stop hs
      · obtain rfl : i = 0 := by omega
        exact ifT_neg (by simp) (rest (by simp))
theorem rising_ok {v : AVal} {l : List ByteArray} (hv : Strs v l) (hm : SB l) (hk : K (.bool (fineB l)) h) : ACalls prog 140 [v] h K := by
  refine s140_ok ?_
  unfold s140
  rw [hv.len]
  exact s140l1_in (l.length + 1) (rising_loop hv hm l.length 0 (by omega) hk)
end Go.Proofs.YtljglglbfcgjpaaGreat

namespace Go.Proofs.YtljglglbfcgjpaaGreat
open Go Go.Sym Go.Proofs.Tryz
variable {K : AVal → Heap → Prop}
def Step (up : List (List Int)) (a b : Nat) : Prop := ∃ r, up[a]? = some r ∧ (b : Int) ∈ r
inductive Reach (up : List (List Int)) (a : Nat) : Nat → Prop
  | refl : Reach up a a
  | tail {b c : Nat} (h : Reach up a b) (hs : Step up b c) : Reach up a c
theorem Reach.trans {up : List (List Int)} {a b c : Nat} (h : Reach up a b) (h' : Reach up b c) : Reach up a c := by
  induction h' with
  | refl => exact h
  | tail _ hs ih => exact .tail ih hs
def InR (up : List (List Int)) : Prop := ∀ r ∈ up, ∀ b ∈ r, 0 ≤ b ∧ b < up.length
theorem Reach.lt {up : List (List Int)} (hi : InR up) {a b : Nat} (h : Reach up a b) (ha : a < up.length) : b < up.length := by
  cases h with
  | refl => exact ha
  | tail _ hs =>
    obtain ⟨r, hr, hb⟩ := hs
    have := hi r (List.mem_of_getElem? hr) _ hb
    omega
open Classical in
noncomputable def rb (up : List (List Int)) (a b : Nat) : Bool := decide (Reach up a b)
theorem rb_iff {up : List (List Int)} {a b : Nat} : rb up a b = true ↔ Reach up a b := by unfold rb; simp
noncomputable def rowB (up : List (List Int)) (a : Nat) : List Bool := (List.range up.length).map (rb up a)
def OTab (v : AVal) (up : List (List Int)) : Prop := ∃ rows, SlOf 1 v rows ∧ rows.length = up.length ∧ ∀ a, a < up.length → ∃ e, rows[a]? = some e ∧ e.isAgg = false ∧ SlOf 1 e ((rowB up a).map .bool)
theorem OTab.len {v : AVal} {up : List (List Int)} (h : OTab v up) (K : Int → Prop) : lenN v K = K up.length := by
  obtain ⟨rows, h1, h2, _⟩ := h
  rw [lenN_of h1, h2]
theorem cells_of_notAgg {e : AVal} (h : e.isAgg = false) : cellsOf e = [e] := by cases e <;> first | rfl | cases h
theorem OTab.row {v : AVal} {up : List (List Int)} (h : OTab v up) {a : Nat} (ha : a < up.length) {h' : Heap} : ∃ e, (∀ K : AVal → Prop, (ixS 1 v (a : Int) fun p => ld1 h' p K) = K e) ∧
    (∀ K : Int → Prop, lenN e K = K up.length) ∧ ∀ b, b < up.length → ∀ K : AVal → Prop, (ixS 1 e (b : Int) fun p => ld1 h' p K) = K (.bool (rb up a b)) := by
  obtain ⟨rows, h1, h2, h3⟩ := h
  obtain ⟨e, he, hn, hr⟩ := h3 a ha
  refine ⟨e, fun K => ?_, fun K => ?_, fun b hb K => ?_⟩
  · rw [ixS_nat h1 he, cells_of_notAgg hn, ld1_lptr]
  · rw [lenN_of hr]; simp [rowB]
  · rw [ixS_nat hr (e := .bool (rb up a b)) (by simp [rowB, hb])]; rfl
/- ---------------- a search for all that is above ---------------- -/
structure BF (up : List (List Int)) (a : Nat) (marks : List Bool) (W : List Nat) : Prop where
  len : marks.length = up.length
  cnt : W.length + marks.count false = up.length
  reach : ∀ x ∈ W, x < up.length ∧ Reach up a x
  mkd : ∀ x, marks[x]? = some true ↔ x ∈ W
theorem BF.add {up : List (List Int)} {a b : Nat} {marks : List Bool} {W : List Nat} (B : BF up a marks W) (hb : marks[b]? = some false) (hr : Reach up a b) : BF up a (marks.set b true) (W ++ [b]) := by
  have hlt : b < marks.length := (List.getElem?_eq_some_iff.1 hb).1
  have hget : marks[b] = false := (List.getElem?_eq_some_iff.1 hb).2
  have hpos : 0 < marks.count false := List.count_pos_iff.2 (hget ▸ List.getElem_mem hlt)
  refine ⟨by simp [B.len], ?_, fun x hx => ?_, fun x => ?_⟩
  · have := List.count_set (a := true) (b := false) hlt
    rw [hget] at this
    simp only [List.length_append, List.length_singleton]
    have h2 := B.cnt
    rw [this]
    simp
    omega
  · rcases List.mem_append.1 hx with hx | hx
    · exact B.reach x hx
    · rw [List.mem_singleton.1 hx]; exact ⟨by rw [← B.len]; exact hlt, hr⟩
  · rw [List.getElem?_set]
    by_cases e : b = x
    · subst e; simp [hlt]
    · simp [e, B.mkd x, Ne.symm e]
theorem BF.start {up : List (List Int)} {a : Nat} (ha : a < up.length) : BF up a ((List.replicate up.length false).set a true) [a] := by
  have hr : (List.replicate up.length false)[a]? = some false := by simp [ha]
  have hlt : a < (List.replicate up.length false).length := by simpa using ha
  refine ⟨by simp, ?_, fun x hx => ?_, fun x => ?_⟩
  · rw [List.count_set hlt]; simp; omega
  · rw [List.mem_singleton.1 hx]; exact ⟨ha, .refl⟩
  · rw [List.getElem?_set]
    by_cases e : a = x
    · subst e; simp [ha]
    · simp only [if_neg e, List.mem_singleton]
      constructor
      · intro h; simp [List.getElem?_replicate] at h
      · intro h; exact absurd h.symm e
theorem BF.done {up : List (List Int)} {a : Nat} {marks : List Bool} {W : List Nat} (B : BF up a marks W) (ha : a ∈ W) (hcl : ∀ x ∈ W, ∀ c, Step up x c → marks[c]? = some true) : marks = rowB up a := by
  have hall : ∀ c, Reach up a c → c ∈ W := by
    intro c hc
    induction hc with
    | refl => exact ha
    | tail _ hs ih => exact (B.mkd _).1 (hcl _ ih _ hs)
  apply List.ext_getElem?
  intro b
  unfold rowB
  rw [List.getElem?_map]
  by_cases hb : b < up.length
  · rw [List.getElem?_range hb, Option.map_some]
    have hlt : b < marks.length := by rw [B.len]; exact hb
    rw [List.getElem?_eq_getElem hlt]
    congr 1
    have h1 := B.mkd b
    rw [List.getElem?_eq_getElem hlt] at h1
    rw [Bool.eq_iff_iff, rb_iff]
    constructor
    · intro e; exact (B.reach b (h1.1 (by rw [e]))).2
    · intro hr; simpa using h1.2 (hall b hr)
  · rw [List.getElem?_eq_none (by have := B.len; omega), List.getElem?_eq_none (by simpa using hb)]; rfl
def natV (W : List Nat) : List AVal := W.map fun (x : Nat) => .int .i64 (x : Int)
structure OM (h0 : Heap) (ro ra a n : Nat) (R : List AVal) (marks : List Bool) (hb : Heap) : Prop where
  ho : h0 ro = none
  ha : h0 ra = none
  ne : ra ≠ ro
  hb : hb = (h0.set ro (.row 1 R)).set ra (.row 1 (marks.map .bool))
  at_ : R[a]? = some (.sl ra 1 0 n)
  len : R.length = n
theorem OM.get_o {h0 hb : Heap} {ro ra a n : Nat} {R : List AVal} {marks : List Bool} (M : OM h0 ro ra a n R marks hb) : hb ro = some (.row 1 R) := by
  rw [M.hb, Heap.set_ne _ _ M.ne.symm, Heap.set_same]
theorem OM.get_a {h0 hb : Heap} {ro ra a n : Nat} {R : List AVal} {marks : List Bool} (M : OM h0 ro ra a n R marks hb) : hb ra = some (.row 1 (marks.map .bool)) := by
  rw [M.hb, Heap.set_same]
theorem OM.old {h0 hb : Heap} {ro ra a n : Nat} {R : List AVal} {marks : List Bool} (M : OM h0 ro ra a n R marks hb) {q : Nat} {o : AObj} (hq : h0 q = some o) : hb q = some o := by
  rw [M.hb, Heap.set_ne _ _ (fun e => by subst e; rw [M.ha] at hq; cases hq), Heap.set_ne _ _ (fun e => by subst e; rw [M.ho] at hq; cases hq)]
  exact hq
theorem OM.put {h0 hb : Heap} {ro ra a n : Nat} {R : List AVal} {marks marks' : List Bool} (M : OM h0 ro ra a n R marks hb) : OM h0 ro ra a n R marks' (hb.set ra (.row 1 (marks'.map .bool))) :=
  ⟨M.ho, M.ha, M.ne, by rw [M.hb, Heap.set_set], M.at_, M.len⟩
theorem natV_len (W : List Nat) : (natV W).length = W.length := by simp [natV]
theorem natV_get {W : List Nat} {i x : Nat} (h : W[i]? = some x) : (natV W)[i]? = some (.int .i64 (x : Int)) := by simp [natV, h]
theorem natV_app (W : List Nat) (b : Nat) : natV (W ++ [b]) = natV W ++ [.int .i64 (b : Int)] := by simp [natV]
structure TU (up : List (List Int)) (a : Nat) (R : List AVal) : Prop where
  len : R.length = up.length
  done : ∀ a', a' < a → ∃ e, R[a']? = some e ∧ e.isAgg = false ∧ SlOf 1 e ((rowB up a').map .bool)
  rest : ∀ a', a' < up.length → ∃ e, R[a']? = some e ∧ e.isAgg = false
end Go.Proofs.YtljglglbfcgjpaaGreat

namespace Go.Proofs.YtljglglbfcgjpaaGreat
open Go Go.Sym Go.Proofs.Tryz
variable {K : AVal → Heap → Prop} {h : Heap} {up : List (List Int)} {val : List (List ByteArray)} {mU mV : AVal}
def Cond (up : List (List Int)) (val : List (List ByteArray)) (a b : Nat) : Prop := Reach up a b → a ≠ b → ¬ Reach up b a ∧ ∀ s ∈ val.getD a [], s ∈ val.getD b []
structure WF (up : List (List Int)) (val : List (List ByteArray)) : Prop where
  pos : 1 ≤ up.length
  max : up.length ≤ 512
  len : val.length = up.length
  inR : InR up
  fine : ∀ l ∈ val, fineB l = true
  cond : ∀ a b, a < up.length → b < up.length → Cond up val a b
theorem getD_val {a : Nat} (ha : a < val.length) : val.getD a [] = val[a] := by simp [List.getD, ha]
end Go.Proofs.YtljglglbfcgjpaaGreat

namespace Go.Proofs.YtljglglbfcgjpaaGreat
open Go Go.Sym Go.Proofs.Tryz
/- ---- a map as a set ---- -/
def mapV (V : List Nat) : List (AVal × AVal) := V.map fun (v : Nat) => (.int .i64 (v : Int), .int .i64 1)
theorem find_in {v : Nat} : ∀ (V : List Nat) (i : Nat), v ∈ V → ∃ j, findM (.int .i64 (v : Int)) (mapV V) i = some (some (j, .int .i64 1))
  | [], _, h => by simp at h
  | x :: V, i, h => by
    show ∃ j, findM (.int .i64 (v : Int)) ((.int .i64 (x : Int), .int .i64 1) :: mapV V) i = _
    unfold findM keyEq
    simp only [decide_true]
    by_cases e : v = x
    · subst e
      exact ⟨i, by simp⟩
    · rw [show ((v : Int) == (x : Int)) = false by rw [beq_eq_false_iff_ne]; omega]
      exact find_in V (i + 1) (by simpa [e] using h)
theorem find_out {v : Nat} : ∀ (V : List Nat) (i : Nat), v ∉ V → findM (.int .i64 (v : Int)) (mapV V) i = some none
  | [], _, _ => rfl
  | x :: V, i, h => by
    show findM (.int .i64 (v : Int)) ((.int .i64 (x : Int), .int .i64 1) :: mapV V) i = _
    unfold findM keyEq
    simp only [decide_true]
    have h1 : v ≠ x ∧ v ∉ V := by simpa using h
    rw [show ((v : Int) == (x : Int)) = false by rw [beq_eq_false_iff_ne]; have := h1.1; omega]
    exact find_out V (i + 1) h1.2
theorem mapGet_in {h : Heap} {rm : Nat} {V : List Nat} (hm : h rm = some (.map (mapV V))) {v : Nat} (hv : v ∈ V) {K : AVal → Bool → Prop} (hk : K (.int .i64 1) true) : mapGet (.int .i64 0) h (.mapr rm) (.int .i64 (v : Int)) K := by
  obtain ⟨j, e⟩ := find_in V 0 hv
  unfold mapGet mapGetR entsA
  simp only [hm, e]
  exact hk
theorem mapGet_out {h : Heap} {rm : Nat} {V : List Nat} (hm : h rm = some (.map (mapV V))) {v : Nat} (hv : v ∉ V) {K : AVal → Bool → Prop} (hk : K (.int .i64 0) false) : mapGet (.int .i64 0) h (.mapr rm) (.int .i64 (v : Int)) K := by
  unfold mapGet mapGetR entsA
  simp only [hm, find_out V 0 hv]
  exact hk
theorem mapPut_out {h : Heap} {rm : Nat} {V : List Nat} (hm : h rm = some (.map (mapV V))) {v : Nat} (hv : v ∉ V) {K : Heap → Prop} (hk : K (h.set rm (.map (mapV (V ++ [v]))))) : mapPut h (.mapr rm) (.int .i64 (v : Int)) (.int .i64 1) K := by
  unfold mapPut mapPutR putM
  simp only [hm, find_out V 0 hv]
  simpa [mapV] using hk
end Go.Proofs.YtljglglbfcgjpaaGreat

namespace Go.Proofs.YtljglglbfcgjpaaGreat
open Go Go.Sym Go.Proofs.Tryz
variable {K : AVal → Heap → Prop}
def LeqF (f : AVal) (up : List (List Int)) : Prop := ∃ o, f = .func (.func 157) [] [.lptr [o]] ∧ OTab o up
theorem leq_call {f : AVal} {up : List (List Int)} {h : Heap} (hf : LeqF f up) {a b : Nat} (ha : a < up.length) (hb : b < up.length) (hk : K (.bool (rb up a b)) h) : callV prog f [.int .i64 a, .int .i64 b] h K := by
  obtain ⟨o, rfl, hO⟩ := hf
  show callG prog 157 ([] ++ [.int .i64 a, .int .i64 b] ++ [.lptr [o]]) h K
  refine callG_of (s157_ok ?_)
  unfold s157
  obtain ⟨e, hrow, _, hix⟩ := hO.row (h' := h) ha
  rw [ld1_lptr, hrow, hix b hb, tBool_bool]
  exact retG_of hk
theorem BF.perm {up : List (List Int)} {a : Nat} {marks : List Bool} {W W' : List Nat} (B : BF up a marks W) (hl : W'.length = W.length) (hm : ∀ x, x ∈ W' ↔ x ∈ W) : BF up a marks W' :=
  ⟨B.len, by rw [hl]; exact B.cnt, fun x hx => B.reach x ((hm x).1 hx), fun x => (B.mkd x).trans (hm x).symm⟩
section
variable {h0 h00 : Heap} {up : List (List Int)} {ro ra a : Nat} {R : List AVal}
theorem reckon_l3 (hn : up.length ≤ 1073741824) (bad : ¬ InR up → K (.tuple [.nilfunc, .bool false]) h00) (hsub : ∀ q o, h00 q = some o → h0 q = some o)
    {L1 : AVal → Int → AVal → Int → Int → Heap → Prop} {L2 : AVal → Int → AVal → AVal → AVal → Int → Int → Heap → Prop} {m row abv : AVal} {r : List Int} {x : Nat} {t18 t19 : Int} (hrow : Ints row r) (hr : r.length ≤ 1073741824)
    (hx : up[x]? = some r) (hax : Reach up a x) {marks0 : List Bool} {D : List Nat}
    (hL : ∀ marks S st hb h, BF up a marks (D ++ S) → OM h0 ro ra a up.length R marks hb → Stk 1 hb st (natV S) h → (∀ y : Nat, marks0[y]? = some true → marks[y]? = some true) →
      (∀ b ∈ r, 0 ≤ b ∧ b < up.length ∧ marks[b.toNat]? = some true) → L2 m up.length abv (.sl ra 1 0 up.length) st t18 t19 h) :
    ∀ d k : Nat, k + d = r.length → ∀ marks S st hb h, BF up a marks (D ++ S) → OM h0 ro ra a up.length R marks hb → Stk 1 hb st (natV S) h → (∀ y : Nat, marks0[y]? = some true → marks[y]? = some true) →
      (∀ b ∈ r.take k, 0 ≤ b ∧ b < up.length ∧ marks[b.toNat]? = some true) → s139l3 K L1 L2 (d + 1) m up.length abv (.sl ra 1 0 up.length) st t18 t19 row r.length (k : Int) h
  | 0, k, hd, marks, S, st, hb, h, B, M, g, hmono, hdone => by
    unfold s139l3
    refine ifT_neg (by simp; omega) (hL marks S st hb h B M g hmono ?_)
    rwa [List.take_of_length_le (by omega)] at hdone
  | d + 1, k, hd, marks, S, st, hb, h, B, M, g, hmono, hdone => by
    have hk : k < r.length := by omega
    unfold s139l3
    refine ifT_pos (by simp; omega) ?_
    rw [hrow.ix hk, ld1_lptr, tInt_int]
    have key : s139c5 K L1 L2 (s139l3_G (s139l3 K L1 L2 (d + 1))) m up.length abv (.sl ra 1 0 up.length) st r[k] t18 t19 row r.length k (decide (r[k] < 0) || decide ((up.length : Int) ≤ r[k])) h := by
      by_cases hbad : r[k] < 0 ∨ (up.length : Int) ≤ r[k]
      · refine ifT_pos (by simpa using hbad) (retG_drop (fun q o hq => g.old (M.old (hsub q o hq))) (bad fun hI => ?_))
        have := hI r (List.mem_of_getElem? hx) r[k] (List.getElem_mem hk)
        omega
      · refine ifT_neg (by simpa using hbad) ?_
        obtain ⟨b, hbk⟩ : ∃ b : Nat, r[k] = (b : Int) := ⟨r[k].toNat, by omega⟩
        have hbn : b < up.length := by omega
        rw [hbk]
        have hbm : b < marks.length := by rw [B.len]; exact hbn
        refine ixS_sl0 hbn ?_
        rw [ld1_ptr (g.old M.get_a) (e := .bool marks[b]) (by simp [hbm]) rfl, tBool_bool]
        have hstep : Reach up a b := .tail hax ⟨r, hx, by rw [← hbk]; exact List.getElem_mem hk⟩
        have next : ∀ marks' S' st' hb' h', BF up a marks' (D ++ S') → OM h0 ro ra a up.length R marks' hb' → Stk 1 hb' st' (natV S') h' → (∀ y : Nat, marks[y]? = some true → marks'[y]? = some true) → marks'[b]? = some true →
            s139c4 K L1 L2 (s139l3_G (s139l3 K L1 L2 (d + 1))) m up.length abv (.sl ra 1 0 up.length) st' t18 t19 row r.length k h' := by
          intro marks' S' st' hb' h' B' M' g' hm' hmb
          refine rg_of (by omega) (by omega) (s139l3_go (reckon_l3 hn bad hsub hrow hr hx hax hL d (k + 1) (by omega) marks' S' st' hb' h' B' M' g' (fun y hy => hm' y (hmono y hy)) ?_))
          rw [List.take_succ_eq_append_getElem hk]
          intro c hc
          rcases List.mem_append.1 hc with hc | hc
          · obtain ⟨h1, h2, h3⟩ := hdone c hc
            exact ⟨h1, h2, hm' _ h3⟩
          · rw [List.mem_singleton.1 hc, hbk]
            exact ⟨by omega, by omega, by simpa using hmb⟩
        cases hmk : marks[b] with
        | true => exact ifT_neg rfl (next marks S st hb h B M g (fun _ hy => hy) (by rw [List.getElem?_eq_getElem hbm, hmk]))
        | false =>
          refine ifT_pos rfl (ixS_sl0 hbn (st_elem (g.old M.get_a) (e := .bool marks[b]) (by simp [hbm]) rfl ?_))
          rw [show (marks.map AVal.bool).set b (.bool true) = (marks.set b true).map .bool by rw [List.map_set]]
          have B' := B.add (b := b) (by rw [List.getElem?_eq_getElem hbm, hmk]) hstep
          have g' := g.upd (x := .row 1 ((marks.set b true).map .bool)) M.get_a
          have hcnt := B'.cnt
          rw [List.append_assoc] at B' hcnt
          have hlen : (D ++ S).length + 1 ≤ up.length := by simp only [List.length_append, List.length_singleton] at hcnt ⊢; omega
          have hlen2 : S.length + 1 ≤ up.length := by simp only [List.length_append] at hlen; omega
          refine appC_stk g' (by rw [natV_len]; omega) (by rw [natV_len]; omega) fun v' h' g2 => ?_
          rw [← natV_app] at g2
          refine next _ (S ++ [b]) v' _ h' B' M.put g2 (fun y hy => ?_) (by simp [hbm])
          rw [List.getElem?_set]
          by_cases e : b = y
          · subst e; simp [hbm]
          · rw [if_neg e]; exact hy
    by_cases h0' : r[k] < 0
    · refine ifT_pos (by simpa using h0') ?_
      rwa [show (decide (r[k] < 0) || decide ((up.length : Int) ≤ r[k])) = true by simp [h0']] at key
    · refine ifT_neg (by simpa using h0') ?_
      rwa [show (decide (r[k] < 0) || decide ((up.length : Int) ≤ r[k])) = decide ((up.length : Int) ≤ r[k]) by simp [h0']] at key
theorem reckon_l2 (hn : up.length ≤ 1073741824) (hrl : ∀ r ∈ up, r.length ≤ 1073741824) (bad : ¬ InR up → K (.tuple [.nilfunc, .bool false]) h00) (hsub : ∀ q o, h00 q = some o → h0 q = some o)
    {L1 : AVal → Int → AVal → Int → Int → Heap → Prop} {mU mV abv : AVal} {t18 : Int} (hU : Intss mU up) (han : a < up.length)
    (hL : ∀ st hb h, OM h0 ro ra a up.length R (rowB up a) hb → Stk 1 hb st [] h → (∀ b ∈ up[a], 0 ≤ b ∧ b < up.length) → L1 (.lptr [mU, mV]) up.length abv t18 (a + 1) h) :
    ∀ d : Nat, ∀ marks D S st hb h, D.length + d = up.length → (a ∈ D ++ S) → BF up a marks (D ++ S) → OM h0 ro ra a up.length R marks hb → Stk 1 hb st (natV S) h →
      (∀ y ∈ D, ∀ r, up[y]? = some r → ∀ b ∈ r, 0 ≤ b ∧ b < up.length ∧ marks[b.toNat]? = some true) →
      s139l2 K L1 (d + 1) (.lptr [mU, mV]) up.length abv (.sl ra 1 0 up.length) st t18 (a : Int) h := by
  intro d
  have fin : ∀ marks D st hb h d, a ∈ D → BF up a marks D → OM h0 ro ra a up.length R marks hb → Stk 1 hb st (natV []) h →
      (∀ y ∈ D, ∀ r, up[y]? = some r → ∀ b ∈ r, 0 ≤ b ∧ b < up.length ∧ marks[b.toNat]? = some true) →
      s139l2 K L1 (d + 1) (.lptr [mU, mV]) up.length abv (.sl ra 1 0 up.length) st t18 (a : Int) h := by
    intro marks D st hb h d haD B M g hcl
    unfold s139l2
    rw [g.len]
    refine ifT_neg (by simp [natV]) (rg_of (by omega) (by omega) ?_)
    have hm := B.done haD fun y hy c ⟨r, hr, hc⟩ => by
      have := (hcl y hy r hr _ hc).2.2
      simpa using this
    rw [hm] at M
    exact hL st hb h M g fun b hb => by
      have h1 := hcl a haD _ (List.getElem?_eq_getElem han) b hb
      exact ⟨h1.1, h1.2.1⟩
  induction d with
  | zero =>
    intro marks D S st hb h hd haD B M g hcl
    have hS : S = [] := by
      have := B.cnt
      simp only [List.length_append] at this
      exact List.eq_nil_of_length_eq_zero (by omega)
    subst hS
    rw [List.append_nil] at B haD
    exact fin marks D st hb h 0 haD B M g hcl
  | succ d ih =>
    intro marks D S st hb h hd haD B M g hcl
    rcases List.eq_nil_or_concat S with rfl | ⟨S', x, rfl⟩
    · rw [List.append_nil] at B haD
      exact fin marks D st hb h (d + 1) haD B M g hcl
    · have hcnt := B.cnt
      simp only [List.length_append, List.length_singleton, List.concat_eq_append] at hcnt
      rw [List.concat_eq_append] at B g haD
      unfold s139l2
      rw [g.len, natV_len]
      refine ifT_pos (by simp) ?_
      rw [g.len, natV_len]
      refine rg_of (by simp only [List.length_append, List.length_singleton]; omega) (by simp only [List.length_append, List.length_singleton]; omega) ?_
      have hlen1 : (((S' ++ [x]).length : Nat) : Int) - 1 = (S'.length : Nat) := by simp
      rw [hlen1]
      refine g.ix (e := .int .i64 (x : Int)) (by rw [natV_app, List.getElem?_append_right (by rw [natV_len]; omega), natV_len]; simp) rfl ?_
      rw [tInt_int, g.len, natV_len, hlen1]
      refine rg_of (by omega) (by omega) ?_
      rw [natV_app] at g
      refine g.pop (by rw [natV_len]) fun st' g' => ?_
      rw [addOff_lptr]
      simp only [List.drop_zero, ld1_lptr]
      obtain ⟨hxn, hxr⟩ := B.reach x (by simp)
      obtain ⟨e, he, hix⟩ := hU.ix hxn
      rw [hix, ld1_lptr, he.len]
      have hup : up[x]? = some up[x] := List.getElem?_eq_getElem hxn
      refine s139l3_in (up[x].length + 1) ?_
      have B1 : BF up a marks ((D ++ [x]) ++ S') := B.perm (by simp only [List.length_append, List.length_singleton]; omega) (by intro y; simp; constructor <;> (rintro (h | h | h) <;> simp [h]))
      refine reckon_l3 (D := D ++ [x]) (marks0 := marks) hn bad hsub he (hrl _ (List.getElem_mem hxn)) hup hxr (fun marks' S2 st2 hb2 h2 B2 M2 g2 hmono hr' => ?_) _ 0 (by omega) marks S' st' hb h B1 M g' (fun _ hy => hy) (by simp)
      refine s139l2_go (ih marks' (D ++ [x]) S2 st2 hb2 h2 (by simp; omega) ?_ B2 M2 g2 ?_)
      · exact (B2.mkd a).1 (hmono a ((B.mkd a).2 haD))
      · intro y hy r hr b hb
        rcases List.mem_append.1 hy with hy | hy
        · obtain ⟨h1, h2, h3⟩ := hcl y hy r hr b hb
          exact ⟨h1, h2, hmono _ h3⟩
        · rw [List.mem_singleton.1 hy, hup] at hr
          cases hr
          exact hr' b hb
end
section
variable {h00 : Heap} {up : List (List Int)} {ro rbx : Nat}
theorem reckon_l1 (hn : up.length ≤ 1073741824) (hrl : ∀ r ∈ up, r.length ≤ 1073741824) (bad : ¬ InR up → K (.tuple [.nilfunc, .bool false]) h00) (good : InR up → ∀ f, LeqF f up → K (.tuple [f, .bool true]) h00)
    {mU mV : AVal} (hU : Intss mU up) (ho : h00 ro = none) (hx : h00 rbx = none) (hne : rbx ≠ ro) : ∀ d a : Nat, a + d = up.length → ∀ R, TU up a R → (∀ a' r, a' < a → up[a']? = some r → ∀ b ∈ r, 0 ≤ b ∧ b < up.length) →
      s139l1 K (d + 1) (.lptr [mU, mV]) up.length (.ptr rbx 0 0) up.length (a : Int) ((h00.set rbx (.row 1 [.sl ro 1 0 up.length])).set ro (.row 1 R))
  | 0, a, hd, R, T, hr => by
    unfold s139l1
    refine ifT_neg (by simp; omega) ?_
    have hbx : ((h00.set rbx (.row 1 [.sl ro 1 0 up.length])).set ro (.row 1 R)) rbx = some (.row 1 [.sl ro 1 0 up.length]) := by rw [Heap.set_ne _ _ hne, Heap.set_same]
    refine ⟨fun q => q = ro ∨ q = rbx, .tuple [.func (.func 157) [] [.lptr [.lsl 1 R]], .bool true], h00,
      .tuple (.cons (.func .nil (.cons (.ptr (.inr rfl) hbx rfl (.cons (.whole (.inl rfl) (Heap.set_same _ _ _) T.len.symm) .nil)) .nil)) (.cons (.refl _) .nil)),
      ⟨fun _ _ => trivial, fun q o hq => ⟨o, ?_, ?_, .refl o⟩⟩, ?_⟩
    · have h1 : q ≠ rbx := fun e => by rw [e, hx] at hq; cases hq
      have h2 : q ≠ ro := fun e => by rw [e, ho] at hq; cases hq
      rw [Heap.set_ne _ _ h2, Heap.set_ne _ _ h1]; exact hq
    · rintro (e | e)
      · rw [e, ho] at hq; cases hq
      · rw [e, hx] at hq; cases hq
    · refine good (fun r hrm b hb => ?_) _ ⟨.lsl 1 R, rfl, R, .lsl 1 R, T.len, fun a' ha' => T.done a' (by omega)⟩
      obtain ⟨j, hj, rfl⟩ := List.mem_iff_getElem.1 hrm
      exact hr j _ (by omega) (List.getElem?_eq_getElem hj) b hb
  | d + 1, a, hd, R, T, hr => by
    have han : a < up.length := by omega
    have ho1 : (h00.set rbx (.row 1 [.sl ro 1 0 up.length])) ro = none := by rw [Heap.set_ne _ _ hne.symm]; exact ho
    unfold s139l1
    refine ifT_pos (by simp; omega) (mkS_own (by omega) (by omega) fun ra hra => ?_)
    have hne2 : ra ≠ ro := fun e => by rw [e, Heap.set_same] at hra; cases hra
    have hne3 : ra ≠ rbx := fun e => by rw [e, Heap.set_ne _ _ hne, Heap.set_same] at hra; cases hra
    have ha0 : (h00.set rbx (.row 1 [.sl ro 1 0 up.length])) ra = none := by rwa [Heap.set_ne _ _ hne2] at hra
    obtain ⟨e0, he0, hagg0⟩ := T.rest a han
    rw [ld1_one (es := 1) (e := .sl ro 1 0 up.length) (by rw [Heap.set_ne _ _ hne3.symm, Heap.set_ne _ _ hne, Heap.set_same]) rfl]
    refine ixS_sl0 han (chk_iff.2 ⟨rfl, ?_⟩)
    refine st_elem (es := 1) (elems := R) (by rw [Heap.set_ne _ _ hne2.symm, Heap.set_same]) he0 hagg0 ?_
    refine ixS_sl0 han ?_
    have hRa : (R.set a (.sl ra 1 0 up.length))[a]? = some (.sl ra 1 0 up.length) := by rw [List.getElem?_set_self]; rw [T.len]; exact han
    refine st_elem (es := 1) (elems := List.replicate up.length (.bool false)) (e := .bool false) (by rw [Heap.set_ne _ _ hne2, Heap.set_same]) (by simp [han]) rfl ?_
    rw [show (List.replicate up.length (AVal.bool false)).set a (.bool true) = ((List.replicate up.length false).set a true).map .bool by rw [List.map_set, List.map_replicate]]
    refine newRow_in fun r hrn => ?_
    have M : OM (h00.set rbx (.row 1 [.sl ro 1 0 up.length])) ro ra a up.length (R.set a (.sl ra 1 0 up.length)) ((List.replicate up.length false).set a true)
        (((((h00.set rbx (.row 1 [.sl ro 1 0 up.length])).set ro (.row 1 R)).set ra (.row 1 (List.replicate up.length (.bool false)))).set ro (.row 1 (R.set a (.sl ra 1 0 up.length)))).set ra (.row 1 (((List.replicate up.length false).set a true).map .bool))) := by
      refine ⟨ho1, ha0, hne2, ?_, hRa, by simp [T.len]⟩
      funext q
      by_cases h1 : q = ra
      · simp [Heap.set, h1]
      · by_cases h2 : q = ro
        · subst h2; simp [Heap.set, h1]
        · simp [Heap.set, h1, h2]
    refine s139l2_in (up.length + 1) ?_
    refine reckon_l2 (ra := ra) (R := R.set a (.sl ra 1 0 up.length)) hn hrl bad (Heap.set_sub hx) hU han (fun st hb h M' g hra' => ?_) up.length _ [] [a] _ _ _ (by simp) (by simp) (by simpa using BF.start han) M
      (by have := Stk.own (es := 1) (l := natV [a]) (junk := []) hrn; simpa [natV] using this) (by simp)
    refine ⟨fun q => q = ra, _, (h00.set rbx (.row 1 [.sl ro 1 0 up.length])).set ro (.row 1 ((R.set a (.sl ra 1 0 up.length)).set a (.lsl 1 ((rowB up a).map .bool)))), Lits.refl _, GStep.row (g.old M'.get_o) hne2 ha0 (fun q o hq => g.old (M'.old hq)) hRa
      (.whole rfl (g.old M'.get_a) (by simp [rowB])), rfl, ?_⟩
    rw [List.set_set]
    have := reckon_l1 (mV := mV) hn hrl bad good hU ho hx hne d (a + 1) (by omega) (R.set a (.lsl 1 ((rowB up a).map .bool))) ⟨by simp [T.len], fun a' ha' => ?_, fun a' ha' => ?_⟩ (fun a' r ha' hr' => ?_)
    · exact this
    · by_cases e : a' = a
      · subst e
        exact ⟨_, List.getElem?_set_self (by rw [T.len]; exact han), rfl, .lsl 1 _⟩
      · rw [List.getElem?_set_ne (Ne.symm e)]
        exact T.done a' (by omega)
    · by_cases e : a' = a
      · subst e
        exact ⟨_, List.getElem?_set_self (by rw [T.len]; exact han), rfl⟩
      · rw [List.getElem?_set_ne (Ne.symm e)]
        exact T.rest a' ha'
    · by_cases e : a' = a
      · subst e
        rw [List.getElem?_eq_getElem han] at hr'
        cases hr'
        exact hra'
      · exact hr a' r (by omega) hr'
theorem reckon_ok {mU mV : AVal} {h : Heap} (hn : up.length ≤ 1048576) (hrl : ∀ r ∈ up, r.length ≤ 1073741824) (hU : Intss mU up) (bad : ¬ InR up → K (.tuple [.nilfunc, .bool false]) h) (good : InR up → ∀ f, LeqF f up → K (.tuple [f, .bool true]) h) :
    ACalls prog 139 [.agg [mU, mV]] h K := by
  refine s139_ok ?_
  unfold s139
  rw [hU.len]
  refine mkS_own (by omega) (by omega) fun ro hro => newRow_in fun rbx hrbx => chk_iff.2 ⟨rfl, ?_⟩
  have hne : rbx ≠ ro := fun e => by rw [e, Heap.set_same] at hrbx; cases hrbx
  have hx : h rbx = none := by rwa [Heap.set_ne _ _ hne] at hrbx
  refine st_elem (Heap.set_same _ _ _) rfl rfl ?_
  rw [show [AVal.nilsl].set 0 (.sl ro 1 0 up.length) = [.sl ro 1 0 up.length] from rfl, ld1_one (Heap.set_same _ _ _) rfl, lenN_sl]
  refine s139l1_in (up.length + 1) ?_
  have he : (((h.set ro (.row 1 (List.replicate up.length .nilsl))).set rbx (.row 1 [.nilsl])).set rbx (.row 1 [.sl ro 1 0 up.length])) =
      (h.set rbx (.row 1 [.sl ro 1 0 up.length])).set ro (.row 1 (List.replicate up.length .nilsl)) := by
    rw [Heap.set_set, Heap.set_comm _ _ _ hne]
  rw [he]
  exact reckon_l1 (by omega) hrl bad good hU hro hx hne up.length 0 (by omega) _ ⟨by simp, by intro a' ha'; omega, fun a' ha' => ⟨.nilsl, by simp [ha'], rfl⟩⟩ (by intro a' r ha'; omega)
end
end Go.Proofs.YtljglglbfcgjpaaGreat

namespace Go.Proofs.YtljglglbfcgjpaaGreat
open Go Go.Sym Go.Proofs.Tryz
variable {K : AVal → Heap → Prop} {h : Heap} {up : List (List Int)} {val : List (List ByteArray)} {mU mV : AVal}
theorem lacks_call {l : List ByteArray} {e : AVal} {r b : Nat} (hV : Strss mV val) (S : Small up val) (hb : b < val.length) {h : Heap} (hr : h r = some (.row 1 [.int .i64 (b : Int)])) (s : ByteArray) (K : AVal → Heap → Prop)
    (hk : K (.bool (!inS val[b] s)) h) : callV prog (.func (.func 142) [] [.lptr [mU, mV], .ptr r 0 0]) [.str s] h K := by
  show callG prog 142 ([] ++ [.str s] ++ [.lptr [mU, mV], .ptr r 0 0]) h K
  refine callG_of (s142_ok ?_)
  unfold s142
  obtain ⟨eb, heb, hix⟩ := hV.ix hb
  rw [addOff_lptr]
  simp only [List.drop_succ_cons, List.drop_zero, ld1_lptr]
  rw [ld1_one hr rfl, tInt_int, hix, ld1_lptr]
  refine callG_of (containsS_ok heb ((S.names _ (List.getElem_mem hb)).1).1 ?_)
  rw [tBool_bool]
  exact retG_of hk
theorem looked_l3 (S : Small up val) (hV : Strss mV val) {f : AVal} (hF : LeqF f up) (hl : val.length = up.length) (hn : up.length ≤ 512) {a : Nat} (ha : a < up.length) {ea : AVal} (hea : Strs ea (val[a]'(by omega)))
    (bad : ¬ WF up val → K (.tuple [.nilfunc, .bool false]) h) {L2 : AVal → Int → AVal → AVal → Int → Int → Heap → Prop} {t34 : AVal} {t35 : Int} (hL : (∀ b, b < up.length → Cond up val a b) → L2 (.lptr [mU, mV]) up.length f t34 t35 (a + 1) h) :
    ∀ d b : Nat, b + d = up.length → (∀ b', b' < b → Cond up val a b') → s116l3 K L2 (d + 1) (.lptr [mU, mV]) up.length f a ea t34 t35 a up.length (b : Int) h := by
  intro d
  induction d with
  | zero =>
    intro b hd hk
    unfold s116l3
    exact ifT_neg (by simp; omega) (rg_of (by omega) (by omega) (hL fun b' hb' => hk b' (by omega)))
  | succ d ih =>
    intro b hd hk
    have hb : b < up.length := by omega
    unfold s116l3
    refine ifT_pos (by simp; omega) (newRow_in fun r hr => ?_)
    refine st_elem (Heap.set_same _ _ _) rfl rfl ?_
    rw [show [AVal.int .i64 0].set 0 (.int .i64 (b : Int)) = [.int .i64 (b : Int)] from rfl, Heap.set_set, ld1_one (Heap.set_same _ _ _) rfl, tInt_int]
    have next : Cond up val a b → s116c4 K L2 (s116l3_G (s116l3 K L2 (d + 1))) (.lptr [mU, mV]) up.length f a ea t34 t35 a up.length b (h.set r (.row 1 [.int .i64 (b : Int)])) := by
      intro hc
      refine rg_of (by omega) (by omega) ⟨_, _, h, Lits.refl _, GStep.drop (Heap.set_sub hr), rfl, ?_⟩
      have := ih (b + 1) (by omega) fun b' hb' => by
        by_cases e : b' = b
        · rw [e]; exact hc
        · exact hk b' (by omega)
      exact this
    have stop : ¬ WF up val → retG (.tuple [.nilfunc, .bool false]) (h.set r (.row 1 [.int .i64 (b : Int)])) K := fun hW => retG_drop (Heap.set_sub hr) (bad hW)
    by_cases hab : a = b
    · refine ifT_pos (by simp [hab]) (ifT_pos rfl (next fun _ hne => absurd hab hne))
    · refine ifT_neg (by simp; omega) ?_
      rw [ld1_one (Heap.set_same _ _ _) rfl, tInt_int]
      refine leq_call hF ha hb ?_
      rw [tBool_bool]
      cases hr1 : rb up a b with
      | false => exact ifT_pos rfl (next fun hR => by rw [rb_iff.2 hR] at hr1; cases hr1)
      | true =>
        refine ifT_neg rfl ?_
        rw [ld1_one (Heap.set_same _ _ _) rfl, tInt_int]
        refine leq_call hF hb ha ?_
        rw [tBool_bool]
        cases hr2 : rb up b a with
        | true => exact ifT_pos rfl (ifT_pos rfl (stop fun W => (W.cond a b ha hb (rb_iff.1 hr1) hab).1 (rb_iff.1 hr2)))
        | false =>
          have hva : a < val.length := by omega
          have hvb : b < val.length := by omega
          refine ifT_neg rfl (callG_of (containsFS_ok (p := fun s => !inS val[b] s) hea ((S.names _ (List.getElem_mem hva)).1).1 (fun s _ K' hk' => lacks_call (l := val[a]) (e := ea) hV S hvb (Heap.set_same _ _ _) s K' hk') ?_))
          rw [tBool_bool]
          cases hany : val[a].any fun s => !inS val[b] s with
          | true =>
            refine ifT_pos rfl (stop fun W => ?_)
            obtain ⟨s, hs, hn'⟩ := List.any_eq_true.1 hany
            have := (W.cond a b ha hb (rb_iff.1 hr1) hab).2
            rw [getD_val hva, getD_val hvb] at this
            rw [inS_iff.2 (this s hs)] at hn'
            cases hn'
          | false =>
            refine ifT_neg rfl (next fun _ _ => ⟨(fun e => by rw [rb_iff.2 e] at hr2; cases hr2), ?_⟩)
            rw [getD_val hva, getD_val hvb]
            intro s hs
            have := List.any_eq_false.1 hany s hs
            exact inS_iff.1 (by simpa using this)
theorem looked_l2 (S : Small up val) (hU : Intss mU up) (hV : Strss mV val) {f : AVal} (hF : LeqF f up) (hl : val.length = up.length) (hn : up.length ≤ 512)
    (bad : ¬ WF up val → K (.tuple [.nilfunc, .bool false]) h) (good : (∀ l ∈ val, fineB l = true) → (∀ a b, a < up.length → b < up.length → Cond up val a b) → K (.tuple [f, .bool true]) h) :
    ∀ d a : Nat, a + d = up.length → (∀ l ∈ val.take a, fineB l = true) → (∀ a' b, a' < a → b < up.length → Cond up val a' b) → s116l2 K (d + 1) (.lptr [mU, mV]) up.length f mV up.length (a : Int) h := by
  intro d
  induction d with
  | zero =>
    intro a hd hk hc
    unfold s116l2
    rw [List.take_of_length_le (by omega)] at hk
    exact ifT_neg (by simp; omega) (retG_of (good hk fun a' b ha' hb' => hc a' b (by omega) hb'))
  | succ d ih =>
    intro a hd hk hc
    have ha : a < val.length := by omega
    obtain ⟨ea, hea, hixa⟩ := hV.ix ha
    unfold s116l2
    refine ifT_pos (by simp; omega) ?_
    rw [hixa, ld1_lptr]
    refine callG_of (rising_ok hea (S.names _ (List.getElem_mem ha)).1 ?_)
    rw [tBool_bool]
    cases hf : fineB val[a] with
    | false =>
      refine ifT_pos rfl (retG_of (bad fun W => ?_))
      have := W.fine _ (List.getElem_mem ha)
      rw [hf] at this; cases this
    | true =>
      refine ifT_neg rfl (s116l3_in (up.length + 1) ?_)
      refine looked_l3 S hV hF hl hn (by omega) hea bad (fun hca => s116l2_go (ih (a + 1) (by omega) ?_ fun a' b ha' hb' => ?_)) up.length 0 (by omega) (by intro b' hb'; omega)
      · rw [List.take_succ_eq_append_getElem ha]
        intro l hl'
        rcases List.mem_append.1 hl' with hl' | hl'
        · exact hk l hl'
        · rw [List.mem_singleton.1 hl']; exact hf
      · by_cases e : a' = a
        · rw [e]; exact hca b hb'
        · exact hc a' b (by omega) hb'
theorem looked_ok (S : Small up val) (hU : Intss mU up) (hV : Strss mV val) (bad : ¬ WF up val → K (.tuple [.nilfunc, .bool false]) h) (good : WF up val → ∀ f, LeqF f up → K (.tuple [f, .bool true]) h) :
    ACalls prog 116 [.agg [mU, mV]] h K := by
  refine s116_ok ?_
  have hup := S.ups
  unfold s116
  rw [hU.len]
  by_cases h1 : up.length < 1
  · exact ifT_pos (by simp; omega) (ifT_pos rfl (retG_of (bad fun W => by have := W.pos; omega)))
  · refine ifT_neg (by simp; omega) ?_
    by_cases h2 : 512 < up.length
    · exact ifT_pos (by simp; omega) (ifT_pos rfl (retG_of (bad fun W => by have := W.max; omega)))
    · refine ifT_neg (by simp; omega) ?_
      rw [hV.len]
      by_cases h3 : val.length = up.length
      · refine ifT_neg (by simp [h3]) ?_
        rw [ldN_agg2, tCons_cons, tCons_cons, tNil_nil]
        refine callG_of (reckon_ok hup (fun r hr => by have := S.row r hr; omega) hU (fun hI => ?_) fun hI f hF => ?_)
        · simp only [tTup_tuple, tCons_cons, tBool_bool, tNil_nil]
          exact ifT_pos rfl (retG_of (bad fun W => hI W.inR))
        · simp only [tTup_tuple, tCons_cons, tBool_bool, tNil_nil]
          refine ifT_neg rfl ?_
          rw [addOff_lptr]
          simp only [List.drop_succ_cons, List.drop_zero, ld1_lptr]
          rw [hV.len, h3]
          exact s116l2_in (up.length + 1) (looked_l2 S hU hV hF h3 (by omega) bad (fun hf hc => good ⟨by omega, by omega, h3, hI, hf, hc⟩ f hF) up.length 0 (by omega) (by simp) (by intro a' b ha'; omega))
      · exact ifT_pos (by simp; omega) (retG_of (bad fun W => h3 W.len))
theorem asked_loop {f ws : AVal} {l : List Int} (hU : Intss mU up) (hn : up.length ≤ 512) (hw : Ints ws l) (hm : l.length ≤ 1048576) (bad : ¬ (∀ w ∈ l, 0 ≤ w ∧ w < up.length) → K (.tuple [.nilfunc, .int .i64 2]) h)
    (good : (∀ w ∈ l, 0 ≤ w ∧ w < up.length) → K (.tuple [f, .int .i64 0]) h) : ∀ d i : Nat, i + d = l.length → (∀ w ∈ l.take i, 0 ≤ w ∧ w < up.length) → s79l1 K (d + 1) (.lptr [mU, mV]) f ws l.length (i : Int) h
  | 0, i, hd, hk => by
    unfold s79l1
    rw [List.take_of_length_le (by omega)] at hk
    exact ifT_neg (by simp; omega) (retG_of (good hk))
  | d + 1, i, hd, hk => by
    have hi : i < l.length := by omega
    unfold s79l1
    refine ifT_pos (by simp; omega) ?_
    rw [hw.ix hi, ld1_lptr, tInt_int]
    by_cases h0 : l[i] < 0
    · exact ifT_pos (by simpa using h0) (ifT_pos rfl (retG_of (bad fun hall => by have := hall _ (List.getElem_mem hi); omega)))
    · refine ifT_neg (by simpa using h0) ?_
      rw [addOff_lptr]
      simp only [List.drop_zero, ld1_lptr]
      rw [hU.len]
      by_cases h1 : (up.length : Int) ≤ l[i]
      · exact ifT_pos (by simpa using h1) (retG_of (bad fun hall => by have := hall _ (List.getElem_mem hi); omega))
      · refine ifT_neg (by simpa using h1) (rg_of (by omega) (by omega) (s79l1_go (asked_loop hU hn hw hm bad good d (i + 1) (by omega) ?_)))
        rw [List.take_succ_eq_append_getElem hi]
        intro w hw'
        rcases List.mem_append.1 hw' with hw' | hw'
        · exact hk w hw'
        · rw [List.mem_singleton.1 hw']; omega
theorem asked_ok {ws : AVal} {l : List Int} (S : Small up val) (hU : Intss mU up) (hV : Strss mV val) (hw : Ints ws l) (hm : l.length ≤ 1048576) (bad : ¬ WF up val → K (.tuple [.nilfunc, .int .i64 170]) h)
    (out : WF up val → ¬ (∀ w ∈ l, 0 ≤ w ∧ w < up.length) → K (.tuple [.nilfunc, .int .i64 2]) h) (good : WF up val → (∀ w ∈ l, 0 ≤ w ∧ w < up.length) → ∀ f, LeqF f up → K (.tuple [f, .int .i64 0]) h) :
    ACalls prog 79 [.agg [mU, mV], ws] h K := by
  refine s79_ok (callG_of (looked_ok S hU hV (fun hW => ?_) fun hW f hF => ?_))
  · simp only [tTup_tuple, tCons_cons, tBool_bool, tNil_nil]
    exact ifT_pos rfl (retG_of (bad hW))
  · simp only [tTup_tuple, tCons_cons, tBool_bool, tNil_nil]
    refine ifT_neg rfl ?_
    rw [hw.len]
    exact s79l1_in (l.length + 1) (asked_loop hU hW.max hw hm (out hW) (fun hall => good hW hall f hF) l.length 0 (by omega) (by simp))
theorem check_ok (S : Small up val) (hU : Intss mU up) (hV : Strss mV val) (bad : ¬ WF up val → K (.int .i64 170) h) (good : WF up val → K (.int .i64 0) h) : ACalls prog 59 [.agg [mU, mV]] h K := by
  refine s59_ok (callG_of (asked_ok (l := []) S hU hV (.inr ⟨rfl, rfl⟩) (by simp) (fun hW => ?_) (fun _ hW => absurd (by simp) hW) fun hW _ f hF => ?_))
  · simp only [tTup_tuple, tCons_cons, tInt_int, tNil_nil]
    exact retG_of (bad hW)
  · simp only [tTup_tuple, tCons_cons, tInt_int, tNil_nil]
    exact retG_of (good hW)
end Go.Proofs.YtljglglbfcgjpaaGreat

namespace Go.Proofs.YtljglglbfcgjpaaGreat
open Go Go.Sym Go.Proofs.Tryz
variable {K : AVal → Heap → Prop} {h : Heap} {up : List (List Int)} {val : List (List ByteArray)} {mU mV : AVal}
theorem natV_eq (l : List Nat) : natV l = (natI l).map (.int .i64) := by simp [natV, natI, List.map_map, Function.comp_def]
theorem all_loop {f : AVal} {p : Nat → Bool} {n : Nat} (hn : n ≤ 1048576) (hf : ∀ b, b < n → ∀ (h' : Heap) (K' : AVal → Heap → Prop), (∀ q o, h q = some o → h' q = some o) → K' (.bool (p b)) h' → callV prog f [.int .i64 (b : Int)] h' K')
    (hk : ∀ v, Ints v (natI ((List.range n).filter p)) → K v h) : ∀ d i : Nat, i + d = n → ∀ l_ h', Grow 1 h l_ (natV ((List.range i).filter p)) h' → s80l1 K (d + 1) f l_ n (i : Int) h'
  | 0, i, hd, l_, h', g => by
    unfold s80l1
    refine ifT_neg (by simp; omega) ?_
    obtain ⟨S, v', h1, h2, h3⟩ := g.freeze
    obtain rfl : i = n := by omega
    exact ⟨S, v', h, h1, h3, hk v' (by unfold Ints; rw [← natV_eq]; exact h2)⟩
  | d + 1, i, hd, l_, h', g => by
    unfold s80l1
    refine ifT_pos (by simp; omega) ?_
    refine hf i (by omega) h' _ (fun q o hq => g.old hq) ?_
    rw [tBool_bool]
    have hle : (natV ((List.range i).filter p)).length ≤ i := by
      rw [natV_len]
      have := List.length_filter_le p (List.range i)
      simpa using this
    have hs := range_filter_succ p i
    cases hp : p i with
    | true =>
      rw [hp] at hs
      refine ifT_pos rfl (appC_one g (by omega) (by omega) fun v' h2 g2 => rg_of (by omega) (by omega) (s80l1_go (all_loop hn hf hk d (i + 1) (by omega) v' h2 ?_)))
      rw [hs, if_pos rfl, natV_app]
      exact g2
    | false =>
      rw [hp] at hs
      refine ifT_neg rfl (rg_of (by omega) (by omega) (s80l1_go (all_loop hn hf hk d (i + 1) (by omega) l_ h' ?_)))
      rw [hs]
      simpa using g
theorem all_ok {f : AVal} {p : Nat → Bool} (hU : Intss mU up) (hn : up.length ≤ 1048576) (hf : ∀ b, b < up.length → ∀ (h' : Heap) (K' : AVal → Heap → Prop), (∀ q o, h q = some o → h' q = some o) → K' (.bool (p b)) h' → callV prog f [.int .i64 (b : Int)] h' K')
    (hk : ∀ v, Ints v (natI ((List.range up.length).filter p)) → K v h) : ACalls prog 80 [.agg [mU, mV], f] h K := by
  refine s80_ok ?_
  unfold s80
  rw [hU.len]
  exact s80l1_in (up.length + 1) (all_loop hn hf hk up.length 0 (by omega) .nilsl h .nil)
end Go.Proofs.YtljglglbfcgjpaaGreat

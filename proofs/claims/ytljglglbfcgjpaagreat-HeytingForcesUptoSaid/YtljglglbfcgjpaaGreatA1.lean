/- From a reading to inputs of a law: whole numbers and texts alone; the row's last step. No condition. From a reading to inputs of a law: slices, structs. No condition. Contracts: the same numbers. No condition. Contracts: the program's words. No condition. Words and small laws for contracts: sizes of models, owned rows. No condition. From a reading to a model. No condition. Words for contracts: nodes of a table of formulas, and memory that is read as a list of them. No condition. From a reading to a table of formulas. No condition. Contracts: names that rise; is a name, a number among some? (the program) No condition. Plain: who is above whom; a search for all that is above. No condition. Plain: which models are well-formed. No condition. Plain: the order of texts; names that rise are all different; rising numbers are few. No condition. Words for contracts: memory that grows. No condition. -/
import Derived.Test.YtljglglbfcgjpaaGreatRows
import Derived.WalkKit
import Derived.ProofKit
import Derived.OpenShut
import Derived.JoinedCond
import Derived.Below
import Derived.ChangeSame
import Derived.ReadAgain
import Derived.Test.YtljglglbfcgjpaaGreatM5
import Derived.Test.YtljglglbfcgjpaaGreatProg
import Derived.Test.YtljglglbfcgjpaaGreatPF0
import Derived.Test.YtljglglbfcgjpaaGreatPF1
import Derived.Sort.Walk0

set_option linter.unusedVariables false
set_option linter.unusedSimpArgs false

namespace Go.Proofs.YtljglglbfcgjpaaGreat
open Go Go.Sym Go.Proofs.Tryz
open Go.ChangeShapes Go.WideShapes Go.ChangeAt Go.RowKit
set_option linter.unusedVariables false
set_option maxRecDepth 4000
/- ---- the measure ---- -/
theorem bulk_one {H : Type} (d : DataW H) : 1 ≤ Rows.uptoBulk d := by
  cases d with
  | lit l => cases l <;> simp [Rows.uptoBulk]
  | nil => simp [Rows.uptoBulk]
  | ptr d => simp [Rows.uptoBulk]
  | slice elems spare => simp [Rows.uptoBulk]
  | agg parts => simp [Rows.uptoBulk]
  | iface t d => simp [Rows.uptoBulk]
  | map entries => simp [Rows.uptoBulk]
  | held h => simp [Rows.uptoBulk]
theorem bulk_mem {H : Type} {d : DataW H} {l : List (DataW H)} (h : d ∈ l) : Rows.uptoBulk d ≤ Rows.uptoBulkAll l := by
  induction l with
  | nil => cases h
  | cons x r ih =>
    simp only [Rows.uptoBulkAll]
    rcases List.mem_cons.1 h with e | e
    · subst e; omega
    · have := ih e; omega
theorem bulk_len {H : Type} (l : List (DataW H)) : l.length ≤ Rows.uptoBulkAll l := by
  induction l with
  | nil => simp
  | cons x r ih =>
    have := bulk_one x
    simp only [Rows.uptoBulkAll, List.length_cons]
    omega
theorem bulkOK {H : Type} : BulkOK (Rows.uptoBulk (H := H)) where
  str l := by simp [Rows.uptoBulk]
  ptr d := by simp [Rows.uptoBulk]
  len l r := by have := bulk_len l; simp only [Rows.uptoBulk]; omega
  elem l r d h := by have := bulk_mem h; simp only [Rows.uptoBulk]; omega
  part l d h := by have := bulk_mem h; simp only [Rows.uptoBulk]; omega
theorem closed_ts : closedT prog [3, 9] = true := by kernel_rfl
section
variable {H : Type} {enc : TypeId × Value → H} {W : World}
theorem arg_got {t : TypeId} {v : Value} {d : DataW H} {ps : List MemPlace} {B : Nat} (ht : t ∈ [3, 9]) (h : DataW.Trod enc prog W 0 (fun _ => true) true t v d ps) (hb : Rows.uptoBulk d ≤ B) :
    ∃ n, Got prog W B n t v.cells.toList := by
  obtain ⟨n, hn⟩ := h
  exact ⟨n, trod_rel bulkOK closed_ts n t _ _ ht hn hb⟩
theorem arg_int {t : TypeId} {v : Value} (hu : prog.underlying t = some (.int .i64)) (hv : Value.okWide prog W .any 0 t v) {B n : Nat} (h : Got prog W B n t v.cells.toList) : ∃ z : Int, RelV (ghost0 W) (.int .i64 z) v := by
  have hc : v.cells.toList = [v] := by
    cases v <;> first | rfl | skip
    simp [Value.okWide, Cell.okWide, Cell.ok, hu] at hv
  rw [hc] at h
  obtain ⟨l, h1, h2, _⟩ := h
  cases h1 with
  | @cons a x l xs ha hb =>
    cases hb
    cases n with
    | zero => exact h2.elim
    | succ n =>
      simp only [ShV, hu] at h2
      obtain ⟨z, e, _⟩ := h2
      obtain rfl : a = .int .i64 z := by simpa using e
      exact ⟨z, ha⟩
theorem arg_str {t : TypeId} {v : Value} (hu : prog.underlying t = some .string) (hv : Value.okWide prog W .any 0 t v) {B n : Nat} (h : Got prog W B n t v.cells.toList) : ∃ z : ByteArray, RelV (ghost0 W) (.str z) v ∧ z.size ≤ B := by
  have hc : v.cells.toList = [v] := by
    cases v <;> first | rfl | skip
    simp [Value.okWide, Cell.okWide, Cell.ok, hu] at hv
  rw [hc] at h
  obtain ⟨l, h1, h2, _⟩ := h
  cases h1 with
  | @cons a x l xs ha hb =>
    cases hb
    cases n with
    | zero => exact h2.elim
    | succ n =>
      simp only [ShV, hu] at h2
      obtain ⟨z, e, hz⟩ := h2
      obtain rfl : a = .str z := by simpa using e
      exact ⟨z, ha, hz⟩
/- ---- what a law leaves ---- -/
theorem law_callsR [Nam] (H0 : RelH (ghost0 W) (fun _ => none) W) {f : FuncId} {avs : List AVal} {args : Array Value} (hr : RelVs (ghost0 W) avs args.toList) (hA : ACalls prog f avs (fun _ => none) (fun v _ => v = .bool true)) :
    Calls prog f args W fun e W' => e = .returned (.bool true) ∧ Below W.heap.size W W' := by
  have := hA.2 (ghost0 W) args.toList W hr H0
  simp only [Array.toArray_toList] at this
  refine this.mono ?_
  rintro e w' ⟨v, κ', av, h', rfl, le, H', hv, rfl⟩
  cases hv
  have hb : ∀ k, k < W.heap.size → w'.heap[k]? = W.heap[k]? := fun k hk => by
    have e1 : W.heap[k]? = some W.heap[k] := by simp [hk]
    rw [H'.imm k _ (le.imm k _ e1), e1]
  refine ⟨rfl, H'.os.trans le.os, H'.tape.trans le.tape, H'.output.trans le.output, ?_, hb⟩
  by_cases h0 : W.heap.size = 0
  · omega
  · have e1 := hb (W.heap.size - 1) (by omega)
    have e2 : W.heap[W.heap.size - 1]? = some W.heap[W.heap.size - 1] := by simp
    rw [e2] at e1
    have := (Array.getElem?_eq_some_iff.1 e1).1
    omega
theorem law_calls {f : FuncId} {avs : List AVal} {args : Array Value} (hr : RelVs (ghost0 W) avs args.toList) (hA : @ACalls Nam.any prog f avs (fun _ => none) (fun v _ => v = .bool true)) :
    Calls prog f args W fun e W' => e = .returned (.bool true) ∧ Below W.heap.size W W' := @law_callsR _ Nam.any (relH0 W) f avs args hr hA
theorem same_at {W' : World} (hb : Below W.heap.size W W') {p : MemPlace} (hp : p.block < W.heap.size) : W.sameAt W' p := by
  have := hb.block p.block hp
  cases p with
  | cell b off =>
    show W'.cell? ⟨b, off, none⟩ = W.cell? ⟨b, off, none⟩
    simp only [MemPlace.block] at this
    unfold World.cell?
    rw [this]
  | map b => exact this
theorem args_again {W' : World} (hb : Below W.heap.size W W') {sp : Nat → Bool} {held : Bool} {base : Nat} : ∀ {ts : List TypeId} {vs : List Value} {ds : List (DataW H)} {ps : List MemPlace}, DataW.TrodAll enc prog W base sp held ts vs ds ps → (∀ p ∈ ps, p.block < W.heap.size) → DataW.TrodAll enc prog W' base sp held ts vs ds ps
  | [], [], [], _, h, _ => h
  | _ :: _, _ :: _, _ :: _, _, ⟨p, q, ⟨n, h1⟩, h2, e⟩, hl => ⟨p, q, ⟨n, DataW.trod_carry n _ _ _ h1 (fun x hx => same_at hb (hl x (by rw [e]; exact List.mem_append_left _ hx)))⟩, args_again hb h2 (fun x hx => hl x (by rw [e]; exact List.mem_append_right _ hx)), e⟩
theorem post_true {f : Func} {s : ChangeSpec} {apart fresh handsOn again : Bool} {W' : World} {args : Array Value} {ds : List (DataW H)} {before : List MemPlace} (hf : f.resultTypes = #[4]) (hs : s.vars = [])
    (hfn : s.fn H (ds ++ []) = { results := [.lit (.bool true)], args := ds }) (hT : ∀ t ∈ f.params.toList, t < prog.types.size) (K : Kids prog (· < prog.types.size)) (hz : ∀ t e, t < prog.types.size → prog.underlying t = some (.slice e) → 0 < prog.cellsOf e)
    (hW : DataW.Whole enc prog f.params.toList s.vars apart W args.toList ds [] before) (hb : Below W.heap.size W W') : s.post enc prog f apart fresh handsOn again W args (.bool true) W' := by
  have hlt : ∀ p ∈ before, p.block < W.heap.size := fun p hp => hW.lt p hp
  have hW0 := hW
  obtain ⟨pa, q, hA, hV, hps, hz2, hn⟩ := hW
  rw [hs] at hV
  obtain ⟨_, rfl⟩ := trodVars_none hV
  rw [List.append_nil] at hps
  subst hps
  have hargs : ∀ sp : Nat → Bool, (∀ p ∈ before, sp p.block = true) → DataW.TrodAll enc prog W' 0 sp true f.params.toList args.toList ds before :=
    fun sp hsp => args_again hb (DataW.TrodAll.respare K hz hT hA hsp) hlt
  have hres : ∀ (b : Nat) (sp : Nat → Bool) (hd : Bool), DataW.TrodAll enc prog W' b sp hd f.resultTypes.toList ((Value.bool true).resultList f.resultTypes.size) [.lit (.bool true)] [] := fun b sp hd => by
    rw [hf]
    exact trodAll_cons_mk (shut_bool underlying4 _) trodAll_mk0
  have hold : ∀ p ∈ before, (fun b => decide (b < W.heap.size)) p.block = true := fun p hp => by simpa using hlt p hp
  have hvars : ∀ sp, DataW.TrodVars enc prog W' sp s.vars [] [] := fun sp => by rw [hs]; rfl
  refine ⟨ds, [], before, [], before, [], hW0, by rw [hfn]; exact hres _ _ _, by rw [hfn]; exact hargs _ hold, by rw [hfn]; exact hvars _, World.keptBut_mono (fun p hp => ⟨hp, .inr (by simp [hp])⟩) (hb.frame (· ∈ before)), fun _ => ?_⟩
  refine ⟨ok_one hf rfl (okWide_bool_mk underlying4 _), _, _, [] ++ before ++ [], ⟨[] ++ before, [], trodAll_append (hargs _ (fun _ _ => rfl)) (hres _ _ _), hvars _, rfl, ?_, ?_⟩, ?_⟩
  · intro b off hp
    have hin : MemPlace.cell b off ∈ before := by simpa using hp
    rw [hb.frozen (hlt _ hin)]
    exact hz2 b off hin
  · intro ha
    have := hn ha
    simpa using this
  · intro p hp _
    simpa using hp
end
end Go.Proofs.YtljglglbfcgjpaaGreat

namespace Go.Proofs.YtljglglbfcgjpaaGreat
open Go Go.Sym Go.Proofs.Tryz
open Go.ChangeShapes Go.WideShapes Go.ChangeAt Go.RowKit
set_option linter.unusedVariables false
set_option maxRecDepth 4000
theorem all2_of {β : Type} {R : AVal → β → Prop} {Q : β → Prop} : ∀ {l : List AVal}, (∀ x ∈ l, ∃ b, R x b ∧ Q b) → ∃ bs, All2 R l bs ∧ ∀ b ∈ bs, Q b
  | [], _ => ⟨[], .nil, by simp⟩
  | x :: l, h => by
    obtain ⟨b, hb, hq⟩ := h x List.mem_cons_self
    obtain ⟨bs, h1, h2⟩ := all2_of (l := l) (fun y hy => h y (List.mem_cons_of_mem _ hy))
    exact ⟨b :: bs, .cons hb h1, fun c hc => by
      rcases List.mem_cons.1 hc with rfl | hc
      · exact hq
      · exact h2 c hc⟩
theorem all2_map {β : Type} {f : β → AVal} : ∀ {l : List AVal} {bs : List β}, All2 (fun x b => x = f b) l bs → l = bs.map f
  | _, _, .nil => rfl
  | _, _, .cons h t => by rw [h, all2_map t]; rfl
theorem shV_slice {P : Program} {B n : Nat} {t e : TypeId} {l : List AVal} {β : Type} {R : AVal → β → Prop} {Q : β → Prop} (hu : P.underlying t = some (.slice e))
    (he : ∀ n x, x.isAgg = aggT P e → (Sym.cellsOf x).length = P.cellsOf e → ShV P B n e (Sym.cellsOf x) → ∃ b, R x b ∧ Q b) (h : ShV P B n t l) :
    ∃ v L bs, l = [v] ∧ SlOf (P.cellsOf e) v L ∧ All2 R L bs ∧ bs.length ≤ B ∧ ∀ b ∈ bs, Q b := by
  cases n with
  | zero => exact h.elim
  | succ n =>
    simp only [ShV, hu] at h
    rcases h with rfl | ⟨elems, rfl, h1, h2⟩
    · exact ⟨_, [], [], rfl, .nil _, .nil, by simp, by simp⟩
    · obtain ⟨bs, h3, h4⟩ := all2_of (R := R) (Q := Q) (l := elems) (fun x hx => he n x (h2 x hx).1 (h2 x hx).2.1 (h2 x hx).2.2)
      exact ⟨_, elems, bs, rfl, .lsl _ _, h3, by rw [← h3.length]; exact h1, h4⟩
theorem cells_one {x : AVal} (h : x.isAgg = false) : Sym.cellsOf x = [x] := by cases x <;> first | rfl | cases h
theorem ca3 : prog.cellsOf 3 = 1 := by kernel_rfl
theorem ca9 : prog.cellsOf 9 = 1 := by kernel_rfl
theorem ag3 : aggT prog 3 = false := by kernel_rfl
theorem ag9 : aggT prog 9 = false := by kernel_rfl
theorem shV_int {B n : Nat} {x : AVal} (h : ShV prog B n 3 [x]) : ∃ b, x = .int .i64 b := by
  cases n with
  | zero => exact h.elim
  | succ n =>
    simp only [ShV, underlying3] at h
    obtain ⟨b, e, _⟩ := h
    exact ⟨b, by simpa using e⟩
theorem shV_str {B n : Nat} {x : AVal} (h : ShV prog B n 9 [x]) : ∃ s : ByteArray, x = .str s ∧ s.size ≤ B := by
  cases n with
  | zero => exact h.elim
  | succ n =>
    simp only [ShV, underlying9] at h
    obtain ⟨s, e, hs⟩ := h
    exact ⟨s, by simpa using e, hs⟩
section
variable {H : Type} {enc : TypeId × Value → H} {W : World}
theorem arg_slice {t e : TypeId} {v : Value} (hu : prog.underlying t = some (.slice e)) (hv : Value.okWide prog W .any 0 t v) : v.cells.toList = [v] := by
  cases v <;> first | rfl | skip
  simp [Value.okWide, Cell.okWide, Cell.ok, hu] at hv
theorem arg_one {t e : TypeId} {v : Value} (hu : prog.underlying t = some (.slice e)) (hv : Value.okWide prog W .any 0 t v) {B n : Nat} (h : Got prog W B n t v.cells.toList) : ∃ a, RelV (ghost0 W) a v ∧ ShV prog B n t [a] := by
  rw [arg_slice hu hv] at h
  obtain ⟨l, h1, h2, _⟩ := h
  cases h1 with
  | cons a b => cases b; exact ⟨_, a, h2⟩
theorem arg_struct {t : TypeId} {fs : Array Field} {v : Value} (hu : prog.underlying t = some (.struct fs)) (hv : Value.okWide prog W .any 0 t v) {B n : Nat} (h : Got prog W B n t v.cells.toList) : ∃ l, RelV (ghost0 W) (.agg l) v ∧ ShV prog B n t l := by
  simp only [Value.okWide, hu] at hv
  obtain ⟨cs, rfl, _⟩ := hv
  obtain ⟨l, h1, h2, h3⟩ := h
  refine ⟨l, ?_, h2⟩
  have := RelV.agg h3 h1
  simpa [Value.cells] using this
end
end Go.Proofs.YtljglglbfcgjpaaGreat

namespace Go.Proofs.YtljglglbfcgjpaaGreat
open Go Go.Sym Go.Proofs.Tryz
variable {K : AVal → Heap → Prop} {h : Heap}
theorem ints_loop {a b : AVal} {la lb : List Int} (ha : Ints a la) (hb : Ints b lb) (hl : la.length = lb.length) (hm : la.length ≤ 1073741824) : ∀ d i : Nat, i + d = la.length →
    K (.bool (decide (la.drop i = lb.drop i))) h → s18l1 K (d + 1) a b (i : Int) h
  | 0, i, hd, hk => by
    unfold s18l1
    rw [ha.len]
    refine ifT_neg (by simp; omega) (retG_of ?_)
    rw [List.drop_eq_nil_of_le (by omega), List.drop_eq_nil_of_le (by omega)] at hk
    simpa using hk
  | d + 1, i, hd, hk => by
    have hi : i < la.length := by omega
    have hi' : i < lb.length := by omega
    unfold s18l1
    rw [ha.len]
    refine ifT_pos (by simp; omega) ?_
    rw [ha.ix hi, ld1_lptr, tInt_int, hb.ix hi', ld1_lptr, tInt_int]
    rw [drop_eq_step hi hi'] at hk
    by_cases he : la[i] = lb[i]
    · refine ifT_neg (by simp [he]) (rg_of (by omega) (by omega) ?_)
      exact s18l1_go (ints_loop ha hb hl hm d (i + 1) (by omega) (by simpa [he] using hk))
    · refine ifT_pos (by simp [he]) (retG_of ?_)
      simpa [he] using hk
theorem ints_ok {a b : AVal} {la lb : List Int} (ha : Ints a la) (hb : Ints b lb) (hm : la.length ≤ 1073741824) (hk : K (.bool (decide (la = lb))) h) :
    ACalls prog 18 [a, b] h K := by
  refine s18_ok ?_
  unfold s18
  rw [ha.len, hb.len]
  by_cases hl : la.length = lb.length
  · refine ifT_neg (by simp [hl]) (s18l1_in (la.length + 1) ?_)
    exact ints_loop ha hb hl hm la.length 0 (by omega) (by simpa using hk)
  · refine ifT_pos (by simp; omega) (retG_of ?_)
    rwa [show decide (la = lb) = false by simp; intro e; exact hl (by rw [e])] at hk
end Go.Proofs.YtljglglbfcgjpaaGreat

namespace Go.Proofs.YtljglglbfcgjpaaGreat
open Go Go.Sym Go.Proofs.Tryz
variable {K : AVal → Heap → Prop} {h : Heap}
def ltB (c : Int) : Bool := (decide (97 ≤ c) && decide (c ≤ 122)) || (decide (65 ≤ c) && decide (c ≤ 90))
def dgB (c : Int) : Bool := (decide (48 ≤ c) && decide (c ≤ 57)) || (c == 95 || c == 39)
def goodB (s : ByteArray) (i : Nat) : Bool := ltB (btA s i) || (i != 0 && dgB (btA s i))
def resL : List ByteArray := [ByteArray.mk #[97, 98, 111, 114, 116], ByteArray.mk #[99, 97, 115, 101], ByteArray.mk #[102, 97, 108, 115, 101], ByteArray.mk #[102, 115, 116], ByteArray.mk #[102, 117, 110], ByteArray.mk #[105, 110], ByteArray.mk #[105, 110, 108], ByteArray.mk #[105, 110, 114], ByteArray.mk #[108, 101, 116], ByteArray.mk #[111, 102], ByteArray.mk #[115, 110, 100], ByteArray.mk #[116, 114, 117, 101]]
def wordB (s : ByteArray) : Bool := decide (s.size ≠ 0) && (decide (s.size ≤ 31) && ((List.range' 0 s.size).all (goodB s) && resL.all fun r => !strEq r s))
theorem strEq_comm (a b : ByteArray) : strEq a b = strEq b a := by rw [strEq_dec, strEq_dec, Bool.eq_iff_iff]; simp [eq_comm]
theorem btA_range (s : ByteArray) (i : Int) : 0 ≤ btA s i ∧ btA s i ≤ 255 := by
  unfold btA
  have := UInt8.toNat_lt (s[i.toNat]?.getD 0)
  omega
theorem or32 : ∀ c : Fin 256, (decide (97 ≤ bitsI .or .u8 (c.val : Int) 32) && decide (bitsI .or .u8 (c.val : Int) 32 ≤ 122)) = ltB c.val := by decide +kernel
theorem or32_bt (s : ByteArray) (i : Int) : (decide (97 ≤ bitsI .or .u8 (btA s i) 32) && decide (bitsI .or .u8 (btA s i) 32 ≤ 122)) = ltB (btA s i) := by
  obtain ⟨h1, h2⟩ := btA_range s i
  have := or32 ⟨(btA s i).toNat, by omega⟩
  simp only [Int.toNat_of_nonneg h1] at this
  exact this
theorem reserved_ok (s : ByteArray) (hk : K (.bool (resL.any fun r => strEq r s)) h) : ACalls prog 159 [.str s] h K := by
  refine s159_ok ?_
  unfold s159
  simp only [resL, List.any_cons, List.any_nil, Bool.or_false] at hk
  simp only [strEq_comm _ s] at hk
  unfold s159c1
  generalize strEq s (ByteArray.mk #[97, 98, 111, 114, 116]) = b0 at hk ⊢
  generalize strEq s (ByteArray.mk #[99, 97, 115, 101]) = b1 at hk ⊢
  generalize strEq s (ByteArray.mk #[102, 97, 108, 115, 101]) = b2 at hk ⊢
  generalize strEq s (ByteArray.mk #[102, 115, 116]) = b3 at hk ⊢
  generalize strEq s (ByteArray.mk #[102, 117, 110]) = b4 at hk ⊢
  generalize strEq s (ByteArray.mk #[105, 110]) = b5 at hk ⊢
  generalize strEq s (ByteArray.mk #[105, 110, 108]) = b6 at hk ⊢
  generalize strEq s (ByteArray.mk #[105, 110, 114]) = b7 at hk ⊢
  generalize strEq s (ByteArray.mk #[108, 101, 116]) = b8 at hk ⊢
  generalize strEq s (ByteArray.mk #[111, 102]) = b9 at hk ⊢
  generalize strEq s (ByteArray.mk #[115, 110, 100]) = b10 at hk ⊢
  generalize strEq s (ByteArray.mk #[116, 114, 117, 101]) = b11 at hk ⊢
  cases b0 with
  | true => exact ifT_pos rfl (ifT_pos rfl (retG_of (by simpa using hk)))
  | false =>
  refine ifT_neg rfl ?_
  cases b1 with
  | true => exact ifT_pos rfl (ifT_pos rfl (retG_of (by simpa using hk)))
  | false =>
  refine ifT_neg rfl ?_
  cases b2 with
  | true => exact ifT_pos rfl (ifT_pos rfl (retG_of (by simpa using hk)))
  | false =>
  refine ifT_neg rfl ?_
  cases b3 with
  | true => exact ifT_pos rfl (ifT_pos rfl (retG_of (by simpa using hk)))
  | false =>
  refine ifT_neg rfl ?_
  cases b4 with
  | true => exact ifT_pos rfl (ifT_pos rfl (retG_of (by simpa using hk)))
  | false =>
  refine ifT_neg rfl ?_
  cases b5 with
  | true => exact ifT_pos rfl (ifT_pos rfl (retG_of (by simpa using hk)))
  | false =>
  refine ifT_neg rfl ?_
  cases b6 with
  | true => exact ifT_pos rfl (ifT_pos rfl (retG_of (by simpa using hk)))
  | false =>
  refine ifT_neg rfl ?_
  cases b7 with
  | true => exact ifT_pos rfl (ifT_pos rfl (retG_of (by simpa using hk)))
  | false =>
  refine ifT_neg rfl ?_
  cases b8 with
  | true => exact ifT_pos rfl (ifT_pos rfl (retG_of (by simpa using hk)))
  | false =>
  refine ifT_neg rfl ?_
  cases b9 with
  | true => exact ifT_pos rfl (ifT_pos rfl (retG_of (by simpa using hk)))
  | false =>
  refine ifT_neg rfl ?_
  cases b10 with
  | true => exact ifT_pos rfl (ifT_pos rfl (retG_of (by simpa using hk)))
  | false =>
  refine ifT_neg rfl ?_
  cases b11 with
  | true => exact ifT_pos rfl (retG_of (by simpa using hk))
  | false => exact ifT_neg rfl (retG_of (by simpa using hk))
theorem word_loop {s : ByteArray} (hm : s.size ≤ 1073741824) : ∀ d i : Nat, i + d = s.size →
    K (.bool ((List.range' i d).all (goodB s) && (decide (s.size ≠ 0) && (decide (s.size ≤ 31) && resL.all fun r => !strEq r s)))) h → s143l1 K (d + 1) s (s.size : Int) (i : Int) h
  | 0, i, hd, hk => by
    unfold s143l1
    refine ifT_neg (by simp; omega) ?_
    have he : strEq s (ByteArray.mk #[]) = decide (s.size = 0) := by
      rw [strEq_dec, Bool.eq_iff_iff]
      simp only [decide_eq_true_eq]
      constructor
      · intro e; rw [e]; rfl
      · intro e
        obtain ⟨⟨l⟩⟩ := s
        have : l.length = 0 := e
        rw [List.eq_nil_of_length_eq_zero this]
    rw [he]
    simp only [List.range'_zero, List.all_nil, Bool.true_and] at hk
    by_cases h0 : s.size = 0
    · refine ifT_neg (by simp [h0]) (retG_of ?_)
      simpa [h0] using hk
    · refine ifT_pos (by simp [h0]) ?_
      by_cases h31 : s.size ≤ 31
      · refine ifT_pos (by simp; omega) (callG_of (reserved_ok s ?_))
        rw [tBool_bool]
        refine retG_of ?_
        rw [show (!resL.any fun r => strEq r s) = resL.all fun r => !strEq r s by rw [List.all_eq_not_any_not]; simp]
        simpa [h0, h31] using hk
      · refine ifT_neg (by simp; omega) (retG_of ?_)
        simpa [h0, h31] using hk
  | d + 1, i, hd, hk => by
    unfold s143l1
    refine ifT_pos (by simp; omega) ⟨by omega, ?_⟩
    rw [List.range'_succ, List.all_cons] at hk
    have rest : goodB s i = true → s143c3 K (s143l1_G (s143l1 K (d + 1))) s s.size i false h := by
      intro hg
      rw [hg] at hk
      exact ifT_neg rfl (rg_of (by omega) (by omega) (s143l1_go (word_loop hm d (i + 1) (by omega) (by simpa using hk))))
    have stop : goodB s i = false → s143c3 K (s143l1_G (s143l1 K (d + 1))) s s.size i true h := by
      intro hg
      rw [hg] at hk
      exact ifT_pos rfl (retG_of (by simpa using hk))
    have key : s143c2 K (s143l1_G (s143l1 K (d + 1))) s i (btA s i) (ltB (btA s i)) s.size i h := by
      unfold s143c2
      unfold goodB dgB at rest stop
      cases hl : ltB (btA s i) with
      | true => exact ifT_neg rfl (rest (by rw [hl]; rfl))
      | false =>
        rw [hl] at rest stop
        simp only [Bool.false_or] at rest stop
        refine ifT_pos rfl ?_
        by_cases h0 : i = 0
        · refine ifT_pos (by simp [h0]) (stop (by simp [h0]))
        · refine ifT_neg (by simpa using h0) ?_
          rw [show (i != 0) = true by simpa using h0] at rest stop
          simp only [Bool.true_and] at rest stop
          generalize btA s i = c at *
          by_cases h95 : c = 95
          · exact ifT_neg (by simp [h95]) (rest (by simp [h95]))
          · refine ifT_pos (by simpa using h95) ?_
            by_cases h39 : c = 39
            · exact ifT_neg (by simp [h39]) (rest (by simp [h39]))
            · refine ifT_pos (by simpa using h39) ?_
              by_cases h48 : c < 48
              · exact ifT_pos (by simpa using h48) (stop (by simp [h95, h39]; omega))
              · refine ifT_neg (by simpa using h48) ?_
                by_cases h57 : 57 < c
                · rw [show decide (57 < c) = true by simpa using h57]; exact stop (by simp [h95, h39]; omega)
                · rw [show decide (57 < c) = false by simpa using h57]; exact rest (by simp; omega)
    have ho := or32_bt s i
    cases h97 : decide (97 ≤ bitsI .or .u8 (btA s i) 32) with
    | true => rw [h97, Bool.true_and] at ho; rw [ho]; exact ifT_pos rfl key
    | false => rw [h97, Bool.false_and] at ho; rw [← ho] at key; exact ifT_neg rfl key
theorem word_ok (s : ByteArray) (hm : s.size ≤ 1073741824) (hk : K (.bool (wordB s)) h) : ACalls prog 143 [.str s] h K := by
  refine s143_ok (s143l1_in (s.size + 1) (word_loop hm s.size 0 (by omega) ?_))
  unfold wordB at hk
  rwa [show ((List.range' 0 s.size).all (goodB s) && (decide (s.size ≠ 0) && (decide (s.size ≤ 31) && resL.all fun r => !strEq r s))) =
    (decide (s.size ≠ 0) && (decide (s.size ≤ 31) && ((List.range' 0 s.size).all (goodB s) && resL.all fun r => !strEq r s))) by
      cases (List.range' 0 s.size).all (goodB s) <;> cases decide (s.size ≠ 0) <;> cases decide (s.size ≤ 31) <;> rfl]
end Go.Proofs.YtljglglbfcgjpaaGreat

namespace Go.Proofs.YtljglglbfcgjpaaGreat
open Go Go.Sym Go.Proofs.Tryz
def SB (l : List ByteArray) : Prop := l.length ≤ 1073741824 ∧ ∀ s ∈ l, s.size ≤ 1073741824
structure Small (up : List (List Int)) (val : List (List ByteArray)) : Prop where
  ups : up.length ≤ 1048576
  vals : val.length ≤ 1048576
  row : ∀ r ∈ up, r.length ≤ 1048576
  names : ∀ l ∈ val, SB l ∧ l.length ≤ 1048576
def natI (l : List Nat) : List Int := l.map fun (x : Nat) => (x : Int)
theorem map_set {α : Type} (g : Nat → α) (n w : Nat) (y : α) : ((List.range n).map g).set w y = (List.range n).map fun x => if x = w then y else g x := by
  refine List.ext_getElem (by simp) fun i h1 h2 => ?_
  rw [List.getElem_set]
  by_cases e : w = i
  · subst e; simp
  · rw [if_neg e]
    simp [Ne.symm e]
theorem range_get {α : Type} (g : Nat → α) {n i : Nat} (hi : i < n) : ((List.range n).map g)[i]? = some (g i) := by simp [hi]
/- ---------------- the texts of the names ---------------- -/
theorem Own.toBase {hb h : Heap} {os : List Ow} (W : Own hb os h) (S : Nat → Prop) (hS : ∀ n, S n → hb n = none) : Go.Sym.GStep h hb S :=
  ⟨fun _ _ => trivial, fun q o hq => ⟨o, W.old q o hq, (fun hs => by rw [hS q hs] at hq; cases hq), .refl o⟩⟩
def rowsO (q : Nat) (f : Nat → AVal) (g : Nat → List Nat) : List Ow := (List.range q).map fun k => .slc 1 (f k) ((natI (g k)).map (.int .i64))
def upd {α : Type} (f : Nat → α) (k : Nat) (y : α) : Nat → α := fun x => if x = k then y else f x
theorem rowsO_get {q k : Nat} {f : Nat → AVal} {g : Nat → List Nat} (hk : k < q) (a b d : Ow) : ([a, b, d] ++ rowsO q f g)[k + 3]? = some (.slc 1 (f k) ((natI (g k)).map (.int .i64))) := by
  show (rowsO q f g)[k]? = _
  unfold rowsO
  exact range_get _ hk
theorem rowsO_set {q k x : Nat} {f : Nat → AVal} {g : Nat → List Nat} {v : AVal} (a b d : Ow) : ([a, b, d] ++ rowsO q f g).set (k + 3) (.slc 1 v ((natI (g k)).map (.int .i64) ++ [.int .i64 (x : Int)])) = [a, b, d] ++ rowsO q (upd f k v) (upd g k (g k ++ [x])) := by
  show a :: b :: d :: (rowsO q f g).set k _ = a :: b :: d :: rowsO q _ _
  unfold rowsO
  rw [map_set]
  congr 3
  refine List.map_congr_left fun y _ => ?_
  unfold upd
  split
  · simp [natI]
  · rfl
theorem lits_rows {hb h : Heap} {os : List Ow} (W : Own hb os h) {S : Nat → Prop} {f : Nat → AVal} {g : Nat → List Nat} : ∀ (ks : List Nat), (∀ k ∈ ks, ∃ i : Nat, os[i]? = some (.slc 1 (f k) ((natI (g k)).map (.int .i64)))) → (∀ k ∈ ks, ∀ n, nameOf (f k) n → S n) →
    ∃ l', Lits h S (ks.map f) l' ∧ All2 Ints l' (ks.map fun k => natI (g k))
  | [], _, _ => ⟨[], .nil, .nil⟩
  | k :: ks, ho, hS => by
    obtain ⟨l', h1, h2⟩ := lits_rows W ks (fun k hk => ho k (List.mem_cons_of_mem _ hk)) (fun k hk => hS k (List.mem_cons_of_mem _ hk))
    obtain ⟨i, hi⟩ := ho k List.mem_cons_self
    obtain ⟨v', hv, hs⟩ := W.lit hi (S := S) (hS k List.mem_cons_self) (Lits.refl _)
    exact ⟨v' :: l', .cons hv h1, .cons hs h2⟩
theorem newNs {hb h : Heap} {os : List Ow} (W : Own hb os h) : ∀ q : Nat, Own hb (os ++ (List.range q).map fun _ => .slc 1 .nilsl []) h
  | 0 => by simpa using W
  | q + 1 => by
    have := (newNs W q).newN 1
    rw [List.append_assoc] at this
    rw [List.range_succ, List.map_append]
    exact this
theorem range_filter_succ (p : Nat → Bool) (n : Nat) : (List.range (n + 1)).filter p = (List.range n).filter p ++ if p n then [n] else [] := by
  rw [List.range_succ, List.filter_append]
  congr 1
  rw [List.filter_cons]
  rfl
theorem mem_natI {l : List Nat} {x : Int} : x ∈ natI l ↔ ∃ c ∈ l, x = (c : Int) := by
  unfold natI
  rw [List.mem_map]
  exact ⟨fun ⟨c, h1, h2⟩ => ⟨c, h1, h2.symm⟩, fun ⟨c, h1, h2⟩ => ⟨c, h1, h2.symm⟩⟩
end Go.Proofs.YtljglglbfcgjpaaGreat

namespace Go.Proofs.YtljglglbfcgjpaaGreat
open Go Go.Sym Go.Proofs.Tryz
open Go.ChangeShapes Go.WideShapes Go.ChangeAt Go.RowKit
set_option linter.unusedVariables false
set_option maxRecDepth 4000
theorem ca42 : prog.cellsOf 42 = 1 := by kernel_rfl
theorem ca91 : prog.cellsOf 91 = 1 := by kernel_rfl
theorem ca22 : prog.cellsOf 22 = 1 := by kernel_rfl
theorem ca23 : prog.cellsOf 23 = 1 := by kernel_rfl
theorem ca25 : prog.cellsOf 25 = 2 := by kernel_rfl
theorem ag42 : aggT prog 42 = false := by kernel_rfl
theorem ag91 : aggT prog 91 = false := by kernel_rfl
theorem shV_ints {B n : Nat} {l : List AVal} (h : ShV prog B n 42 l) : ∃ v xs, l = [v] ∧ Ints v xs ∧ xs.length ≤ B := by
  obtain ⟨v, L, bs, rfl, h1, h2, h3, _⟩ := shV_slice (R := fun x b => x = .int .i64 b) (Q := fun _ => True) underlying42 (fun n x ha _ hx => by
    rw [cells_one (ha.trans ag3)] at hx
    obtain ⟨b, hb⟩ := shV_int hx
    exact ⟨b, hb, trivial⟩) h
  rw [ca3] at h1
  rw [all2_map h2] at h1
  exact ⟨v, bs, rfl, h1, h3⟩
theorem shV_strs {B n : Nat} {l : List AVal} (h : ShV prog B n 91 l) : ∃ v xs, l = [v] ∧ Strs v xs ∧ xs.length ≤ B ∧ ∀ s ∈ xs, s.size ≤ B := by
  obtain ⟨v, L, bs, rfl, h1, h2, h3, h4⟩ := shV_slice (R := fun x b => x = .str b) (Q := fun s => s.size ≤ B) underlying91 (fun n x ha _ hx => by
    rw [cells_one (ha.trans ag9)] at hx
    obtain ⟨b, hb, hs⟩ := shV_str hx
    exact ⟨b, hb, hs⟩) h
  rw [ca9] at h1
  rw [all2_map h2] at h1
  exact ⟨v, bs, rfl, h1, h3, h4⟩
theorem shV_intss {B n : Nat} {l : List AVal} (h : ShV prog B n 22 l) : ∃ v up, l = [v] ∧ Intss v up ∧ up.length ≤ B ∧ ∀ r ∈ up, r.length ≤ B := by
  obtain ⟨v, L, bs, rfl, h1, h2, h3, h4⟩ := shV_slice (R := Ints) (Q := fun r => r.length ≤ B) underlying22 (fun n x ha _ hx => by
    rw [cells_one (ha.trans ag42)] at hx
    obtain ⟨v, xs, e, h1, h2⟩ := shV_ints hx
    obtain rfl : x = v := by simpa using e
    exact ⟨xs, h1, h2⟩) h
  rw [ca42] at h1
  exact ⟨v, bs, rfl, ⟨L, h1, h2⟩, h3, h4⟩
theorem shV_strss {B n : Nat} {l : List AVal} (h : ShV prog B n 23 l) : ∃ v up, l = [v] ∧ Strss v up ∧ up.length ≤ B ∧ ∀ r ∈ up, r.length ≤ B ∧ ∀ s ∈ r, s.size ≤ B := by
  obtain ⟨v, L, bs, rfl, h1, h2, h3, h4⟩ := shV_slice (R := Strs) (Q := fun r => r.length ≤ B ∧ ∀ s ∈ r, s.size ≤ B) underlying23 (fun n x ha _ hx => by
    rw [cells_one (ha.trans ag91)] at hx
    obtain ⟨v, xs, e, h1, h2⟩ := shV_strs hx
    obtain rfl : x = v := by simpa using e
    exact ⟨xs, h1, h2⟩) h
  rw [ca91] at h1
  exact ⟨v, bs, rfl, ⟨L, h1, h2⟩, h3, h4⟩
theorem shV_model {B n : Nat} {l : List AVal} (hB : B ≤ 1048576) (h : ShV prog B n 25 l) : ∃ a b up val, l = [a, b] ∧ Intss a up ∧ Strss b val ∧ Small up val := by
  cases n with
  | zero => exact h.elim
  | succ n =>
    simp only [ShV, underlying25, ca25] at h
    obtain ⟨hl, hf⟩ := h
    have f1 := hf _ (List.mem_cons_self)
    have f2 := hf _ (List.mem_cons_of_mem _ List.mem_cons_self)
    simp only [ca22, ca23] at f1 f2
    match l, hl with
    | [a, b], _ =>
      obtain ⟨v, up, e1, h1, h2, h3⟩ := shV_intss f1
      obtain ⟨w, val, e2, h4, h5, h6⟩ := shV_strss f2
      obtain rfl : a = v := by simpa using e1
      obtain rfl : b = w := by simpa using e2
      exact ⟨a, b, up, val, rfl, h1, h4, Nat.le_trans h2 hB, Nat.le_trans h5 hB, fun r hr => Nat.le_trans (h3 r hr) hB, fun x hx => ⟨⟨by have := (h6 x hx).1; omega, fun s hs => by have := (h6 x hx).2 s hs; omega⟩, Nat.le_trans (h6 x hx).1 hB⟩⟩
theorem closed_ms : closedT prog [25, 22, 42, 3, 23, 91, 9] = true := by kernel_rfl
section
variable {H : Type} {enc : TypeId × Value → H} {W : World}
theorem arg_gotM {t : TypeId} {v : Value} {d : DataW H} {ps : List MemPlace} {B : Nat} (ht : t ∈ [25, 22, 42, 3, 23, 91, 9]) (h : DataW.Trod enc prog W 0 (fun _ => true) true t v d ps) (hb : Rows.uptoBulk d ≤ B) :
    ∃ n, Got prog W B n t v.cells.toList := by
  obtain ⟨n, hn⟩ := h
  exact ⟨n, trod_rel bulkOK closed_ms n t _ _ ht hn hb⟩
end
end Go.Proofs.YtljglglbfcgjpaaGreat

namespace Go.Proofs.YtljglglbfcgjpaaGreat
open Go Go.Sym Go.Proofs.Tryz
variable {K : AVal → Heap → Prop} {h h0 : Heap}
structure Nd where
  k : Int
  s : ByteArray
  l : Int
  r : Int
def nodeC (x : Nd) : List AVal := [.int .i64 x.k, .str x.s, .int .i64 x.l, .int .i64 x.r]
def nodeV (x : Nd) : AVal := .agg (nodeC x)
def Nodes (v : AVal) (xs : List Nd) : Prop := SlOf 4 v (xs.map nodeV)
def NdOK (i : Nat) (x : Nd) : Prop := x.k = 1 ∨ x.k = 2 ∨ ((x.k = 3 ∨ x.k = 4 ∨ x.k = 5) ∧ (0 ≤ x.l ∧ x.l < i) ∧ 0 ≤ x.r ∧ x.r < i)
structure TabOK (xs : List Nd) : Prop where
  len : xs.length ≤ 1024
  ok : ∀ i x, xs[i]? = some x → NdOK i x
theorem Nodes.len {v : AVal} {xs : List Nd} (h : Nodes v xs) (K : Int → Prop) : lenN v K = K xs.length := by rw [lenN_of h]; simp
theorem Nodes.ix {v : AVal} {xs : List Nd} (h : Nodes v xs) {i : Nat} (hi : i < xs.length) (K : AVal → Prop) : ixS 4 v (i : Int) K = K (.lptr (nodeC xs[i])) := by
  rw [ixS_nat h (i := i) (e := nodeV xs[i]) (by simp [hi])]
  rfl
theorem ldN_node (h : Heap) (x : Nd) (K : List AVal → Prop) : ldN 4 h (.lptr (nodeC x)) K = K (nodeC x) := ldN_lptr 4 h _ K (by simp [nodeC])
theorem nilCheck_ptr (r i o : Nat) (K : AVal → Prop) : nilCheckA (.ptr r i o) K = K (.ptr r i o) := rfl
theorem nilCheck_lptr (l : List AVal) (K : AVal → Prop) : nilCheckA (.lptr l) K = K (.lptr l) := rfl
theorem ldN_elem {h : Heap} {r i n es : Nat} {elems cs : List AVal} (hr : h r = some (.row es elems)) (he : elems[i]? = some (.agg cs)) (hn : n = cs.length) (K : List AVal → Prop) : ldN n h (.ptr r i 0) K = K cs := by
  subst hn
  unfold ldN ldCells
  simp only [hr, he, cellsOf_agg, List.drop_zero, List.take_length]
  rw [Nat.ble_eq_true_of_le (Nat.le_refl _)]
  rfl
theorem eqNode (x y : Nd) : eqT prog 8 71 (nodeV x) (nodeV y) = some ((x.k == y.k) && (strEq x.s y.s && ((x.l == y.l) && ((x.r == y.r) && true)))) := by kernel_rfl
theorem eqNodeG : prog.eqGuardType prog.depth 71 = false := by kernel_rfl
theorem eqNodeQ (x y : Nd) {K : Bool → Prop} (hk : ∀ b, K b) : eqQ prog 71 (nodeV x) (nodeV y) K := by
  refine ⟨eqNodeG, ?_⟩
  rw [eqNode]
  exact hk _
theorem nilPp (r i o : Nat) (X : Bool → Prop) : nilP (.ptr r i o) X = X false := rfl
theorem nilPn (X : Bool → Prop) : nilP .nilptr X = X true := rfl
theorem nilMr (r : Nat) (X : Bool → Prop) : nilM (.mapr r) X = X false := rfl
theorem nilSn (X : Bool → Prop) : nilS .nilsl X = X true := rfl
theorem nilSs (r es o n : Nat) (X : Bool → Prop) : nilS (.sl r es o n) X = X false := rfl
theorem nilSl (es : Nat) (l : List AVal) (X : Bool → Prop) : nilS (.lsl es l) X = X false := rfl
def ndB (x y : Nd) : Bool := (x.k == y.k) && (strEq x.s y.s && ((x.l == y.l) && ((x.r == y.r) && true)))
theorem ndB_iff {x y : Nd} : ndB x y = true ↔ x = y := by
  unfold ndB
  rw [strEq_dec]
  obtain ⟨a, b, c, d⟩ := x
  obtain ⟨a', b', c', d'⟩ := y
  simp
theorem ndB_self (x : Nd) : ndB x x = true := ndB_iff.2 rfl
theorem eqNodeX {x y : Nd} {K : Bool → Prop} (hk : K (ndB x y)) : eqQ prog 71 (nodeV x) (nodeV y) K := by
  refine ⟨eqNodeG, ?_⟩
  rw [eqNode]
  exact hk
def ndIx (y : Nd) (xs : List Nd) : Option Nat := xs.findIdx? fun x => ndB x y
theorem ndIx_some {y : Nd} {xs : List Nd} {i : Nat} (h : ndIx y xs = some i) : xs[i]? = some y := by
  unfold ndIx at h
  obtain ⟨h1, h2, _⟩ := List.findIdx?_eq_some_iff_getElem.1 h
  rw [List.getElem?_eq_getElem h1]
  exact congrArg some (ndB_iff.1 h2)
def RdN (h : Heap) (v : AVal) (xs : List Nd) : Prop := (v = .nilsl ∧ xs = []) ∨ (∃ (r : Nat) (L : List AVal), v = .sl r 4 0 xs.length ∧ h r = some (.row 4 L) ∧ ∀ (i : Nat) (x : Nd), xs[i]? = some x → L[i]? = some (nodeV x)) ∨ Nodes v xs
theorem RdN.len {v : AVal} {xs : List Nd} (R : RdN h v xs) (K : Int → Prop) : lenN v K = K xs.length := by
  rcases R with ⟨rfl, rfl⟩ | ⟨r, L, rfl, _, _⟩ | R
  · rfl
  · rfl
  · exact R.len K
theorem RdN.ext {h h' : Heap} {v : AVal} {xs : List Nd} (R : RdN h v xs) (e : ∀ q o, h q = some o → h' q = some o) : RdN h' v xs := by
  rcases R with R | ⟨r, L, e1, e2, e3⟩ | R
  · exact .inl R
  · exact .inr (.inl ⟨r, L, e1, e _ _ e2, e3⟩)
  · exact .inr (.inr R)
theorem RdN.ix {v : AVal} {xs : List Nd} (R : RdN h v xs) {i : Nat} {x : Nd} (hi : xs[i]? = some x) {K : List AVal → Prop} (hk : K (nodeC x)) : ixS 4 v (i : Int) fun p => ldN 4 h p K := by
  have hlt := (List.getElem?_eq_some_iff.1 hi).1
  rcases R with ⟨rfl, rfl⟩ | ⟨r, L, rfl, hr, hL⟩ | R
  · simp at hlt
  · refine ixS_sl0 hlt ?_
    rw [ldN_elem (n := 4) hr (hL i x hi) rfl]
    exact hk
  · rw [R.ix hlt, ldN_node, (List.getElem?_eq_some_iff.1 hi).2]
    exact hk
theorem RdN.fld {v : AVal} {xs : List Nd} (R : RdN h v xs) {i o : Nat} {x : Nd} {c : AVal} (hi : xs[i]? = some x) (ho : (nodeC x)[o]? = some c) {K : AVal → Prop} (hk : K c) : ixS 4 v (i : Int) fun p => addOff p o fun p => ld1 h p K := by
  have hlt := (List.getElem?_eq_some_iff.1 hi).1
  have hol := (List.getElem?_eq_some_iff.1 ho).1
  rcases R with ⟨rfl, rfl⟩ | ⟨r, L, rfl, hr, hL⟩ | R
  · simp at hlt
  · refine ixS_sl0 hlt ?_
    rw [addOff_ptr]
    unfold ld1 ldCells
    simp only [hr, hL i x hi, nodeV, cellsOf_agg, Nat.zero_add]
    rw [List.drop_eq_getElem_cons hol]
    simp only
    rw [(List.getElem?_eq_some_iff.1 ho).2]
    exact hk
  · rw [R.ix hlt, (List.getElem?_eq_some_iff.1 hi).2, addOff_lptr, List.drop_eq_getElem_cons hol, (List.getElem?_eq_some_iff.1 ho).2, ld1_lptr]
    exact hk
def PRd (h : Heap) (t : AVal) (xs : List Nd) : Prop := ∃ rt vN q es, t = .ptr rt 0 0 ∧ h rt = some (.row 2 [.agg [vN, .mapr q]]) ∧ h q = some (.map es) ∧ RdN h vN xs
def DRd (h : Heap) (t : AVal) (xs : List Nd) : Prop := ∃ rt vN, t = .ptr rt 0 0 ∧ h rt = some (.row 1 [.agg [vN]]) ∧ RdN h vN xs
theorem PRd.ext {h h' : Heap} {t : AVal} {xs : List Nd} (R : PRd h t xs) (e : ∀ q o, h q = some o → h' q = some o) : PRd h' t xs := by
  obtain ⟨rt, vN, q, es, h1, h2, h3, h4⟩ := R
  exact ⟨rt, vN, q, es, h1, e _ _ h2, e _ _ h3, h4.ext e⟩
theorem DRd.ext {h h' : Heap} {t : AVal} {xs : List Nd} (R : DRd h t xs) (e : ∀ q o, h q = some o → h' q = some o) : DRd h' t xs := by
  obtain ⟨rt, vN, h1, h2, h3⟩ := R
  exact ⟨rt, vN, h1, e _ _ h2, h3.ext e⟩
theorem PRd.ld {t : AVal} {xs : List Nd} (R : PRd h t xs) : ∃ vN, RdN h vN xs ∧ ∀ K : AVal → Prop, (nilCheckA t fun p => addOff p 0 fun p => ld1 h p K) = K vN := by
  obtain ⟨rt, vN, q, es, rfl, h2, h3, h4⟩ := R
  exact ⟨vN, h4, fun K => by rw [nilCheck_ptr, addOff_ptr, ld1_fld h2 rfl]⟩
theorem DRd.ld {t : AVal} {xs : List Nd} (R : DRd h t xs) : ∃ vN, RdN h vN xs ∧ ∀ K : AVal → Prop, (nilCheckA t fun p => addOff p 0 fun p => ld1 h p K) = K vN := by
  obtain ⟨rt, vN, rfl, h2, h3⟩ := R
  exact ⟨vN, h3, fun K => by rw [nilCheck_ptr, addOff_ptr, ld1_fld h2 rfl]⟩
end Go.Proofs.YtljglglbfcgjpaaGreat

namespace Go.Proofs.YtljglglbfcgjpaaGreat
open Go Go.Sym Go.Proofs.Tryz
open Go.ChangeShapes Go.WideShapes Go.ChangeAt Go.RowKit
set_option linter.unusedVariables false
set_option maxRecDepth 4000
theorem ca69 : prog.cellsOf 69 = 1 := by kernel_rfl
theorem ca71 : prog.cellsOf 71 = 4 := by kernel_rfl
theorem ag71 : aggT prog 71 = true := by kernel_rfl
theorem closed_nodes : closedT prog [55, 71, 69, 9, 3] = true := by kernel_rfl
theorem shV_int69 {B n : Nat} {x : AVal} (h : ShV prog B n 69 [x]) : ∃ b, x = .int .i64 b := by
  cases n with
  | zero => exact h.elim
  | succ n =>
    simp only [ShV, underlying69] at h
    obtain ⟨b, e, _⟩ := h
    exact ⟨b, by simpa using e⟩
theorem shV_node {B n : Nat} {l : List AVal} (h : ShV prog B n 71 l) : ∃ x : Nd, l = nodeC x ∧ x.s.size ≤ B := by
  cases n with
  | zero => exact h.elim
  | succ n =>
    simp only [ShV, underlying71, ca71] at h
    obtain ⟨hl, hf⟩ := h
    have f1 := hf _ (List.mem_cons_self)
    have f2 := hf _ (List.mem_cons_of_mem _ List.mem_cons_self)
    have f3 := hf _ (List.mem_cons_of_mem _ (List.mem_cons_of_mem _ List.mem_cons_self))
    have f4 := hf _ (List.mem_cons_of_mem _ (List.mem_cons_of_mem _ (List.mem_cons_of_mem _ List.mem_cons_self)))
    simp only [ca69, ca9, ca3] at f1 f2 f3 f4
    match l, hl with
    | [a, b, c, d], _ =>
      obtain ⟨k, rfl⟩ := shV_int69 f1
      obtain ⟨s, rfl, hs⟩ := shV_str f2
      obtain ⟨l, rfl⟩ := shV_int f3
      obtain ⟨r, rfl⟩ := shV_int f4
      exact ⟨⟨k, s, l, r⟩, rfl, hs⟩
theorem shV_nodes {B n : Nat} {l : List AVal} (h : ShV prog B n 55 l) : ∃ v xs, l = [v] ∧ Nodes v xs ∧ xs.length ≤ B ∧ ∀ x ∈ xs, x.s.size ≤ B := by
  obtain ⟨v, L, bs, rfl, h1, h2, h3, h4⟩ := shV_slice (R := fun x b => x = nodeV b) (Q := fun b => b.s.size ≤ B) underlying55 (fun n x ha _ hx => by
    rw [ag71] at ha
    match x, ha, hx with
    | .agg cs, _, hx =>
    obtain ⟨x, e, hs⟩ := shV_node hx
    obtain rfl : cs = nodeC x := e
    exact ⟨x, rfl, hs⟩) h
  rw [ca71] at h1
  rw [all2_map h2] at h1
  exact ⟨v, bs, rfl, h1, h3, h4⟩
section
variable {H : Type} {enc : TypeId × Value → H} {W : World}
theorem arg_gotN {t : TypeId} {v : Value} {d : DataW H} {ps : List MemPlace} {B : Nat} (ht : t ∈ [55, 71, 69, 9, 3]) (h : DataW.Trod enc prog W 0 (fun _ => true) true t v d ps) (hb : Rows.uptoBulk d ≤ B) : ∃ n, Got prog W B n t v.cells.toList := by
  obtain ⟨n, hn⟩ := h
  exact ⟨n, trod_rel bulkOK closed_nodes n t _ _ ht hn hb⟩
end
end Go.Proofs.YtljglglbfcgjpaaGreat

namespace Go.Proofs.YtljglglbfcgjpaaGreat
open Go Go.Sym Go.Proofs.Tryz
variable {K : AVal → Heap → Prop} {h : Heap}
def fine1 (l : List ByteArray) (i : Nat) : Bool := wordB (l.getD i ByteArray.empty) && (i == 0 || strLt (l.getD (i - 1) ByteArray.empty) (l.getD i ByteArray.empty))
def fineB (l : List ByteArray) : Bool := (List.range' 0 l.length).all (fine1 l)
def inS (l : List ByteArray) (s : ByteArray) : Bool := l.any fun x => decide (x = s)
theorem inS_iff {l : List ByteArray} {s : ByteArray} : inS l s = true ↔ s ∈ l := by
  unfold inS
  rw [List.any_eq_true]
  constructor
  · rintro ⟨x, hx, he⟩; rwa [← of_decide_eq_true he]
  · exact fun hx => ⟨s, hx, decide_eq_true rfl⟩
theorem idxS_loop {v : AVal} {l : List ByteArray} {s : ByteArray} (hv : Strs v l) (hm : l.length ≤ 1073741824) (hk : ∀ n : Int, (0 ≤ n ↔ s ∈ l) → K (.int .i64 n) h) : ∀ d i : Nat, i + d = l.length → s ∉ l.take i →
    s122l1 K (d + 1) v s (l.length : Int) (i : Int) h
  | 0, i, hd, hn => by
    unfold s122l1
    refine ifT_neg (by simp; omega) (retG_of (hk _ ?_))
    rw [List.take_of_length_le (by omega)] at hn
    simp [hn]
  | d + 1, i, hd, hn => by
    have hi : i < l.length := by omega
    unfold s122l1
    refine ifT_pos (by simp; omega) ?_
    rw [hv.ix hi, ld1_lptr, tStr_str, strEq_dec]
    by_cases he : s = l[i]
    · exact ifT_pos (by simpa using he) (retG_of (hk _ ⟨fun _ => he ▸ List.getElem_mem hi, fun _ => by omega⟩))
    · refine ifT_neg (by simpa using he) (rg_of (by omega) (by omega) (s122l1_go (idxS_loop hv hm hk d (i + 1) (by omega) ?_)))
      rw [List.take_succ_eq_append_getElem hi]
      intro hx
      rcases List.mem_append.1 hx with hx | hx
      · exact hn hx
      · exact he (List.mem_singleton.1 hx)
theorem containsS_ok {v : AVal} {l : List ByteArray} {s : ByteArray} (hv : Strs v l) (hm : l.length ≤ 1073741824) (hk : K (.bool (inS l s)) h) : ACalls prog 99 [v, .str s] h K := by
  refine s99_ok (callG_of (s122_ok ?_))
  unfold s122
  rw [hv.len]
  refine s122l1_in (l.length + 1) (idxS_loop hv hm (fun n hn => ?_) l.length 0 (by omega) (by simp))
  rw [tInt_int]
  refine retG_of ?_
  rwa [show decide (0 ≤ n) = inS l s by rw [Bool.eq_iff_iff, inS_iff]; simpa using hn]
theorem idxFS_loop {v f : AVal} {l : List ByteArray} {p : ByteArray → Bool} (hv : Strs v l) (hm : l.length ≤ 1073741824)
    (hf : ∀ s ∈ l, ∀ K : AVal → Heap → Prop, K (.bool (p s)) h → callV prog f [.str s] h K) (hk : ∀ n : Int, (0 ≤ n ↔ ∃ s ∈ l, p s = true) → K (.int .i64 n) h) : ∀ d i : Nat, i + d = l.length → (∀ s ∈ l.take i, p s = false) →
    s158l1 K (d + 1) v f (l.length : Int) (i : Int) h
  | 0, i, hd, hn => by
    unfold s158l1
    refine ifT_neg (by simp; omega) (retG_of (hk _ ?_))
    rw [List.take_of_length_le (by omega)] at hn
    constructor
    · intro h0; omega
    · rintro ⟨s, hs, hp⟩; rw [hn s hs] at hp; cases hp
  | d + 1, i, hd, hn => by
    have hi : i < l.length := by omega
    unfold s158l1
    refine ifT_pos (by simp; omega) ?_
    rw [hv.ix hi, ld1_lptr, tStr_str]
    refine hf _ (List.getElem_mem hi) _ ?_
    rw [tBool_bool]
    cases he : p l[i] with
    | true => exact ifT_pos rfl (retG_of (hk _ ⟨fun _ => ⟨_, List.getElem_mem hi, he⟩, fun _ => by omega⟩))
    | false =>
      refine ifT_neg rfl (rg_of (by omega) (by omega) (s158l1_go (idxFS_loop hv hm hf hk d (i + 1) (by omega) ?_)))
      rw [List.take_succ_eq_append_getElem hi]
      intro s hs
      rcases List.mem_append.1 hs with hs | hs
      · exact hn s hs
      · simp at hs; rw [hs, he]
theorem containsFS_ok {v f : AVal} {l : List ByteArray} {p : ByteArray → Bool} (hv : Strs v l) (hm : l.length ≤ 1073741824)
    (hf : ∀ s ∈ l, ∀ K : AVal → Heap → Prop, K (.bool (p s)) h → callV prog f [.str s] h K) (hk : K (.bool (l.any p)) h) : ACalls prog 141 [v, f] h K := by
  refine s141_ok (callG_of (s158_ok ?_))
  unfold s158
  rw [hv.len]
  refine s158l1_in (l.length + 1) (idxFS_loop hv hm hf (fun n hn => ?_) l.length 0 (by omega) (by simp))
  rw [tInt_int]
  refine retG_of ?_
  rwa [show decide (0 ≤ n) = l.any p by rw [Bool.eq_iff_iff]; simpa using hn]
theorem idxFI_loop {v f : AVal} {l : List Int} {p : Int → Bool} (hv : Ints v l) (hm : l.length ≤ 1073741824)
    (hf : ∀ s ∈ l, ∀ K : AVal → Heap → Prop, K (.bool (p s)) h → callV prog f [.int .i64 s] h K) (hk : ∀ n : Int, (0 ≤ n ↔ ∃ s ∈ l, p s = true) → K (.int .i64 n) h) : ∀ d i : Nat, i + d = l.length → (∀ s ∈ l.take i, p s = false) →
    s117l1 K (d + 1) v f (l.length : Int) (i : Int) h
  | 0, i, hd, hn => by
    unfold s117l1
    refine ifT_neg (by simp; omega) (retG_of (hk _ ?_))
    rw [List.take_of_length_le (by omega)] at hn
    constructor
    · intro h0; omega
    · rintro ⟨s, hs, hp⟩; rw [hn s hs] at hp; cases hp
  | d + 1, i, hd, hn => by
    have hi : i < l.length := by omega
    unfold s117l1
    refine ifT_pos (by simp; omega) ?_
    rw [hv.ix hi, ld1_lptr, tInt_int]
    refine hf _ (List.getElem_mem hi) _ ?_
    rw [tBool_bool]
    cases he : p l[i] with
    | true => exact ifT_pos rfl (retG_of (hk _ ⟨fun _ => ⟨_, List.getElem_mem hi, he⟩, fun _ => by omega⟩))
    | false =>
      refine ifT_neg rfl (rg_of (by omega) (by omega) (s117l1_go (idxFI_loop hv hm hf hk d (i + 1) (by omega) ?_)))
      rw [List.take_succ_eq_append_getElem hi]
      intro s hs
      rcases List.mem_append.1 hs with hs | hs
      · exact hn s hs
      · simp at hs; rw [hs, he]
theorem containsFI_ok {v f : AVal} {l : List Int} {p : Int → Bool} (hv : Ints v l) (hm : l.length ≤ 1073741824)
    (hf : ∀ s ∈ l, ∀ K : AVal → Heap → Prop, K (.bool (p s)) h → callV prog f [.int .i64 s] h K) (hk : K (.bool (l.any p)) h) : ACalls prog 83 [v, f] h K := by
  refine s83_ok (callG_of (s117_ok ?_))
  unfold s117
  rw [hv.len]
  refine s117l1_in (l.length + 1) (idxFI_loop hv hm hf (fun n hn => ?_) l.length 0 (by omega) (by simp))
  rw [tInt_int]
  refine retG_of ?_
  rwa [show decide (0 ≤ n) = l.any p by rw [Bool.eq_iff_iff]; simpa using hn]
theorem getD_of {l : List ByteArray} {i : Nat} (hi : i < l.length) : l.getD i ByteArray.empty = l[i] := by simp [List.getD, hi]
theorem rising_loop {v : AVal} {l : List ByteArray} (hv : Strs v l) (hm : SB l) : ∀ d i : Nat, i + d = l.length → K (.bool ((List.range' i d).all (fine1 l))) h → s140l1 K (d + 1) v v (l.length : Int) (i : Int) h
  | 0, i, hd, hk => by
    unfold s140l1
    exact ifT_neg (by simp; omega) (retG_of (by simpa using hk))
  | d + 1, i, hd, hk => by
    have hi : i < l.length := by omega
    have hl := hm.1
    unfold s140l1
    refine ifT_pos (by simp; omega) ?_
    rw [hv.ix hi, ld1_lptr, tStr_str]
    refine callG_of (word_ok _ (hm.2 _ (List.getElem_mem hi)) ?_)
    rw [tBool_bool]
    rw [List.range'_succ, List.all_cons] at hk
    have rest : fine1 l i = true → s140c2 K (s140l1_G (s140l1 K (d + 1))) v v l.length i false h := by
      intro hg
      rw [hg] at hk
      exact ifT_neg rfl (rg_of (by omega) (by omega) (s140l1_go (rising_loop hv hm d (i + 1) (by omega) (by simpa using hk))))
    have stop : fine1 l i = false → s140c2 K (s140l1_G (s140l1 K (d + 1))) v v l.length i true h := by
      intro hg
      rw [hg] at hk
      exact ifT_pos rfl (retG_of (by simpa using hk))
    unfold fine1 at rest stop
    rw [getD_of hi] at rest stop
    cases hw : wordB l[i] with
    | false => exact ifT_pos rfl (stop (by rw [hw]; rfl))
    | true =>
      rw [hw, Bool.true_and] at rest stop
      refine ifT_neg rfl ?_
      by_cases h0 : 0 < i
      · refine ifT_pos (by simp; omega) (rg_of (by omega) (by omega) ?_)
        have hi1 : i - 1 < l.length := by omega
        rw [show (i : Int) - 1 = ((i - 1 : Nat) : Int) by omega, hv.ix hi1, ld1_lptr, tStr_str]
        rw [getD_of hi1, show (i == 0) = false by simp; omega, Bool.false_or] at rest stop
        cases hs : strLt l[i - 1] l[i] with
        | true => exact rest hs
        | false => exact stop hs
      · obtain rfl : i = 0 := by omega
        exact ifT_neg (by simp) (rest (by simp))
theorem rising_ok {v : AVal} {l : List ByteArray} (hv : Strs v l) (hm : SB l) (hk : K (.bool (fineB l)) h) : ACalls prog 140 [v] h K := by
  refine s140_ok ?_
  unfold s140
  rw [hv.len]
  exact s140l1_in (l.length + 1) (rising_loop hv hm l.length 0 (by omega) hk)
end Go.Proofs.YtljglglbfcgjpaaGreat

namespace Go.Proofs.YtljglglbfcgjpaaGreat
open Go Go.Sym Go.Proofs.Tryz
variable {K : AVal → Heap → Prop}
def Step (up : List (List Int)) (a b : Nat) : Prop := ∃ r, up[a]? = some r ∧ (b : Int) ∈ r
inductive Reach (up : List (List Int)) (a : Nat) : Nat → Prop
  | refl : Reach up a a
  | tail {b c : Nat} (h : Reach up a b) (hs : Step up b c) : Reach up a c
theorem Reach.trans {up : List (List Int)} {a b c : Nat} (h : Reach up a b) (h' : Reach up b c) : Reach up a c := by
  induction h' with
  | refl => exact h
  | tail _ hs ih => exact .tail ih hs
def InR (up : List (List Int)) : Prop := ∀ r ∈ up, ∀ b ∈ r, 0 ≤ b ∧ b < up.length
theorem Reach.lt {up : List (List Int)} (hi : InR up) {a b : Nat} (h : Reach up a b) (ha : a < up.length) : b < up.length := by
  cases h with
  | refl => exact ha
  | tail _ hs =>
    obtain ⟨r, hr, hb⟩ := hs
    have := hi r (List.mem_of_getElem? hr) _ hb
    omega
open Classical in
noncomputable def rb (up : List (List Int)) (a b : Nat) : Bool := decide (Reach up a b)
theorem rb_iff {up : List (List Int)} {a b : Nat} : rb up a b = true ↔ Reach up a b := by unfold rb; simp
noncomputable def rowB (up : List (List Int)) (a : Nat) : List Bool := (List.range up.length).map (rb up a)
def OTab (v : AVal) (up : List (List Int)) : Prop := ∃ rows, SlOf 1 v rows ∧ rows.length = up.length ∧ ∀ a, a < up.length → ∃ e, rows[a]? = some e ∧ e.isAgg = false ∧ SlOf 1 e ((rowB up a).map .bool)
theorem OTab.len {v : AVal} {up : List (List Int)} (h : OTab v up) (K : Int → Prop) : lenN v K = K up.length := by
  obtain ⟨rows, h1, h2, _⟩ := h
  rw [lenN_of h1, h2]
theorem cells_of_notAgg {e : AVal} (h : e.isAgg = false) : cellsOf e = [e] := by cases e <;> first | rfl | cases h
theorem OTab.row {v : AVal} {up : List (List Int)} (h : OTab v up) {a : Nat} (ha : a < up.length) {h' : Heap} : ∃ e, (∀ K : AVal → Prop, (ixS 1 v (a : Int) fun p => ld1 h' p K) = K e) ∧
    (∀ K : Int → Prop, lenN e K = K up.length) ∧ ∀ b, b < up.length → ∀ K : AVal → Prop, (ixS 1 e (b : Int) fun p => ld1 h' p K) = K (.bool (rb up a b)) := by
  obtain ⟨rows, h1, h2, h3⟩ := h
  obtain ⟨e, he, hn, hr⟩ := h3 a ha
  refine ⟨e, fun K => ?_, fun K => ?_, fun b hb K => ?_⟩
  · rw [ixS_nat h1 he, cells_of_notAgg hn, ld1_lptr]
  · rw [lenN_of hr]; simp [rowB]
  · rw [ixS_nat hr (e := .bool (rb up a b)) (by simp [rowB, hb])]; rfl
/- ---------------- a search for all that is above ---------------- -/
structure BF (up : List (List Int)) (a : Nat) (marks : List Bool) (W : List Nat) : Prop where
  len : marks.length = up.length
  cnt : W.length + marks.count false = up.length
  reach : ∀ x ∈ W, x < up.length ∧ Reach up a x
  mkd : ∀ x, marks[x]? = some true ↔ x ∈ W
theorem BF.add {up : List (List Int)} {a b : Nat} {marks : List Bool} {W : List Nat} (B : BF up a marks W) (hb : marks[b]? = some false) (hr : Reach up a b) : BF up a (marks.set b true) (W ++ [b]) := by
  have hlt : b < marks.length := (List.getElem?_eq_some_iff.1 hb).1
  have hget : marks[b] = false := (List.getElem?_eq_some_iff.1 hb).2
  have hpos : 0 < marks.count false := List.count_pos_iff.2 (hget ▸ List.getElem_mem hlt)
  refine ⟨by simp [B.len], ?_, fun x hx => ?_, fun x => ?_⟩
  · have := List.count_set (a := true) (b := false) hlt
    rw [hget] at this
    simp only [List.length_append, List.length_singleton]
    have h2 := B.cnt
    rw [this]
    simp
    omega
  · rcases List.mem_append.1 hx with hx | hx
    · exact B.reach x hx
    · rw [List.mem_singleton.1 hx]; exact ⟨by rw [← B.len]; exact hlt, hr⟩
  · rw [List.getElem?_set]
    by_cases e : b = x
    · subst e; simp [hlt]
    · simp [e, B.mkd x, Ne.symm e]
theorem BF.start {up : List (List Int)} {a : Nat} (ha : a < up.length) : BF up a ((List.replicate up.length false).set a true) [a] := by
  have hr : (List.replicate up.length false)[a]? = some false := by simp [ha]
  have hlt : a < (List.replicate up.length false).length := by simpa using ha
  refine ⟨by simp, ?_, fun x hx => ?_, fun x => ?_⟩
  · rw [List.count_set hlt]; simp; omega
  · rw [List.mem_singleton.1 hx]; exact ⟨ha, .refl⟩
  · rw [List.getElem?_set]
    by_cases e : a = x
    · subst e; simp [ha]
    · simp only [if_neg e, List.mem_singleton]
      constructor
      · intro h; simp [List.getElem?_replicate] at h
      · intro h; exact absurd h.symm e
theorem BF.done {up : List (List Int)} {a : Nat} {marks : List Bool} {W : List Nat} (B : BF up a marks W) (ha : a ∈ W) (hcl : ∀ x ∈ W, ∀ c, Step up x c → marks[c]? = some true) : marks = rowB up a := by
  have hall : ∀ c, Reach up a c → c ∈ W := by
    intro c hc
    induction hc with
    | refl => exact ha
    | tail _ hs ih => exact (B.mkd _).1 (hcl _ ih _ hs)
  apply List.ext_getElem?
  intro b
  unfold rowB
  rw [List.getElem?_map]
  by_cases hb : b < up.length
  · rw [List.getElem?_range hb, Option.map_some]
    have hlt : b < marks.length := by rw [B.len]; exact hb
    rw [List.getElem?_eq_getElem hlt]
    congr 1
    have h1 := B.mkd b
    rw [List.getElem?_eq_getElem hlt] at h1
    rw [Bool.eq_iff_iff, rb_iff]
    constructor
    · intro e; exact (B.reach b (h1.1 (by rw [e]))).2
    · intro hr; simpa using h1.2 (hall b hr)
  · rw [List.getElem?_eq_none (by have := B.len; omega), List.getElem?_eq_none (by simpa using hb)]; rfl
def natV (W : List Nat) : List AVal := W.map fun (x : Nat) => .int .i64 (x : Int)
structure OM (h0 : Heap) (ro ra a n : Nat) (R : List AVal) (marks : List Bool) (hb : Heap) : Prop where
  ho : h0 ro = none
  ha : h0 ra = none
  ne : ra ≠ ro
  hb : hb = (h0.set ro (.row 1 R)).set ra (.row 1 (marks.map .bool))
  at_ : R[a]? = some (.sl ra 1 0 n)
  len : R.length = n
theorem OM.get_o {h0 hb : Heap} {ro ra a n : Nat} {R : List AVal} {marks : List Bool} (M : OM h0 ro ra a n R marks hb) : hb ro = some (.row 1 R) := by
  rw [M.hb, Heap.set_ne _ _ M.ne.symm, Heap.set_same]
theorem OM.get_a {h0 hb : Heap} {ro ra a n : Nat} {R : List AVal} {marks : List Bool} (M : OM h0 ro ra a n R marks hb) : hb ra = some (.row 1 (marks.map .bool)) := by
  rw [M.hb, Heap.set_same]
theorem OM.old {h0 hb : Heap} {ro ra a n : Nat} {R : List AVal} {marks : List Bool} (M : OM h0 ro ra a n R marks hb) {q : Nat} {o : AObj} (hq : h0 q = some o) : hb q = some o := by
  rw [M.hb, Heap.set_ne _ _ (fun e => by subst e; rw [M.ha] at hq; cases hq), Heap.set_ne _ _ (fun e => by subst e; rw [M.ho] at hq; cases hq)]
  exact hq
theorem OM.put {h0 hb : Heap} {ro ra a n : Nat} {R : List AVal} {marks marks' : List Bool} (M : OM h0 ro ra a n R marks hb) : OM h0 ro ra a n R marks' (hb.set ra (.row 1 (marks'.map .bool))) :=
  ⟨M.ho, M.ha, M.ne, by rw [M.hb, Heap.set_set], M.at_, M.len⟩
theorem natV_len (W : List Nat) : (natV W).length = W.length := by simp [natV]
theorem natV_get {W : List Nat} {i x : Nat} (h : W[i]? = some x) : (natV W)[i]? = some (.int .i64 (x : Int)) := by simp [natV, h]
theorem natV_app (W : List Nat) (b : Nat) : natV (W ++ [b]) = natV W ++ [.int .i64 (b : Int)] := by simp [natV]
structure TU (up : List (List Int)) (a : Nat) (R : List AVal) : Prop where
  len : R.length = up.length
  done : ∀ a', a' < a → ∃ e, R[a']? = some e ∧ e.isAgg = false ∧ SlOf 1 e ((rowB up a').map .bool)
  rest : ∀ a', a' < up.length → ∃ e, R[a']? = some e ∧ e.isAgg = false
end Go.Proofs.YtljglglbfcgjpaaGreat

namespace Go.Proofs.YtljglglbfcgjpaaGreat
open Go Go.Sym Go.Proofs.Tryz
variable {K : AVal → Heap → Prop} {h : Heap} {up : List (List Int)} {val : List (List ByteArray)} {mU mV : AVal}
def Cond (up : List (List Int)) (val : List (List ByteArray)) (a b : Nat) : Prop := Reach up a b → a ≠ b → ¬ Reach up b a ∧ ∀ s ∈ val.getD a [], s ∈ val.getD b []
structure WF (up : List (List Int)) (val : List (List ByteArray)) : Prop where
  pos : 1 ≤ up.length
  max : up.length ≤ 512
  len : val.length = up.length
  inR : InR up
  fine : ∀ l ∈ val, fineB l = true
  cond : ∀ a b, a < up.length → b < up.length → Cond up val a b
theorem getD_val {a : Nat} (ha : a < val.length) : val.getD a [] = val[a] := by simp [List.getD, ha]
end Go.Proofs.YtljglglbfcgjpaaGreat

namespace Go.Proofs.YtljglglbfcgjpaaGreat
open Go Go.Sym Go.Proofs.Tryz
theorem strLt_lt (a b : ByteArray) : strLt a b = decide (a.toList < b.toList) := bytesLess_eq _ _
theorem strLt_irr (a : ByteArray) : strLt a a = false := by
  rw [strLt_lt]
  exact decide_eq_false (List.lt_irrefl _)
theorem strLt_tr {a b c : ByteArray} (h1 : strLt a b = true) (h2 : strLt b c = true) : strLt a c = true := by
  rw [strLt_lt, decide_eq_true_eq] at *
  exact List.lt_trans h1 h2
theorem fine_pair {l : List ByteArray} (h : fineB l = true) : l.Pairwise fun a b => strLt a b = true := by
  have step : ∀ i (hi : i + 1 < l.length), strLt l[i] l[i + 1] = true := fun i hi => by
    unfold fineB at h
    rw [List.all_eq_true] at h
    have := h (i + 1) (by rw [List.mem_range']; exact ⟨i + 1, by omega, by omega⟩)
    unfold fine1 at this
    simp only [Bool.and_eq_true, Bool.or_eq_true] at this
    rcases this.2 with e | e
    · simp at e
    · simpa [List.getD, hi, show i < l.length by omega] using e
  rw [List.pairwise_iff_getElem]
  intro i j hi hj hij
  obtain ⟨d, rfl⟩ : ∃ d, j = i + 1 + d := ⟨j - i - 1, by omega⟩
  clear hij
  induction d with
  | zero => exact step i hj
  | succ d ih => exact strLt_tr (ih (by omega)) (step (i + 1 + d) hj)
theorem fine_nodup {l : List ByteArray} (h : fineB l = true) : l.Nodup :=
  (fine_pair h).imp fun {a b} e e2 => by subst e2; rw [strLt_irr] at e; cases e
theorem inc_len : ∀ {l : List Nat} {a n : Nat}, l.Pairwise (· < ·) → (∀ x ∈ l, a ≤ x ∧ x < n) → l.length ≤ n - a
  | [], _, _, _, _ => by simp
  | x :: l, a, n, hp, hb => by
    rw [List.pairwise_cons] at hp
    have h1 := hb x (List.mem_cons_self ..)
    have := inc_len (a := x + 1) (n := n) hp.2 fun y hy => ⟨hp.1 y hy, (hb y (List.mem_cons_of_mem _ hy)).2⟩
    simp only [List.length_cons]
    omega
end Go.Proofs.YtljglglbfcgjpaaGreat

namespace Go.Proofs.YtljglglbfcgjpaaGreat
open Go Go.Sym Go.Proofs.Tryz
variable {K : AVal → Heap → Prop} {h : Heap}
def Ext (h h' : Heap) : Prop := ∀ q o, h q = some o → h' q = some o
theorem Ext.refl (h : Heap) : Ext h h := fun _ _ e => e
theorem Ext.trans {a b c : Heap} (x : Ext a b) (y : Ext b c) : Ext a c := fun q o e => y q o (x q o e)
theorem Ext.new {h : Heap} {r : Nat} (hr : h r = none) (o : AObj) : Ext h (h.set r o) := fun q o' e => by
  have : q ≠ r := fun e' => by rw [e', hr] at e; cases e
  rw [Heap.set_other _ _ this]
  exact e
theorem Ext.put {h h' : Heap} {r : Nat} (x : Ext h h') (hr : h r = none) (o : AObj) : Ext h (h'.set r o) := fun q o' e => by
  have : q ≠ r := fun e' => by rw [e', hr] at e; cases e
  rw [Heap.set_other _ _ this]
  exact x q o' e
theorem nilP_nil (X : Bool → Prop) : nilP .nilptr X = X true := rfl
theorem nilP_ptr (r i o : Nat) (X : Bool → Prop) : nilP (.ptr r i o) X = X false := rfl
theorem nilCheckA_ptr (r i o : Nat) (X : AVal → Prop) : nilCheckA (.ptr r i o) X = X (.ptr r i o) := rfl
def zRow : List AVal := [.int .i64 0, .str (ByteArray.mk #[]), .int .i64 0, .int .i64 0]
theorem st_z {H : Heap} {r : Nat} (hr : H r = some (.row 4 [.agg zRow])) {a b c d : AVal} {X : Heap → Prop} (hx : X (H.set r (.row 4 [.agg [a, b, c, d]]))) : st false H (.ptr r 0 0) [a, b, c, d] X := by
  simp only [st, hr, List.getElem?_cons_zero]
  exact chk_iff.2 ⟨rfl, hx⟩
end Go.Proofs.YtljglglbfcgjpaaGreat

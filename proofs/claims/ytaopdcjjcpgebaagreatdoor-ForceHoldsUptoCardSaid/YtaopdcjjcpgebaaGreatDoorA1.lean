/- From a reading to inputs of a law: whole numbers and texts alone; the row's last step. No condition. From a reading to inputs of a law: slices, structs. No condition. Contracts: the same numbers. No condition. Contracts: the program's words. No condition. Words and small laws for contracts: sizes of models, owned rows. No condition. From a reading to a model. No condition. Words for contracts: nodes of a table of formulas, and memory that is read as a list of them. No condition. From a reading to a table of formulas. No condition. Words for contracts: memory that grows. No condition. Words for contracts: sets of numbers as sixteen words of sixty-four bits. No condition. Contracts: a loop over a function, where the function hands over one row of values after the other. No condition. Printed by lay7.py (this repo, wip/tools): where the library's functions stand in the given program. No condition. Contract: the library's count of trailing zeros. No condition. Contracts: the program's sets of numbers: Of, Next, All, List. No condition. Words for contracts: slices of ours are read, written, settled. No condition. Contracts: names that rise; is a name, a number among some? (the program) No condition. Plain: who is above whom; a search for all that is above. No condition. Plain: which models are well-formed. No condition. Plain: a map as a set; a measure. No condition. Plain: what is above each world; rows that are done. No condition. Contracts: the program's order (force): a search with a queue. No condition. Contracts: the program's order (force), whole. No condition. Contracts: lists of names and of numbers, the same models. No condition. Contracts: what a name is. No condition. Contracts: tables that are read: has, Find. No condition. -/
import Derived.Test.YtaopdcjjcpgebaaGreatDoorRows
import Derived.WalkKit
import Derived.ProofKit
import Derived.OpenShut
import Derived.JoinedCond
import Derived.Below
import Derived.ChangeSame
import Derived.ReadAgain
import Derived.Test.YtaopdcjjcpgebaaGreatDoorM5
import Derived.Test.YtaopdcjjcpgebaaGreatDoorProg
import Derived.Test.YtaopdcjjcpgebaaGreatDoorPH0
import Derived.Test.YtaopdcjjcpgebaaGreatDoorPH1
import Derived.Shelf.Spec.TrailingZeros
import Derived.KernelRfl

set_option linter.unusedVariables false
set_option linter.unusedSimpArgs false

namespace Go.Proofs.YtaopdcjjcpgebaaGreatDoor
open Go Go.Sym Go.Proofs.Tryz
open Go.ChangeShapes Go.WideShapes Go.ChangeAt Go.RowKit
set_option linter.unusedVariables false
set_option maxRecDepth 4000
/- ---- the measure ---- -/
theorem bulk_one {H : Type} (d : DataW H) : 1 ≤ Rows.uptoBulk d := by
  cases d with
  | lit l => cases l <;> simp [Rows.uptoBulk]
  | nil => simp [Rows.uptoBulk]
  | ptr d => simp [Rows.uptoBulk]
  | slice elems spare => simp [Rows.uptoBulk]
  | agg parts => simp [Rows.uptoBulk]
  | iface t d => simp [Rows.uptoBulk]
  | map entries => simp [Rows.uptoBulk]
  | held h => simp [Rows.uptoBulk]
theorem bulk_mem {H : Type} {d : DataW H} {l : List (DataW H)} (h : d ∈ l) : Rows.uptoBulk d ≤ Rows.uptoBulkAll l := by
  induction l with
  | nil => cases h
  | cons x r ih =>
    simp only [Rows.uptoBulkAll]
    rcases List.mem_cons.1 h with e | e
    · subst e; omega
    · have := ih e; omega
theorem bulk_len {H : Type} (l : List (DataW H)) : l.length ≤ Rows.uptoBulkAll l := by
  induction l with
  | nil => simp
  | cons x r ih =>
    have := bulk_one x
    simp only [Rows.uptoBulkAll, List.length_cons]
    omega
theorem bulkOK {H : Type} : BulkOK (Rows.uptoBulk (H := H)) where
  str l := by simp [Rows.uptoBulk]
  ptr d := by simp [Rows.uptoBulk]
  len l r := by have := bulk_len l; simp only [Rows.uptoBulk]; omega
  elem l r d h := by have := bulk_mem h; simp only [Rows.uptoBulk]; omega
  part l d h := by have := bulk_mem h; simp only [Rows.uptoBulk]; omega
section
variable {H : Type} {enc : TypeId × Value → H} {W : World}
/- ---- what a law leaves ---- -/
theorem law_callsR [Nam] (H0 : RelH (ghost0 W) (fun _ => none) W) {f : FuncId} {avs : List AVal} {args : Array Value} (hr : RelVs (ghost0 W) avs args.toList) (hA : ACalls prog f avs (fun _ => none) (fun v _ => v = .bool true)) :
    Calls prog f args W fun e W' => e = .returned (.bool true) ∧ Below W.heap.size W W' := by
  have := hA.2 (ghost0 W) args.toList W hr H0
  simp only [Array.toArray_toList] at this
  refine this.mono ?_
  rintro e w' ⟨v, κ', av, h', rfl, le, H', hv, rfl⟩
  cases hv
  have hb : ∀ k, k < W.heap.size → w'.heap[k]? = W.heap[k]? := fun k hk => by
    have e1 : W.heap[k]? = some W.heap[k] := by simp [hk]
    rw [H'.imm k _ (le.imm k _ e1), e1]
  refine ⟨rfl, H'.os.trans le.os, H'.tape.trans le.tape, H'.output.trans le.output, ?_, hb⟩
  by_cases h0 : W.heap.size = 0
  · omega
  · have e1 := hb (W.heap.size - 1) (by omega)
    have e2 : W.heap[W.heap.size - 1]? = some W.heap[W.heap.size - 1] := by simp
    rw [e2] at e1
    have := (Array.getElem?_eq_some_iff.1 e1).1
    omega
theorem same_at {W' : World} (hb : Below W.heap.size W W') {p : MemPlace} (hp : p.block < W.heap.size) : W.sameAt W' p := by
  have := hb.block p.block hp
  cases p with
  | cell b off =>
    show W'.cell? ⟨b, off, none⟩ = W.cell? ⟨b, off, none⟩
    simp only [MemPlace.block] at this
    unfold World.cell?
    rw [this]
  | map b => exact this
theorem args_again {W' : World} (hb : Below W.heap.size W W') {sp : Nat → Bool} {held : Bool} {base : Nat} : ∀ {ts : List TypeId} {vs : List Value} {ds : List (DataW H)} {ps : List MemPlace}, DataW.TrodAll enc prog W base sp held ts vs ds ps → (∀ p ∈ ps, p.block < W.heap.size) → DataW.TrodAll enc prog W' base sp held ts vs ds ps
  | [], [], [], _, h, _ => h
  | _ :: _, _ :: _, _ :: _, _, ⟨p, q, ⟨n, h1⟩, h2, e⟩, hl => ⟨p, q, ⟨n, DataW.trod_carry n _ _ _ h1 (fun x hx => same_at hb (hl x (by rw [e]; exact List.mem_append_left _ hx)))⟩, args_again hb h2 (fun x hx => hl x (by rw [e]; exact List.mem_append_right _ hx)), e⟩
theorem post_true {f : Func} {s : ChangeSpec} {apart fresh handsOn again : Bool} {W' : World} {args : Array Value} {ds : List (DataW H)} {before : List MemPlace} (hf : f.resultTypes = #[4]) (hs : s.vars = [])
    (hfn : s.fn H (ds ++ []) = { results := [.lit (.bool true)], args := ds }) (hT : ∀ t ∈ f.params.toList, t < prog.types.size) (K : Kids prog (· < prog.types.size)) (hz : ∀ t e, t < prog.types.size → prog.underlying t = some (.slice e) → 0 < prog.cellsOf e)
    (hW : DataW.Whole enc prog f.params.toList s.vars apart W args.toList ds [] before) (hb : Below W.heap.size W W') : s.post enc prog f apart fresh handsOn again W args (.bool true) W' := by
  have hlt : ∀ p ∈ before, p.block < W.heap.size := fun p hp => hW.lt p hp
  have hW0 := hW
  obtain ⟨pa, q, hA, hV, hps, hz2, hn⟩ := hW
  rw [hs] at hV
  obtain ⟨_, rfl⟩ := trodVars_none hV
  rw [List.append_nil] at hps
  subst hps
  have hargs : ∀ sp : Nat → Bool, (∀ p ∈ before, sp p.block = true) → DataW.TrodAll enc prog W' 0 sp true f.params.toList args.toList ds before :=
    fun sp hsp => args_again hb (DataW.TrodAll.respare K hz hT hA hsp) hlt
  have hres : ∀ (b : Nat) (sp : Nat → Bool) (hd : Bool), DataW.TrodAll enc prog W' b sp hd f.resultTypes.toList ((Value.bool true).resultList f.resultTypes.size) [.lit (.bool true)] [] := fun b sp hd => by
    rw [hf]
    exact trodAll_cons_mk (shut_bool underlying4 _) trodAll_mk0
  have hold : ∀ p ∈ before, (fun b => decide (b < W.heap.size)) p.block = true := fun p hp => by simpa using hlt p hp
  have hvars : ∀ sp, DataW.TrodVars enc prog W' sp s.vars [] [] := fun sp => by rw [hs]; rfl
  refine ⟨ds, [], before, [], before, [], hW0, by rw [hfn]; exact hres _ _ _, by rw [hfn]; exact hargs _ hold, by rw [hfn]; exact hvars _, World.keptBut_mono (fun p hp => ⟨hp, .inr (by simp [hp])⟩) (hb.frame (· ∈ before)), fun _ => ?_⟩
  refine ⟨ok_one hf rfl (okWide_bool_mk underlying4 _), _, _, [] ++ before ++ [], ⟨[] ++ before, [], trodAll_append (hargs _ (fun _ _ => rfl)) (hres _ _ _), hvars _, rfl, ?_, ?_⟩, ?_⟩
  · intro b off hp
    have hin : MemPlace.cell b off ∈ before := by simpa using hp
    rw [hb.frozen (hlt _ hin)]
    exact hz2 b off hin
  · intro ha
    have := hn ha
    simpa using this
  · intro p hp _
    simpa using hp
end
end Go.Proofs.YtaopdcjjcpgebaaGreatDoor

namespace Go.Proofs.YtaopdcjjcpgebaaGreatDoor
open Go Go.Sym Go.Proofs.Tryz
open Go.ChangeShapes Go.WideShapes Go.ChangeAt Go.RowKit
set_option linter.unusedVariables false
set_option maxRecDepth 4000
theorem all2_of {β : Type} {R : AVal → β → Prop} {Q : β → Prop} : ∀ {l : List AVal}, (∀ x ∈ l, ∃ b, R x b ∧ Q b) → ∃ bs, All2 R l bs ∧ ∀ b ∈ bs, Q b
  | [], _ => ⟨[], .nil, by simp⟩
  | x :: l, h => by
    obtain ⟨b, hb, hq⟩ := h x List.mem_cons_self
    obtain ⟨bs, h1, h2⟩ := all2_of (l := l) (fun y hy => h y (List.mem_cons_of_mem _ hy))
    exact ⟨b :: bs, .cons hb h1, fun c hc => by
      rcases List.mem_cons.1 hc with rfl | hc
      · exact hq
      · exact h2 c hc⟩
theorem all2_map {β : Type} {f : β → AVal} : ∀ {l : List AVal} {bs : List β}, All2 (fun x b => x = f b) l bs → l = bs.map f
  | _, _, .nil => rfl
  | _, _, .cons h t => by rw [h, all2_map t]; rfl
theorem shV_slice {P : Program} {B n : Nat} {t e : TypeId} {l : List AVal} {β : Type} {R : AVal → β → Prop} {Q : β → Prop} (hu : P.underlying t = some (.slice e))
    (he : ∀ n x, x.isAgg = aggT P e → (Sym.cellsOf x).length = P.cellsOf e → ShV P B n e (Sym.cellsOf x) → ∃ b, R x b ∧ Q b) (h : ShV P B n t l) :
    ∃ v L bs, l = [v] ∧ SlOf (P.cellsOf e) v L ∧ All2 R L bs ∧ bs.length ≤ B ∧ ∀ b ∈ bs, Q b := by
  cases n with
  | zero => exact h.elim
  | succ n =>
    simp only [ShV, hu] at h
    rcases h with rfl | ⟨elems, rfl, h1, h2⟩
    · exact ⟨_, [], [], rfl, .nil _, .nil, by simp, by simp⟩
    · obtain ⟨bs, h3, h4⟩ := all2_of (R := R) (Q := Q) (l := elems) (fun x hx => he n x (h2 x hx).1 (h2 x hx).2.1 (h2 x hx).2.2)
      exact ⟨_, elems, bs, rfl, .lsl _ _, h3, by rw [← h3.length]; exact h1, h4⟩
theorem cells_one {x : AVal} (h : x.isAgg = false) : Sym.cellsOf x = [x] := by cases x <;> first | rfl | cases h
theorem ca3 : prog.cellsOf 3 = 1 := by kernel_rfl
theorem ca9 : prog.cellsOf 9 = 1 := by kernel_rfl
theorem ag3 : aggT prog 3 = false := by kernel_rfl
theorem ag9 : aggT prog 9 = false := by kernel_rfl
theorem shV_int {B n : Nat} {x : AVal} (h : ShV prog B n 3 [x]) : ∃ b, x = .int .i64 b := by
  cases n with
  | zero => exact h.elim
  | succ n =>
    simp only [ShV, underlying3] at h
    obtain ⟨b, e, _⟩ := h
    exact ⟨b, by simpa using e⟩
theorem shV_str {B n : Nat} {x : AVal} (h : ShV prog B n 9 [x]) : ∃ s : ByteArray, x = .str s ∧ s.size ≤ B := by
  cases n with
  | zero => exact h.elim
  | succ n =>
    simp only [ShV, underlying9] at h
    obtain ⟨s, e, hs⟩ := h
    exact ⟨s, by simpa using e, hs⟩
section
variable {H : Type} {enc : TypeId × Value → H} {W : World}
theorem arg_slice {t e : TypeId} {v : Value} (hu : prog.underlying t = some (.slice e)) (hv : Value.okWide prog W .any 0 t v) : v.cells.toList = [v] := by
  cases v <;> first | rfl | skip
  simp [Value.okWide, Cell.okWide, Cell.ok, hu] at hv
theorem arg_one {t e : TypeId} {v : Value} (hu : prog.underlying t = some (.slice e)) (hv : Value.okWide prog W .any 0 t v) {B n : Nat} (h : Got prog W B n t v.cells.toList) : ∃ a, RelV (ghost0 W) a v ∧ ShV prog B n t [a] := by
  rw [arg_slice hu hv] at h
  obtain ⟨l, h1, h2, _⟩ := h
  cases h1 with
  | cons a b => cases b; exact ⟨_, a, h2⟩
theorem arg_struct {t : TypeId} {fs : Array Field} {v : Value} (hu : prog.underlying t = some (.struct fs)) (hv : Value.okWide prog W .any 0 t v) {B n : Nat} (h : Got prog W B n t v.cells.toList) : ∃ l, RelV (ghost0 W) (.agg l) v ∧ ShV prog B n t l := by
  simp only [Value.okWide, hu] at hv
  obtain ⟨cs, rfl, _⟩ := hv
  obtain ⟨l, h1, h2, h3⟩ := h
  refine ⟨l, ?_, h2⟩
  have := RelV.agg h3 h1
  simpa [Value.cells] using this
end
end Go.Proofs.YtaopdcjjcpgebaaGreatDoor

namespace Go.Proofs.YtaopdcjjcpgebaaGreatDoor
open Go Go.Sym Go.Proofs.Tryz
variable {K : AVal → Heap → Prop} {h : Heap}
theorem ints_loop {a b : AVal} {la lb : List Int} (ha : Ints a la) (hb : Ints b lb) (hl : la.length = lb.length) (hm : la.length ≤ 1073741824) : ∀ d i : Nat, i + d = la.length →
    K (.bool (decide (la.drop i = lb.drop i))) h → s33l1 K (d + 1) a b (i : Int) h
  | 0, i, hd, hk => by
    unfold s33l1
    rw [ha.len]
    refine ifT_neg (by simp; omega) (retG_of ?_)
    rw [List.drop_eq_nil_of_le (by omega), List.drop_eq_nil_of_le (by omega)] at hk
    simpa using hk
  | d + 1, i, hd, hk => by
    have hi : i < la.length := by omega
    have hi' : i < lb.length := by omega
    unfold s33l1
    rw [ha.len]
    refine ifT_pos (by simp; omega) ?_
    rw [ha.ix hi, ld1_lptr, tInt_int, hb.ix hi', ld1_lptr, tInt_int]
    rw [drop_eq_step hi hi'] at hk
    by_cases he : la[i] = lb[i]
    · refine ifT_neg (by simp [he]) (rg_of (by omega) (by omega) ?_)
      exact s33l1_go (ints_loop ha hb hl hm d (i + 1) (by omega) (by simpa [he] using hk))
    · refine ifT_pos (by simp [he]) (retG_of ?_)
      simpa [he] using hk
theorem ints_ok {a b : AVal} {la lb : List Int} (ha : Ints a la) (hb : Ints b lb) (hm : la.length ≤ 1073741824) (hk : K (.bool (decide (la = lb))) h) :
    ACalls prog 33 [a, b] h K := by
  refine s33_ok ?_
  unfold s33
  rw [ha.len, hb.len]
  by_cases hl : la.length = lb.length
  · refine ifT_neg (by simp [hl]) (s33l1_in (la.length + 1) ?_)
    exact ints_loop ha hb hl hm la.length 0 (by omega) (by simpa using hk)
  · refine ifT_pos (by simp; omega) (retG_of ?_)
    rwa [show decide (la = lb) = false by simp; intro e; exact hl (by rw [e])] at hk
end Go.Proofs.YtaopdcjjcpgebaaGreatDoor

namespace Go.Proofs.YtaopdcjjcpgebaaGreatDoor
open Go Go.Sym Go.Proofs.Tryz
variable {K : AVal → Heap → Prop} {h : Heap}
def ltB (c : Int) : Bool := (decide (97 ≤ c) && decide (c ≤ 122)) || (decide (65 ≤ c) && decide (c ≤ 90))
def dgB (c : Int) : Bool := (decide (48 ≤ c) && decide (c ≤ 57)) || (c == 95 || c == 39)
def goodB (s : ByteArray) (i : Nat) : Bool := ltB (btA s i) || (i != 0 && dgB (btA s i))
def resL : List ByteArray := [ByteArray.mk #[97, 98, 111, 114, 116], ByteArray.mk #[99, 97, 115, 101], ByteArray.mk #[102, 97, 108, 115, 101], ByteArray.mk #[102, 115, 116], ByteArray.mk #[102, 117, 110], ByteArray.mk #[105, 110], ByteArray.mk #[105, 110, 108], ByteArray.mk #[105, 110, 114], ByteArray.mk #[108, 101, 116], ByteArray.mk #[111, 102], ByteArray.mk #[115, 110, 100], ByteArray.mk #[116, 114, 117, 101]]
def wordB (s : ByteArray) : Bool := decide (s.size ≠ 0) && (decide (s.size ≤ 31) && ((List.range' 0 s.size).all (goodB s) && resL.all fun r => !strEq r s))
theorem strEq_comm (a b : ByteArray) : strEq a b = strEq b a := by rw [strEq_dec, strEq_dec, Bool.eq_iff_iff]; simp [eq_comm]
theorem btA_range (s : ByteArray) (i : Int) : 0 ≤ btA s i ∧ btA s i ≤ 255 := by
  unfold btA
  have := UInt8.toNat_lt (s[i.toNat]?.getD 0)
  omega
theorem or32 : ∀ c : Fin 256, (decide (97 ≤ bitsI .or .u8 (c.val : Int) 32) && decide (bitsI .or .u8 (c.val : Int) 32 ≤ 122)) = ltB c.val := by decide +kernel
theorem or32_bt (s : ByteArray) (i : Int) : (decide (97 ≤ bitsI .or .u8 (btA s i) 32) && decide (bitsI .or .u8 (btA s i) 32 ≤ 122)) = ltB (btA s i) := by
  obtain ⟨h1, h2⟩ := btA_range s i
  have := or32 ⟨(btA s i).toNat, by omega⟩
  simp only [Int.toNat_of_nonneg h1] at this
  exact this
theorem reserved_ok (s : ByteArray) (hk : K (.bool (resL.any fun r => strEq r s)) h) : ACalls prog 155 [.str s] h K := by
  refine s155_ok ?_
  unfold s155
  simp only [resL, List.any_cons, List.any_nil, Bool.or_false] at hk
  simp only [strEq_comm _ s] at hk
  unfold s155c1
  generalize strEq s (ByteArray.mk #[97, 98, 111, 114, 116]) = b0 at hk ⊢
  generalize strEq s (ByteArray.mk #[99, 97, 115, 101]) = b1 at hk ⊢
  generalize strEq s (ByteArray.mk #[102, 97, 108, 115, 101]) = b2 at hk ⊢
  generalize strEq s (ByteArray.mk #[102, 115, 116]) = b3 at hk ⊢
  generalize strEq s (ByteArray.mk #[102, 117, 110]) = b4 at hk ⊢
  generalize strEq s (ByteArray.mk #[105, 110]) = b5 at hk ⊢
  generalize strEq s (ByteArray.mk #[105, 110, 108]) = b6 at hk ⊢
  generalize strEq s (ByteArray.mk #[105, 110, 114]) = b7 at hk ⊢
  generalize strEq s (ByteArray.mk #[108, 101, 116]) = b8 at hk ⊢
  generalize strEq s (ByteArray.mk #[111, 102]) = b9 at hk ⊢
  generalize strEq s (ByteArray.mk #[115, 110, 100]) = b10 at hk ⊢
  generalize strEq s (ByteArray.mk #[116, 114, 117, 101]) = b11 at hk ⊢
  cases b0 with
  | true => exact ifT_pos rfl (ifT_pos rfl (retG_of (by simpa using hk)))
  | false =>
  refine ifT_neg rfl ?_
  cases b1 with
  | true => exact ifT_pos rfl (ifT_pos rfl (retG_of (by simpa using hk)))
  | false =>
  refine ifT_neg rfl ?_
  cases b2 with
  | true => exact ifT_pos rfl (ifT_pos rfl (retG_of (by simpa using hk)))
  | false =>
  refine ifT_neg rfl ?_
  cases b3 with
  | true => exact ifT_pos rfl (ifT_pos rfl (retG_of (by simpa using hk)))
  | false =>
  refine ifT_neg rfl ?_
  cases b4 with
  | true => exact ifT_pos rfl (ifT_pos rfl (retG_of (by simpa using hk)))
  | false =>
  refine ifT_neg rfl ?_
  cases b5 with
  | true => exact ifT_pos rfl (ifT_pos rfl (retG_of (by simpa using hk)))
  | false =>
  refine ifT_neg rfl ?_
  cases b6 with
  | true => exact ifT_pos rfl (ifT_pos rfl (retG_of (by simpa using hk)))
  | false =>
  refine ifT_neg rfl ?_
  cases b7 with
  | true => exact ifT_pos rfl (ifT_pos rfl (retG_of (by simpa using hk)))
  | false =>
  refine ifT_neg rfl ?_
  cases b8 with
  | true => exact ifT_pos rfl (ifT_pos rfl (retG_of (by simpa using hk)))
  | false =>
  refine ifT_neg rfl ?_
  cases b9 with
  | true => exact ifT_pos rfl (ifT_pos rfl (retG_of (by simpa using hk)))
  | false =>
  refine ifT_neg rfl ?_
  cases b10 with
  | true => exact ifT_pos rfl (ifT_pos rfl (retG_of (by simpa using hk)))
  | false =>
  refine ifT_neg rfl ?_
  cases b11 with
  | true => exact ifT_pos rfl (retG_of (by simpa using hk))
  | false => exact ifT_neg rfl (retG_of (by simpa using hk))
theorem word_loop {s : ByteArray} (hm : s.size ≤ 1073741824) : ∀ d i : Nat, i + d = s.size →
    K (.bool ((List.range' i d).all (goodB s) && (decide (s.size ≠ 0) && (decide (s.size ≤ 31) && resL.all fun r => !strEq r s)))) h → s128l1 K (d + 1) s (s.size : Int) (i : Int) h
  | 0, i, hd, hk => by
    unfold s128l1
    refine ifT_neg (by simp; omega) ?_
    have he : strEq s (ByteArray.mk #[]) = decide (s.size = 0) := by
      rw [strEq_dec, Bool.eq_iff_iff]
      simp only [decide_eq_true_eq]
      constructor
      · intro e; rw [e]; rfl
      · intro e
        obtain ⟨⟨l⟩⟩ := s
        have : l.length = 0 := e
        rw [List.eq_nil_of_length_eq_zero this]
    rw [he]
    simp only [List.range'_zero, List.all_nil, Bool.true_and] at hk
    by_cases h0 : s.size = 0
    · refine ifT_neg (by simp [h0]) (retG_of ?_)
      simpa [h0] using hk
    · refine ifT_pos (by simp [h0]) ?_
      by_cases h31 : s.size ≤ 31
      · refine ifT_pos (by simp; omega) (callG_of (reserved_ok s ?_))
        rw [tBool_bool]
        refine retG_of ?_
        rw [show (!resL.any fun r => strEq r s) = resL.all fun r => !strEq r s by rw [List.all_eq_not_any_not]; simp]
        simpa [h0, h31] using hk
      · refine ifT_neg (by simp; omega) (retG_of ?_)
        simpa [h0, h31] using hk
  | d + 1, i, hd, hk => by
    unfold s128l1
    refine ifT_pos (by simp; omega) ⟨by omega, ?_⟩
    rw [List.range'_succ, List.all_cons] at hk
    have rest : goodB s i = true → s128c3 K (s128l1_G (s128l1 K (d + 1))) s s.size i false h := by
      intro hg
      rw [hg] at hk
      exact ifT_neg rfl (rg_of (by omega) (by omega) (s128l1_go (word_loop hm d (i + 1) (by omega) (by simpa using hk))))
    have stop : goodB s i = false → s128c3 K (s128l1_G (s128l1 K (d + 1))) s s.size i true h := by
      intro hg
      rw [hg] at hk
      exact ifT_pos rfl (retG_of (by simpa using hk))
    have key : s128c2 K (s128l1_G (s128l1 K (d + 1))) s i (btA s i) (ltB (btA s i)) s.size i h := by
      unfold s128c2
      unfold goodB dgB at rest stop
      cases hl : ltB (btA s i) with
      | true => exact ifT_neg rfl (rest (by rw [hl]; rfl))
      | false =>
        rw [hl] at rest stop
        simp only [Bool.false_or] at rest stop
        refine ifT_pos rfl ?_
        by_cases h0 : i = 0
        · refine ifT_pos (by simp [h0]) (stop (by simp [h0]))
        · refine ifT_neg (by simpa using h0) ?_
          rw [show (i != 0) = true by simpa using h0] at rest stop
          simp only [Bool.true_and] at rest stop
          generalize btA s i = c at *
          by_cases h95 : c = 95
          · exact ifT_neg (by simp [h95]) (rest (by simp [h95]))
          · refine ifT_pos (by simpa using h95) ?_
            by_cases h39 : c = 39
            · exact ifT_neg (by simp [h39]) (rest (by simp [h39]))
            · refine ifT_pos (by simpa using h39) ?_
              by_cases h48 : c < 48
              · exact ifT_pos (by simpa using h48) (stop (by simp [h95, h39]; omega))
              · refine ifT_neg (by simpa using h48) ?_
                by_cases h57 : 57 < c
                · rw [show decide (57 < c) = true by simpa using h57]; exact stop (by simp [h95, h39]; omega)
                · rw [show decide (57 < c) = false by simpa using h57]; exact rest (by simp; omega)
    have ho := or32_bt s i
    cases h97 : decide (97 ≤ bitsI .or .u8 (btA s i) 32) with
    | true => rw [h97, Bool.true_and] at ho; rw [ho]; exact ifT_pos rfl key
    | false => rw [h97, Bool.false_and] at ho; rw [← ho] at key; exact ifT_neg rfl key
theorem word_ok (s : ByteArray) (hm : s.size ≤ 1073741824) (hk : K (.bool (wordB s)) h) : ACalls prog 128 [.str s] h K := by
  refine s128_ok (s128l1_in (s.size + 1) (word_loop hm s.size 0 (by omega) ?_))
  unfold wordB at hk
  rwa [show ((List.range' 0 s.size).all (goodB s) && (decide (s.size ≠ 0) && (decide (s.size ≤ 31) && resL.all fun r => !strEq r s))) =
    (decide (s.size ≠ 0) && (decide (s.size ≤ 31) && ((List.range' 0 s.size).all (goodB s) && resL.all fun r => !strEq r s))) by
      cases (List.range' 0 s.size).all (goodB s) <;> cases decide (s.size ≠ 0) <;> cases decide (s.size ≤ 31) <;> rfl]
end Go.Proofs.YtaopdcjjcpgebaaGreatDoor

namespace Go.Proofs.YtaopdcjjcpgebaaGreatDoor
open Go Go.Sym Go.Proofs.Tryz
def SB (l : List ByteArray) : Prop := l.length ≤ 1073741824 ∧ ∀ s ∈ l, s.size ≤ 1073741824
structure Small (up : List (List Int)) (val : List (List ByteArray)) : Prop where
  ups : up.length ≤ 1048576
  vals : val.length ≤ 1048576
  row : ∀ r ∈ up, r.length ≤ 1048576
  names : ∀ l ∈ val, SB l ∧ l.length ≤ 1048576
def natI (l : List Nat) : List Int := l.map fun (x : Nat) => (x : Int)
theorem map_set {α : Type} (g : Nat → α) (n w : Nat) (y : α) : ((List.range n).map g).set w y = (List.range n).map fun x => if x = w then y else g x := by
  refine List.ext_getElem (by simp) fun i h1 h2 => ?_
  rw [List.getElem_set]
  by_cases e : w = i
  · subst e; simp
  · rw [if_neg e]
    simp [Ne.symm e]
/- ---------------- the texts of the names ---------------- -/
theorem Own.toBase {hb h : Heap} {os : List Ow} (W : Own hb os h) (S : Nat → Prop) (hS : ∀ n, S n → hb n = none) : Go.Sym.GStep h hb S :=
  ⟨fun _ _ => trivial, fun q o hq => ⟨o, W.old q o hq, (fun hs => by rw [hS q hs] at hq; cases hq), .refl o⟩⟩
def upd {α : Type} (f : Nat → α) (k : Nat) (y : α) : Nat → α := fun x => if x = k then y else f x
theorem range_filter_succ (p : Nat → Bool) (n : Nat) : (List.range (n + 1)).filter p = (List.range n).filter p ++ if p n then [n] else [] := by
  rw [List.range_succ, List.filter_append]
  congr 1
  rw [List.filter_cons]
  rfl
theorem mem_natI {l : List Nat} {x : Int} : x ∈ natI l ↔ ∃ c ∈ l, x = (c : Int) := by
  unfold natI
  rw [List.mem_map]
  exact ⟨fun ⟨c, h1, h2⟩ => ⟨c, h1, h2.symm⟩, fun ⟨c, h1, h2⟩ => ⟨c, h1, h2.symm⟩⟩
end Go.Proofs.YtaopdcjjcpgebaaGreatDoor

namespace Go.Proofs.YtaopdcjjcpgebaaGreatDoor
open Go Go.Sym Go.Proofs.Tryz
open Go.ChangeShapes Go.WideShapes Go.ChangeAt Go.RowKit
set_option linter.unusedVariables false
set_option maxRecDepth 4000
theorem ca50 : prog.cellsOf 50 = 1 := by kernel_rfl
theorem ca52 : prog.cellsOf 52 = 1 := by kernel_rfl
theorem ca23 : prog.cellsOf 23 = 1 := by kernel_rfl
theorem ca24 : prog.cellsOf 24 = 1 := by kernel_rfl
theorem ca26 : prog.cellsOf 26 = 2 := by kernel_rfl
theorem ag50 : aggT prog 50 = false := by kernel_rfl
theorem ag52 : aggT prog 52 = false := by kernel_rfl
theorem shV_ints {B n : Nat} {l : List AVal} (h : ShV prog B n 50 l) : ∃ v xs, l = [v] ∧ Ints v xs ∧ xs.length ≤ B := by
  obtain ⟨v, L, bs, rfl, h1, h2, h3, _⟩ := shV_slice (R := fun x b => x = .int .i64 b) (Q := fun _ => True) underlying50 (fun n x ha _ hx => by
    rw [cells_one (ha.trans ag3)] at hx
    obtain ⟨b, hb⟩ := shV_int hx
    exact ⟨b, hb, trivial⟩) h
  rw [ca3] at h1
  rw [all2_map h2] at h1
  exact ⟨v, bs, rfl, h1, h3⟩
theorem shV_strs {B n : Nat} {l : List AVal} (h : ShV prog B n 52 l) : ∃ v xs, l = [v] ∧ Strs v xs ∧ xs.length ≤ B ∧ ∀ s ∈ xs, s.size ≤ B := by
  obtain ⟨v, L, bs, rfl, h1, h2, h3, h4⟩ := shV_slice (R := fun x b => x = .str b) (Q := fun s => s.size ≤ B) underlying52 (fun n x ha _ hx => by
    rw [cells_one (ha.trans ag9)] at hx
    obtain ⟨b, hb, hs⟩ := shV_str hx
    exact ⟨b, hb, hs⟩) h
  rw [ca9] at h1
  rw [all2_map h2] at h1
  exact ⟨v, bs, rfl, h1, h3, h4⟩
theorem shV_intss {B n : Nat} {l : List AVal} (h : ShV prog B n 23 l) : ∃ v up, l = [v] ∧ Intss v up ∧ up.length ≤ B ∧ ∀ r ∈ up, r.length ≤ B := by
  obtain ⟨v, L, bs, rfl, h1, h2, h3, h4⟩ := shV_slice (R := Ints) (Q := fun r => r.length ≤ B) underlying23 (fun n x ha _ hx => by
    rw [cells_one (ha.trans ag50)] at hx
    obtain ⟨v, xs, e, h1, h2⟩ := shV_ints hx
    obtain rfl : x = v := by simpa using e
    exact ⟨xs, h1, h2⟩) h
  rw [ca50] at h1
  exact ⟨v, bs, rfl, ⟨L, h1, h2⟩, h3, h4⟩
theorem shV_strss {B n : Nat} {l : List AVal} (h : ShV prog B n 24 l) : ∃ v up, l = [v] ∧ Strss v up ∧ up.length ≤ B ∧ ∀ r ∈ up, r.length ≤ B ∧ ∀ s ∈ r, s.size ≤ B := by
  obtain ⟨v, L, bs, rfl, h1, h2, h3, h4⟩ := shV_slice (R := Strs) (Q := fun r => r.length ≤ B ∧ ∀ s ∈ r, s.size ≤ B) underlying24 (fun n x ha _ hx => by
    rw [cells_one (ha.trans ag52)] at hx
    obtain ⟨v, xs, e, h1, h2⟩ := shV_strs hx
    obtain rfl : x = v := by simpa using e
    exact ⟨xs, h1, h2⟩) h
  rw [ca52] at h1
  exact ⟨v, bs, rfl, ⟨L, h1, h2⟩, h3, h4⟩
theorem shV_model {B n : Nat} {l : List AVal} (hB : B ≤ 1048576) (h : ShV prog B n 26 l) : ∃ a b up val, l = [a, b] ∧ Intss a up ∧ Strss b val ∧ Small up val := by
  cases n with
  | zero => exact h.elim
  | succ n =>
    simp only [ShV, underlying26, ca26] at h
    obtain ⟨hl, hf⟩ := h
    have f1 := hf _ (List.mem_cons_self)
    have f2 := hf _ (List.mem_cons_of_mem _ List.mem_cons_self)
    simp only [ca23, ca24] at f1 f2
    match l, hl with
    | [a, b], _ =>
      obtain ⟨v, up, e1, h1, h2, h3⟩ := shV_intss f1
      obtain ⟨w, val, e2, h4, h5, h6⟩ := shV_strss f2
      obtain rfl : a = v := by simpa using e1
      obtain rfl : b = w := by simpa using e2
      exact ⟨a, b, up, val, rfl, h1, h4, Nat.le_trans h2 hB, Nat.le_trans h5 hB, fun r hr => Nat.le_trans (h3 r hr) hB, fun x hx => ⟨⟨by have := (h6 x hx).1; omega, fun s hs => by have := (h6 x hx).2 s hs; omega⟩, Nat.le_trans (h6 x hx).1 hB⟩⟩
theorem closed_ms : closedT prog [26, 23, 50, 3, 24, 52, 9] = true := by kernel_rfl
section
variable {H : Type} {enc : TypeId × Value → H} {W : World}
theorem arg_gotM {t : TypeId} {v : Value} {d : DataW H} {ps : List MemPlace} {B : Nat} (ht : t ∈ [26, 23, 50, 3, 24, 52, 9]) (h : DataW.Trod enc prog W 0 (fun _ => true) true t v d ps) (hb : Rows.uptoBulk d ≤ B) :
    ∃ n, Got prog W B n t v.cells.toList := by
  obtain ⟨n, hn⟩ := h
  exact ⟨n, trod_rel bulkOK closed_ms n t _ _ ht hn hb⟩
end
end Go.Proofs.YtaopdcjjcpgebaaGreatDoor

namespace Go.Proofs.YtaopdcjjcpgebaaGreatDoor
open Go Go.Sym Go.Proofs.Tryz
variable {K : AVal → Heap → Prop} {h h0 : Heap}
structure Nd where
  k : Int
  s : ByteArray
  l : Int
  r : Int
def nodeC (x : Nd) : List AVal := [.int .i64 x.k, .str x.s, .int .i64 x.l, .int .i64 x.r]
def nodeV (x : Nd) : AVal := .agg (nodeC x)
def Nodes (v : AVal) (xs : List Nd) : Prop := SlOf 4 v (xs.map nodeV)
def NdOK (i : Nat) (x : Nd) : Prop := x.k = 1 ∨ x.k = 2 ∨ ((x.k = 3 ∨ x.k = 4 ∨ x.k = 5) ∧ (0 ≤ x.l ∧ x.l < i) ∧ 0 ≤ x.r ∧ x.r < i)
theorem Nodes.len {v : AVal} {xs : List Nd} (h : Nodes v xs) (K : Int → Prop) : lenN v K = K xs.length := by rw [lenN_of h]; simp
theorem Nodes.ix {v : AVal} {xs : List Nd} (h : Nodes v xs) {i : Nat} (hi : i < xs.length) (K : AVal → Prop) : ixS 4 v (i : Int) K = K (.lptr (nodeC xs[i])) := by
  rw [ixS_nat h (i := i) (e := nodeV xs[i]) (by simp [hi])]
  rfl
theorem ldN_node (h : Heap) (x : Nd) (K : List AVal → Prop) : ldN 4 h (.lptr (nodeC x)) K = K (nodeC x) := ldN_lptr 4 h _ K (by simp [nodeC])
theorem nilCheck_ptr (r i o : Nat) (K : AVal → Prop) : nilCheckA (.ptr r i o) K = K (.ptr r i o) := rfl
theorem ldN_elem {h : Heap} {r i n es : Nat} {elems cs : List AVal} (hr : h r = some (.row es elems)) (he : elems[i]? = some (.agg cs)) (hn : n = cs.length) (K : List AVal → Prop) : ldN n h (.ptr r i 0) K = K cs := by
  subst hn
  unfold ldN ldCells
  simp only [hr, he, cellsOf_agg, List.drop_zero, List.take_length]
  rw [Nat.ble_eq_true_of_le (Nat.le_refl _)]
  rfl
theorem eqNode (x y : Nd) : eqT prog 8 83 (nodeV x) (nodeV y) = some ((x.k == y.k) && (strEq x.s y.s && ((x.l == y.l) && ((x.r == y.r) && true)))) := by kernel_rfl
theorem eqNodeG : prog.eqGuardType prog.depth 83 = false := by kernel_rfl
theorem nilPp (r i o : Nat) (X : Bool → Prop) : nilP (.ptr r i o) X = X false := rfl
theorem nilMr (r : Nat) (X : Bool → Prop) : nilM (.mapr r) X = X false := rfl
def ndB (x y : Nd) : Bool := (x.k == y.k) && (strEq x.s y.s && ((x.l == y.l) && ((x.r == y.r) && true)))
theorem ndB_iff {x y : Nd} : ndB x y = true ↔ x = y := by
  unfold ndB
  rw [strEq_dec]
  obtain ⟨a, b, c, d⟩ := x
  obtain ⟨a', b', c', d'⟩ := y
  simp
theorem eqNodeX {x y : Nd} {K : Bool → Prop} (hk : K (ndB x y)) : eqQ prog 83 (nodeV x) (nodeV y) K := by
  refine ⟨eqNodeG, ?_⟩
  rw [eqNode]
  exact hk
def ndIx (y : Nd) (xs : List Nd) : Option Nat := xs.findIdx? fun x => ndB x y
theorem ndIx_some {y : Nd} {xs : List Nd} {i : Nat} (h : ndIx y xs = some i) : xs[i]? = some y := by
  unfold ndIx at h
  obtain ⟨h1, h2, _⟩ := List.findIdx?_eq_some_iff_getElem.1 h
  rw [List.getElem?_eq_getElem h1]
  exact congrArg some (ndB_iff.1 h2)
def RdN (h : Heap) (v : AVal) (xs : List Nd) : Prop := (v = .nilsl ∧ xs = []) ∨ (∃ (r : Nat) (L : List AVal), v = .sl r 4 0 xs.length ∧ h r = some (.row 4 L) ∧ ∀ (i : Nat) (x : Nd), xs[i]? = some x → L[i]? = some (nodeV x)) ∨ Nodes v xs
theorem RdN.len {v : AVal} {xs : List Nd} (R : RdN h v xs) (K : Int → Prop) : lenN v K = K xs.length := by
  rcases R with ⟨rfl, rfl⟩ | ⟨r, L, rfl, _, _⟩ | R
  · rfl
  · rfl
  · exact R.len K
theorem RdN.ext {h h' : Heap} {v : AVal} {xs : List Nd} (R : RdN h v xs) (e : ∀ q o, h q = some o → h' q = some o) : RdN h' v xs := by
  rcases R with R | ⟨r, L, e1, e2, e3⟩ | R
  · exact .inl R
  · exact .inr (.inl ⟨r, L, e1, e _ _ e2, e3⟩)
  · exact .inr (.inr R)
theorem RdN.ix {v : AVal} {xs : List Nd} (R : RdN h v xs) {i : Nat} {x : Nd} (hi : xs[i]? = some x) {K : List AVal → Prop} (hk : K (nodeC x)) : ixS 4 v (i : Int) fun p => ldN 4 h p K := by
  have hlt := (List.getElem?_eq_some_iff.1 hi).1
  rcases R with ⟨rfl, rfl⟩ | ⟨r, L, rfl, hr, hL⟩ | R
  · simp at hlt
  · refine ixS_sl0 hlt ?_
    rw [ldN_elem (n := 4) hr (hL i x hi) rfl]
    exact hk
  · rw [R.ix hlt, ldN_node, (List.getElem?_eq_some_iff.1 hi).2]
    exact hk
theorem RdN.fld {v : AVal} {xs : List Nd} (R : RdN h v xs) {i o : Nat} {x : Nd} {c : AVal} (hi : xs[i]? = some x) (ho : (nodeC x)[o]? = some c) {K : AVal → Prop} (hk : K c) : ixS 4 v (i : Int) fun p => addOff p o fun p => ld1 h p K := by
  have hlt := (List.getElem?_eq_some_iff.1 hi).1
  have hol := (List.getElem?_eq_some_iff.1 ho).1
  rcases R with ⟨rfl, rfl⟩ | ⟨r, L, rfl, hr, hL⟩ | R
  · simp at hlt
  · refine ixS_sl0 hlt ?_
    rw [addOff_ptr]
    unfold ld1 ldCells
    simp only [hr, hL i x hi, nodeV, cellsOf_agg, Nat.zero_add]
    rw [List.drop_eq_getElem_cons hol]
    simp only
    rw [(List.getElem?_eq_some_iff.1 ho).2]
    exact hk
  · rw [R.ix hlt, (List.getElem?_eq_some_iff.1 hi).2, addOff_lptr, List.drop_eq_getElem_cons hol, (List.getElem?_eq_some_iff.1 ho).2, ld1_lptr]
    exact hk
def PRd (h : Heap) (t : AVal) (xs : List Nd) : Prop := ∃ rt vN q es, t = .ptr rt 0 0 ∧ h rt = some (.row 2 [.agg [vN, .mapr q]]) ∧ h q = some (.map es) ∧ RdN h vN xs
def DRd (h : Heap) (t : AVal) (xs : List Nd) : Prop := ∃ rt vN, t = .ptr rt 0 0 ∧ h rt = some (.row 1 [.agg [vN]]) ∧ RdN h vN xs
theorem PRd.ext {h h' : Heap} {t : AVal} {xs : List Nd} (R : PRd h t xs) (e : ∀ q o, h q = some o → h' q = some o) : PRd h' t xs := by
  obtain ⟨rt, vN, q, es, h1, h2, h3, h4⟩ := R
  exact ⟨rt, vN, q, es, h1, e _ _ h2, e _ _ h3, h4.ext e⟩
theorem DRd.ext {h h' : Heap} {t : AVal} {xs : List Nd} (R : DRd h t xs) (e : ∀ q o, h q = some o → h' q = some o) : DRd h' t xs := by
  obtain ⟨rt, vN, h1, h2, h3⟩ := R
  exact ⟨rt, vN, h1, e _ _ h2, h3.ext e⟩
theorem PRd.ld {t : AVal} {xs : List Nd} (R : PRd h t xs) : ∃ vN, RdN h vN xs ∧ ∀ K : AVal → Prop, (nilCheckA t fun p => addOff p 0 fun p => ld1 h p K) = K vN := by
  obtain ⟨rt, vN, q, es, rfl, h2, h3, h4⟩ := R
  exact ⟨vN, h4, fun K => by rw [nilCheck_ptr, addOff_ptr, ld1_fld h2 rfl]⟩
theorem DRd.ld {t : AVal} {xs : List Nd} (R : DRd h t xs) : ∃ vN, RdN h vN xs ∧ ∀ K : AVal → Prop, (nilCheckA t fun p => addOff p 0 fun p => ld1 h p K) = K vN := by
  obtain ⟨rt, vN, rfl, h2, h3⟩ := R
  exact ⟨vN, h3, fun K => by rw [nilCheck_ptr, addOff_ptr, ld1_fld h2 rfl]⟩
end Go.Proofs.YtaopdcjjcpgebaaGreatDoor

namespace Go.Proofs.YtaopdcjjcpgebaaGreatDoor
open Go Go.Sym Go.Proofs.Tryz
open Go.ChangeShapes Go.WideShapes Go.ChangeAt Go.RowKit
set_option linter.unusedVariables false
set_option maxRecDepth 4000
theorem ca81 : prog.cellsOf 81 = 1 := by kernel_rfl
theorem ca83 : prog.cellsOf 83 = 4 := by kernel_rfl
theorem ag83 : aggT prog 83 = true := by kernel_rfl
theorem closed_nodes : closedT prog [22, 83, 81, 9, 3] = true := by kernel_rfl
theorem shV_int81 {B n : Nat} {x : AVal} (h : ShV prog B n 81 [x]) : ∃ b, x = .int .i64 b := by
  cases n with
  | zero => exact h.elim
  | succ n =>
    simp only [ShV, underlying81] at h
    obtain ⟨b, e, _⟩ := h
    exact ⟨b, by simpa using e⟩
theorem shV_node {B n : Nat} {l : List AVal} (h : ShV prog B n 83 l) : ∃ x : Nd, l = nodeC x ∧ x.s.size ≤ B := by
  cases n with
  | zero => exact h.elim
  | succ n =>
    simp only [ShV, underlying83, ca83] at h
    obtain ⟨hl, hf⟩ := h
    have f1 := hf _ (List.mem_cons_self)
    have f2 := hf _ (List.mem_cons_of_mem _ List.mem_cons_self)
    have f3 := hf _ (List.mem_cons_of_mem _ (List.mem_cons_of_mem _ List.mem_cons_self))
    have f4 := hf _ (List.mem_cons_of_mem _ (List.mem_cons_of_mem _ (List.mem_cons_of_mem _ List.mem_cons_self)))
    simp only [ca81, ca9, ca3] at f1 f2 f3 f4
    match l, hl with
    | [a, b, c, d], _ =>
      obtain ⟨k, rfl⟩ := shV_int81 f1
      obtain ⟨s, rfl, hs⟩ := shV_str f2
      obtain ⟨l, rfl⟩ := shV_int f3
      obtain ⟨r, rfl⟩ := shV_int f4
      exact ⟨⟨k, s, l, r⟩, rfl, hs⟩
theorem shV_nodes {B n : Nat} {l : List AVal} (h : ShV prog B n 22 l) : ∃ v xs, l = [v] ∧ Nodes v xs ∧ xs.length ≤ B ∧ ∀ x ∈ xs, x.s.size ≤ B := by
  obtain ⟨v, L, bs, rfl, h1, h2, h3, h4⟩ := shV_slice (R := fun x b => x = nodeV b) (Q := fun b => b.s.size ≤ B) underlying22 (fun n x ha _ hx => by
    rw [ag83] at ha
    match x, ha, hx with
    | .agg cs, _, hx =>
    obtain ⟨x, e, hs⟩ := shV_node hx
    obtain rfl : cs = nodeC x := e
    exact ⟨x, rfl, hs⟩) h
  rw [ca83] at h1
  rw [all2_map h2] at h1
  exact ⟨v, bs, rfl, h1, h3, h4⟩
section
variable {H : Type} {enc : TypeId × Value → H} {W : World}
theorem arg_gotN {t : TypeId} {v : Value} {d : DataW H} {ps : List MemPlace} {B : Nat} (ht : t ∈ [22, 83, 81, 9, 3]) (h : DataW.Trod enc prog W 0 (fun _ => true) true t v d ps) (hb : Rows.uptoBulk d ≤ B) : ∃ n, Got prog W B n t v.cells.toList := by
  obtain ⟨n, hn⟩ := h
  exact ⟨n, trod_rel bulkOK closed_nodes n t _ _ ht hn hb⟩
end
end Go.Proofs.YtaopdcjjcpgebaaGreatDoor

namespace Go.Proofs.YtaopdcjjcpgebaaGreatDoor
open Go Go.Sym Go.Proofs.Tryz
variable {K : AVal → Heap → Prop} {h : Heap}
def Ext (h h' : Heap) : Prop := ∀ q o, h q = some o → h' q = some o
theorem Ext.refl (h : Heap) : Ext h h := fun _ _ e => e
theorem Ext.trans {a b c : Heap} (x : Ext a b) (y : Ext b c) : Ext a c := fun q o e => y q o (x q o e)
theorem Ext.new {h : Heap} {r : Nat} (hr : h r = none) (o : AObj) : Ext h (h.set r o) := fun q o' e => by
  have : q ≠ r := fun e' => by rw [e', hr] at e; cases e
  rw [Heap.set_other _ _ this]
  exact e
theorem Ext.put {h h' : Heap} {r : Nat} (x : Ext h h') (hr : h r = none) (o : AObj) : Ext h (h'.set r o) := fun q o' e => by
  have : q ≠ r := fun e' => by rw [e', hr] at e; cases e
  rw [Heap.set_other _ _ this]
  exact x q o' e
theorem nilP_ptr (r i o : Nat) (X : Bool → Prop) : nilP (.ptr r i o) X = X false := rfl
end Go.Proofs.YtaopdcjjcpgebaaGreatDoor

namespace Go.Proofs.YtaopdcjjcpgebaaGreatDoor
open Go Go.Sym Go.Proofs.Tryz
/- ---- a word ---- -/
def wV (x : BitVec 64) : AVal := .int .u64 ((x.toNat : Nat) : Int)
theorem w_ofInt (x : BitVec 64) : BitVec.ofInt 64 ((x.toNat : Nat) : Int) = x := by
  apply BitVec.eq_of_toNat_eq
  simp
theorem w_wrap (n : Nat) : IntKind.u64.wrap (n : Int) = ((n % 18446744073709551616 : Nat) : Int) := by
  unfold IntKind.wrap
  simp only [IntKind.bits, IntKind.signed]
  simp
theorem w_wrapT (x : BitVec 64) : IntKind.u64.wrap ((x.toNat : Nat) : Int) = ((x.toNat : Nat) : Int) := by
  rw [w_wrap, Nat.mod_eq_of_lt x.isLt]
theorem w_and (x y : BitVec 64) : bitsI .and .u64 ((x.toNat : Nat) : Int) ((y.toNat : Nat) : Int) = (((x &&& y).toNat : Nat) : Int) := by
  show IntKind.u64.wrap (((BitVec.ofInt 64 ((x.toNat : Nat) : Int) &&& BitVec.ofInt 64 ((y.toNat : Nat) : Int)).toNat : Nat) : Int) = _
  rw [w_ofInt, w_ofInt, w_wrapT]
theorem w_or (x y : BitVec 64) : bitsI .or .u64 ((x.toNat : Nat) : Int) ((y.toNat : Nat) : Int) = (((x ||| y).toNat : Nat) : Int) := by
  show IntKind.u64.wrap (((BitVec.ofInt 64 ((x.toNat : Nat) : Int) ||| BitVec.ofInt 64 ((y.toNat : Nat) : Int)).toNat : Nat) : Int) = _
  rw [w_ofInt, w_ofInt, w_wrapT]
theorem w_shl (x : BitVec 64) {k : Nat} (hk : k < 64) : IntKind.u64.wrap (((x.toNat : Nat) : Int) * 2 ^ (min (Int.toNat (k : Int)) IntKind.u64.bits)) = (((x <<< k).toNat : Nat) : Int) := by
  have e : min (Int.toNat (k : Int)) IntKind.u64.bits = k := by
    show min (Int.toNat (k : Int)) 64 = k
    rw [Int.toNat_natCast]; omega
  rw [e, show (((x.toNat : Nat) : Int) * 2 ^ k) = ((x.toNat * 2 ^ k : Nat) : Int) by push_cast; rfl, w_wrap, BitVec.toNat_shiftLeft, Nat.shiftLeft_eq]
theorem w_shr (x : BitVec 64) {k : Nat} (hk : k < 64) : Int.fdiv ((x.toNat : Nat) : Int) (2 ^ (min (Int.toNat (k : Int)) IntKind.u64.bits)) = (((x >>> k).toNat : Nat) : Int) := by
  have e : min (Int.toNat (k : Int)) IntKind.u64.bits = k := by
    show min (Int.toNat (k : Int)) 64 = k
    rw [Int.toNat_natCast]; omega
  rw [e, BitVec.toNat_ushiftRight, Nat.shiftRight_eq_div_pow, show (2 : Int) ^ k = ((2 ^ k : Nat) : Int) by push_cast; rfl, Int.fdiv_eq_ediv_of_nonneg _ (Int.natCast_nonneg _)]
  rfl
theorem w_one : ((1 : Int)) = (((1#64).toNat : Nat) : Int) := rfl
theorem w_eq (x y : BitVec 64) : ((((x.toNat : Nat) : Int)) == ((y.toNat : Nat) : Int)) = decide (x = y) := by
  rw [Bool.eq_iff_iff]
  simp only [beq_iff_eq, decide_eq_true_eq, Int.natCast_inj]
  exact ⟨fun h => BitVec.eq_of_toNat_eq h, fun h => by rw [h]⟩
theorem w_bit (x : BitVec 64) (k : Nat) : (bitsI .and .u64 (((x >>> k).toNat : Nat) : Int) 1 == 1) = x.getLsbD k := by
  rw [w_one, w_and, w_eq]
  rw [Bool.eq_iff_iff, decide_eq_true_eq]
  constructor
  · intro h
    have := congrArg (fun y => BitVec.getLsbD y 0) h
    simpa using this
  · intro h
    apply BitVec.eq_of_getLsbD_eq
    intro i hi
    simp only [BitVec.getLsbD_and, BitVec.getLsbD_ushiftRight, BitVec.getLsbD_one]
    by_cases h0 : i = 0
    · subst h0; simpa using h
    · simp [h0]
/- ---- sixteen words ---- -/
structure BitsV (v : AVal) (ws : List (BitVec 64)) : Prop where
  eq : v = .agg (ws.map wV)
  len : ws.length = 16
def memW (ws : List (BitVec 64)) (n : Nat) : Bool := (ws.getD (n / 64) 0#64).getLsbD (n % 64)
def noW : List (BitVec 64) := List.replicate 16 0#64
theorem memW_big {ws : List (BitVec 64)} (h : ws.length = 16) {n : Nat} (hn : 1024 ≤ n) : memW ws n = false := by
  unfold memW
  rw [List.getD_eq_getElem?_getD, List.getElem?_eq_none (by omega)]
  simp
def putW (ws : List (BitVec 64)) (n : Nat) : List (BitVec 64) := ws.set (n / 64) (ws.getD (n / 64) 0#64 ||| (1#64 <<< (n % 64)))
theorem putW_len {ws : List (BitVec 64)} {n : Nat} : (putW ws n).length = ws.length := by simp [putW]
end Go.Proofs.YtaopdcjjcpgebaaGreatDoor

namespace Go.Proofs.YtaopdcjjcpgebaaGreatDoor
open Go Go.Sym Go.Proofs.Tryz
theorem Heap.set_twice (h : Heap) (r : Nat) (a b : AObj) : (h.set r a).set r b = h.set r b := by
  funext q
  simp only [Heap.set]
  split <;> rfl
theorem Heap.set_del {h : Heap} {r : Nat} (hr : h r = none) (a : AObj) : (h.set r a).del r = h := by
  funext q
  simp only [Heap.set, Heap.del]
  split
  · rename_i e; rw [e, hr]
  · rfl
theorem Own.around {hb h : Heap} {os : List Ow} (W : Own hb os h) {r : Nat} (hr : h r = none) (x : AObj) : Own (hb.set r x) os (h.set r x) := by
  have ne : ∀ (i : Nat) (y : Ow) (n : Nat), os[i]? = some y → y.nm n → n ≠ r := fun i y n e e1 e2 => by
    have := W.get i y n e e1
    rw [e2, hr] at this; cases this
  refine ⟨W.fit, fun i y n e e1 => ?_, fun i y n e e1 => ?_, W.one, fun q' o' e => ?_⟩
  · rw [Heap.set_other _ _ (ne i y n e e1)]; exact W.get i y n e e1
  · rw [Heap.set_other _ _ (ne i y n e e1)]; exact W.new i y n e e1
  · simp only [Heap.set] at e ⊢
    split at e
    · rename_i e1; rw [if_pos e1]; exact e
    · rename_i e1; rw [if_neg e1]; exact W.old _ _ e
theorem Own.delB {hb h : Heap} {os : List Ow} (W : Own hb os h) {r : Nat} {x : AObj} (hr : hb r = some x) : Own (hb.del r) os (h.del r) := by
  have ne : ∀ (i : Nat) (y : Ow) (n : Nat), os[i]? = some y → y.nm n → n ≠ r := fun i y n e e1 e2 => by
    have := W.new i y n e e1
    rw [e2, hr] at this; cases this
  refine ⟨W.fit, fun i y n e e1 => ?_, fun i y n e e1 => ?_, W.one, fun q' o' e => ?_⟩
  · rw [Heap.del_other _ (ne i y n e e1)]; exact W.get i y n e e1
  · rw [Heap.del_other _ (ne i y n e e1)]; exact W.new i y n e e1
  · simp only [Heap.del] at e ⊢
    split at e
    · cases e
    · rename_i e1; rw [if_neg e1]; exact W.old _ _ e
def IterOK (f : FuncId) (first cap : List AVal) (ys : List (List AVal)) : Prop :=
  ∀ (l : Nat) (h : Heap) (I : Nat → Heap → Prop) (X : Heap → Prop) (K : AVal → Heap → Prop), I 0 h →
    (∀ i (hi : i < ys.length) h1, I i h1 → ARound prog l ys[i] h1 fun v h2 => (v = .bool true ∧ I (i + 1) h2) ∨ (v = .bool false ∧ X h2)) →
    (∀ v h', I ys.length h' → K v h') → (∀ v h', X h' → K v h') → ACalls prog f (first ++ [.func (.yield l) [] []] ++ cap) h K
theorem anyX_mem {r : Nat} {o : LSt → AObj} {h : Heap} {e : AExit} {F : Heap → Prop} (hr : h r = some (o (.done e.code))) (hF : F (h.del r)) : ∀ {xs : List (AExit × (Heap → Prop))}, (e, F) ∈ xs → anyX r o h xs
  | (e', F') :: xs, hm => by
    rcases List.mem_cons.1 hm with hm | hm
    · cases hm; exact .inl ⟨hr, hF⟩
    · exact .inr (anyX_mem hr hF hm)
theorem rng_own {f : FuncId} {first cap : List AVal} {ys : List (List AVal)} (it : IterOK f first cap ys) {D : Type} (P : Nat → D → Prop) (X : AExit → D → Prop) (os : D → List Ow) {h0 h : Heap} {ks : List Kd}
    {B : List AVal → Heap → (Heap → (Heap → Prop) → Prop) → (AExit → Heap → Prop) → Prop} {Φ : Heap → Prop} {Φx : List (AExit × (Heap → Prop))} {d0 : D} (hP : P 0 d0) (hO : Own h0 (os d0) h) (hks : ∀ y ∈ ys, kOKB ks y = true)
    (body : ∀ i (hi : i < ys.length) d hb hb' h1 h1' mid R, P i d → Ext h0 hb → Ext h0 hb' → Own hb (os d) h1 → Own hb' (os d) h1' → (∀ Y : Heap → Prop, Y h1' → mid h1 Y) →
      (∀ d' h2, P (i + 1) d' → Own hb' (os d') h2 → R .normal h2) → (∀ e d' h2, e ≠ .normal → X e d' → Own hb' (os d') h2 → R e h2) → B ys[i] h1 mid R)
    (done : ∀ d h2, P ys.length d → Own h0 (os d) h2 → Φ h2) (jump : ∀ e d h2, X e d → Own h0 (os d) h2 → ∃ F, (e, F) ∈ Φx ∧ F h2) : rngG prog (.func (.func f) first cap) ks h B Φ Φx := by
  intro l r o hr _ hround
  have hr0 : h0 r = none := by
    cases e : h0 r with
    | none => rfl
    | some x => rw [hO.old _ _ e] at hr; cases hr
  have ext : ∀ x, Ext h0 (h0.set r x) := fun x => Ext.new hr0 x
  refine it l _ (fun i h1 => ∃ d, P i d ∧ Own (h0.set r (o .ready)) (os d) h1) (fun h1 => ∃ e d, X e d ∧ Own (h0.set r (o (.done e.code))) (os d) h1) _ ⟨d0, hP, Own.around hO hr _⟩ ?_ ?_ ?_
  · rintro i hi h1 ⟨d, hPd, hOd⟩
    have h1r : h1 r = some (o .ready) := hOd.old _ _ (Heap.set_same _ _ _)
    refine hround _ h1 _ (hks _ (List.getElem_mem hi)) h1r ?_
    have hOb : Own (h0.set r (o .busy)) (os d) (h1.set r (o .busy)) := by
      have := Own.base hOd (q := r) (x := o .busy) (Heap.set_same _ _ _)
      rwa [Heap.set_twice] at this
    refine body i hi d _ _ h1 _ _ _ hPd (ext _) (ext _) hOd hOb (fun Y hy => ⟨h1r, hy⟩) (fun d' h2 hP' hO' => ⟨hO'.old _ _ (Heap.set_same _ _ _), .inl ⟨rfl, d', hP', ?_⟩⟩) (fun e d' h2 hne hx hO' => ⟨hO'.old _ _ (Heap.set_same _ _ _), ?_⟩)
    · have := Own.base hO' (q := r) (x := o .ready) (Heap.set_same _ _ _)
      rwa [Heap.set_twice] at this
    · have := Own.base hO' (q := r) (x := o (.done e.code)) (Heap.set_same _ _ _)
      rw [Heap.set_twice] at this
      cases e with
      | normal => exact absurd rfl hne
      | _ => exact .inr ⟨rfl, _, d', hx, this⟩
  · rintro v h' ⟨d, hPd, hOd⟩
    refine ⟨fun _ g => g, .inl ⟨hOd.old _ _ (Heap.set_same _ _ _), done d _ hPd ?_⟩⟩
    have := Own.delB hOd (r := r) (Heap.set_same _ _ _)
    rwa [Heap.set_del hr0] at this
  · rintro v h' ⟨e, d, hx, hOd⟩
    have := Own.delB hOd (r := r) (Heap.set_same _ _ _)
    rw [Heap.set_del hr0] at this
    obtain ⟨F, hm, hF⟩ := jump e d _ hx this
    exact ⟨fun _ g => g, .inr (anyX_mem (hOd.old _ _ (Heap.set_same _ _ _)) hF hm)⟩
end Go.Proofs.YtaopdcjjcpgebaaGreatDoor

namespace Go.Proofs.YtaopdcjjcpgebaaGreatDoor
open Go Go.Proofs Go.Shelf
def layT_ren : Ren := ⟨fun | 29 => 118 | n => n, fun | 22 => 27 | 3 => 3 | 4 => 4 | 25 => 125 | 54 => 201 | 0 => 0 | 5 => 5 | n => n, fun | 1 => 0 | n => n⟩
set_option maxRecDepth 100000 in
theorem layT : Lays7.n29 Tryz.prog layT_ren := {
  mixed := by kernel_rfl,
  f29 := Tryz.func118.trans (congrArg some (by kernel_rfl)),
  t0 := Tryz.underlying0,
  a0 := Tryz.isAgg0,
  z0 := Tryz.sizeOf0,
  v0 := Tryz.zeroValue0,
  i0 := by kernel_rfl,
  t3 := Tryz.underlying3,
  a3 := Tryz.isAgg3,
  z3 := Tryz.sizeOf3,
  v3 := Tryz.zeroValue3,
  i3 := by kernel_rfl,
  t4 := Tryz.underlying4,
  a4 := Tryz.isAgg4,
  z4 := Tryz.sizeOf4,
  v4 := Tryz.zeroValue4,
  i4 := by kernel_rfl,
  t5 := Tryz.underlying5,
  a5 := Tryz.isAgg5,
  z5 := Tryz.sizeOf5,
  v5 := Tryz.zeroValue5,
  i5 := by kernel_rfl,
  t22 := Tryz.underlying27,
  a22 := Tryz.isAgg27,
  z22 := Tryz.sizeOf27,
  v22 := Tryz.zeroValue27,
  i22 := by kernel_rfl,
  t25 := Tryz.underlying125,
  a25 := Tryz.isAgg125,
  z25 := Tryz.sizeOf125,
  v25 := Tryz.zeroValue125,
  i25 := by kernel_rfl,
  t54 := Tryz.underlying201,
  a54 := Tryz.isAgg201,
  z54 := Tryz.sizeOf201,
  g1 := by kernel_rfl }
end Go.Proofs.YtaopdcjjcpgebaaGreatDoor

namespace Go.Proofs.YtaopdcjjcpgebaaGreatDoor
open Go Go.Sym Go.Proofs.Tryz Go.Proofs.YtaopdcjjcpgebaaGreatDoor
theorem tz_ok {K : AVal → Heap → Prop} {h : Heap} {x : Nat} (hx : x < 18446744073709551616) (hk : K (.int .i64 (Lib.ctz 64 x : Nat)) h) : ACalls prog 118 [.int .u64 (x : Int)] h K := by
  refine ⟨by kernel_rfl, fun κ xs w hr H => ?_⟩
  cases hr with
  | cons ha hr =>
    cases hr
    cases ha
    refine (Any7.bits_TrailingZeros64 layT x hx w fun _ => tabAt H).mono ?_
    rintro e w' ⟨rfl, rfl⟩
    exact ⟨_, κ, _, h, rfl, Ghost.Le.refl κ, H, .int .., hk⟩
end Go.Proofs.YtaopdcjjcpgebaaGreatDoor

namespace Go.Proofs.YtaopdcjjcpgebaaGreatDoor
open Go Go.Sym Go.Proofs.Tryz
set_option maxRecDepth 100000
variable {K : AVal → Heap → Prop} {h : Heap}
theorem BitsV.agg {v : AVal} {ws : List (BitVec 64)} (B : BitsV v ws) (X : List AVal → Prop) (hx : X (ws.map wV)) : aggN 16 v X := by
  rw [B.eq]
  unfold aggN
  exact chk_iff.2 ⟨by simp [B.len], hx⟩
theorem ixP_w {r i : Nat} (hi : i < 16) {X : AVal → Prop} (hx : X (.ptr r 0 i)) : ixP 16 1 (.ptr r 0 0) (i : Int) X := by
  refine ⟨⟨by omega, by omega⟩, ?_⟩
  show X (.ptr r 0 (0 + (i : Int).toNat * 1))
  simpa using hx
theorem ws_get {ws : List (BitVec 64)} (hl : ws.length = 16) {i : Nat} (hi : i < 16) : (ws.map wV)[i]? = some (wV (ws.getD i 0#64)) := by
  simp [List.getElem?_map, List.getD_eq_getElem?_getD, hl, hi]
theorem ws_set {ws : List (BitVec 64)} {i : Nat} (x : BitVec 64) : (ws.map wV).set i (wV x) = (ws.set i x).map wV := by rw [List.map_set]
theorem inside_ok {n : Nat} (hk : K (.bool (decide ((n : Int) < 1024))) h) : ACalls prog 100 [.int .i64 (n : Int)] h K := by
  refine s100_ok ?_
  unfold s100
  exact ifT_pos (decide_eq_true (by omega)) (retG_of hk)
/- ---- the least number from one on ---- -/
def nextW (ws : List (BitVec 64)) (k : Nat) : Option Nat := (List.range 1024).find? fun n => decide (k ≤ n) && memW ws n
def listW (ws : List (BitVec 64)) : List Nat := (List.range 1024).filter (memW ws)
def nextR : Option Nat → AVal
  | some n => .tuple [.int .i64 (n : Int), .bool true]
  | none => .tuple [.int .i64 0, .bool false]
theorem find_some {p : Nat → Bool} : ∀ {m n : Nat}, n < m → p n = true → (∀ j, j < n → p j = false) → (List.range m).find? p = some n
  | m, n, hn, hp, hj => by
    rw [List.find?_eq_some_iff_append]
    refine ⟨hp, List.range n, List.range' (n + 1) (m - (n + 1)), ?_, fun a ha => by simpa using hj a (List.mem_range.1 ha)⟩
    rw [List.range_eq_range', List.range_eq_range', show m = n + ((m - (n + 1)) + 1) by omega, ← List.range'_append_1, Nat.zero_add, List.range'_succ]
    congr 3
    omega
theorem find_none {p : Nat → Bool} {m : Nat} (hj : ∀ j, j < m → p j = false) : (List.range m).find? p = none := by
  rw [List.find?_eq_none]
  intro x hx
  simpa using hj x (List.mem_range.1 hx)
theorem find_congr {p q : Nat → Bool} {m : Nat} (hj : ∀ j, j < m → p j = q j) : (List.range m).find? p = (List.range m).find? q := by
  cases e : (List.range m).find? q with
  | none =>
    rw [List.find?_eq_none] at e
    exact find_none fun j h => by rw [hj j h]; simpa using e j (List.mem_range.2 h)
  | some n =>
    have h1 := List.find?_some e
    have h2 := List.mem_range.1 (List.mem_of_find?_eq_some e)
    refine find_some h2 (by rw [hj n h2]; exact h1) fun j h => ?_
    rw [hj j (by omega)]
    obtain ⟨xs, ys, hab, hno⟩ := (List.find?_eq_some_iff_append.1 e).2
    have hlen : xs.length = n := by
      have := congrArg (fun l => l[xs.length]?) hab
      simp only [List.getElem?_append_right (Nat.le_refl xs.length), Nat.sub_self, List.getElem?_cons_zero] at this
      rw [List.getElem?_eq_some_iff] at this
      obtain ⟨_, hw⟩ := this
      rw [List.getElem_range] at hw
      exact hw
    have := congrArg (fun l => l[j]?) hab
    rw [List.getElem?_append_left (by omega), List.getElem?_range (by omega)] at this
    have hm : j ∈ xs := List.mem_of_getElem? this.symm
    simpa using hno j hm
theorem find_next : ∀ {l : List Nat}, l.Pairwise (· < ·) → ∀ {i : Nat} (hi : i < l.length), l.find? (fun n => decide (l[i] + 1 ≤ n)) = l[i + 1]?
  | [], _, i, hi => by simp at hi
  | a :: t, hs, 0, _ => by
    rw [List.pairwise_cons] at hs
    simp only [List.getElem_cons_zero, List.getElem?_cons_succ]
    rw [List.find?_cons_of_neg (by simp)]
    cases t with
    | nil => rfl
    | cons b t => rw [List.find?_cons_of_pos (by have := hs.1 b (by simp); exact decide_eq_true (by omega))]; rfl
  | a :: t, hs, i + 1, hi => by
    rw [List.pairwise_cons] at hs
    have hi' : i < t.length := by simpa using hi
    simp only [List.getElem_cons_succ, List.getElem?_cons_succ]
    have := hs.1 t[i] (List.getElem_mem hi')
    rw [List.find?_cons_of_neg (by simp; omega)]
    exact find_next hs.2 hi'
theorem range_sorted : ∀ n, (List.range n).Pairwise (· < ·) := fun n => List.pairwise_lt_range
theorem listW_sorted (ws : List (BitVec 64)) : (listW ws).Pairwise (· < ·) := (range_sorted 1024).filter _
theorem nextW_eq (ws : List (BitVec 64)) (k : Nat) : nextW ws k = (listW ws).find? fun n => decide (k ≤ n) := by
  unfold nextW listW
  rw [List.find?_filter]
  exact find_congr fun j _ => by rw [Bool.eq_iff_iff]; simp [and_comm]
theorem next_zero (ws : List (BitVec 64)) : nextW ws 0 = (listW ws)[0]? := by
  rw [nextW_eq]
  cases listW ws with
  | nil => rfl
  | cons a l => rfl
theorem next_succ (ws : List (BitVec 64)) {i : Nat} (hi : i < (listW ws).length) : nextW ws ((listW ws)[i] + 1) = (listW ws)[i + 1]? := by
  rw [nextW_eq]
  exact find_next (listW_sorted ws) hi
theorem listW_lt {ws : List (BitVec 64)} {n : Nat} (h : n ∈ listW ws) : n < 1024 := List.mem_range.1 (List.mem_filter.1 h).1
theorem listW_len (ws : List (BitVec 64)) : (listW ws).length ≤ 1024 := by
  have := List.length_filter_le (memW ws) (List.range 1024)
  rw [List.length_range] at this
  exact this
theorem ctz_spec {x : BitVec 64} (hx : x ≠ 0#64) : Lib.ctz 64 x.toNat < 64 ∧ x.getLsbD (Lib.ctz 64 x.toNat) = true ∧ ∀ j, j < Lib.ctz 64 x.toNat → x.getLsbD j = false := by
  have h0 : x.toNat ≠ 0 := fun e => hx (BitVec.eq_of_toNat_eq (by simpa using e))
  obtain ⟨m, hm, hl⟩ := Lib.ctzFrom_spec 64 x.toNat (by omega) x.isLt
  have e : Lib.ctz 64 x.toNat = Lib.ctzFrom 64 x.toNat := by unfold Lib.ctz; rw [if_neg h0]
  rw [e]
  generalize Lib.ctzFrom 64 x.toNat = c at hm hl
  refine ⟨hl, ?_, fun j hj => ?_⟩
  · rw [← BitVec.testBit_toNat, hm, Nat.mul_comm, Nat.testBit_mul_two_pow]
    simp [Nat.testBit_zero]
  · rw [← BitVec.testBit_toNat, hm, Nat.mul_comm, Nat.testBit_mul_two_pow]
    simp; omega
def nextG (ws : List (BitVec 64)) (i : Nat) : Option Nat := (List.range 1024).find? fun n => decide (64 * i ≤ n) && memW ws n
theorem nextG_hit {ws : List (BitVec 64)} {i : Nat} (hi : i < 16) (hx : ws.getD i 0#64 ≠ 0#64) : nextG ws i = some (64 * i + Lib.ctz 64 (ws.getD i 0#64).toNat) := by
  obtain ⟨h1, h2, h3⟩ := ctz_spec hx
  refine find_some (by omega) ?_ fun j hj => ?_
  · rw [Bool.and_eq_true]
    refine ⟨decide_eq_true (by omega), ?_⟩
    unfold memW
    rw [show (64 * i + Lib.ctz 64 (ws.getD i 0#64).toNat) / 64 = i by omega, show (64 * i + Lib.ctz 64 (ws.getD i 0#64).toNat) % 64 = Lib.ctz 64 (ws.getD i 0#64).toNat by omega]
    exact h2
  · by_cases hij : 64 * i ≤ j
    · have e1 : j / 64 = i := by omega
      unfold memW
      rw [e1, h3 (j % 64) (by omega), Bool.and_false]
    · rw [decide_eq_false hij, Bool.false_and]
theorem nextG_miss {ws : List (BitVec 64)} {i : Nat} (hx : ws.getD i 0#64 = 0#64) : nextG ws i = nextG ws (i + 1) := by
  refine find_congr fun j _ => ?_
  by_cases e : j / 64 = i
  · have : memW ws j = false := by unfold memW; rw [e, hx]; simp
    rw [this, Bool.and_false, Bool.and_false]
  · congr 1
    rw [Bool.eq_iff_iff, decide_eq_true_eq, decide_eq_true_eq]
    omega
theorem nextG_end {ws : List (BitVec 64)} : nextG ws 16 = none := find_none fun j hj => by rw [decide_eq_false (by omega), Bool.false_and]
def maskW (ws : List (BitVec 64)) (k : Nat) : List (BitVec 64) := ws.set (k / 64) (ws.getD (k / 64) 0#64 &&& (18446744073709551615#64 <<< (k % 64)))
theorem ones_get {k : Nat} (hk : k < 64) : (18446744073709551615#64).getLsbD k = true := by
  have : 18446744073709551615#64 = BitVec.allOnes 64 := by decide
  rw [this, BitVec.getLsbD_allOnes, decide_eq_true hk]
theorem nextW_mask {ws : List (BitVec 64)} (hl : ws.length = 16) {k : Nat} (hk : k < 1024) : nextW ws k = nextG (maskW ws k) (k / 64) := by
  refine find_congr fun j hj => ?_
  have hlt : k / 64 < ws.length := by omega
  unfold memW maskW
  by_cases e : j / 64 = k / 64
  · rw [e, List.getD_eq_getElem?_getD (l := ws.set _ _), List.getElem?_set_self hlt]
    simp only [Option.getD_some, BitVec.getLsbD_and, BitVec.getLsbD_shiftLeft]
    cases (ws.getD (k / 64) 0#64).getLsbD (j % 64) with
    | false => simp
    | true =>
      rw [Bool.and_true, Bool.true_and, decide_eq_true (p := 64 * (k / 64) ≤ j) (by omega), Bool.true_and, decide_eq_true (p := j % 64 < 64) (by omega), Bool.true_and]
      by_cases hkj : k ≤ j
      · rw [decide_eq_true hkj, decide_eq_false (p := j % 64 < k % 64) (by omega), ones_get (by omega)]; rfl
      · rw [decide_eq_false hkj, decide_eq_true (p := j % 64 < k % 64) (by omega)]; rfl
  · rw [List.getD_eq_getElem?_getD (l := ws.set _ _), List.getElem?_set_ne (by omega), ← List.getD_eq_getElem?_getD]
    congr 1
    rw [Bool.eq_iff_iff, decide_eq_true_eq, decide_eq_true_eq]
    omega
theorem w_zero (x : BitVec 64) : (((x.toNat : Nat) : Int) != 0) = !decide (x = 0#64) := by
  rw [Bool.eq_iff_iff]
  simp only [bne_iff_ne, ne_eq, Bool.not_eq_true', decide_eq_false_iff_not]
  constructor
  · intro h e; apply h; rw [e]; rfl
  · intro h e; apply h; apply BitVec.eq_of_toNat_eq; simpa using e
theorem next_l1 {h0 : Heap} {r : Nat} {ws : List (BitVec 64)} (hl : ws.length = 16) (hr0 : h0 r = none) (hr : h = h0.set r (.row 16 [.agg (ws.map wV)])) :
    ∀ d i : Nat, i + d = 16 → K (nextR (nextG ws i)) h0 → s83l1 K (d + 1) (.ptr r 0 0) (i : Int) h
  | 0, i, hd, hk => by
    obtain rfl : i = 16 := by omega
    unfold s83l1
    rw [nextG_end] at hk
    refine ifT_neg (by decide) ?_
    rw [hr]
    exact retG_drop (Heap.set_sub hr0) hk
  | d + 1, i, hd, hk => by
    have hi : i < 16 := by omega
    have hget : h r = some (.row 16 [.agg (ws.map wV)]) := by rw [hr, Heap.set_same]
    unfold s83l1
    refine ifT_pos (decide_eq_true (by omega)) (ixP_w hi ?_)
    rw [ld1_fld hget (ws_get hl hi), wV, tInt_int, w_zero]
    by_cases hx : ws.getD i 0#64 = 0#64
    · rw [decide_eq_true hx]
      refine ifT_neg rfl (rg_of (by omega) (by omega) (s83l1_go ?_))
      rw [nextG_miss hx] at hk
      exact next_l1 hl hr0 hr d (i + 1) (by omega) hk
    · rw [decide_eq_false hx]
      refine ifT_pos rfl (rg_of (by omega) (by omega) (ixP_w hi ?_))
      rw [ld1_fld hget (ws_get hl hi), wV, tInt_int]
      refine callG_of (tz_ok (ws.getD i 0#64).isLt ?_)
      rw [tInt_int]
      rw [nextG_hit hi hx] at hk
      have := (ctz_spec hx).1
      refine rg_of (by omega) (by omega) ?_
      rw [hr]
      refine retG_drop (Heap.set_sub hr0) ?_
      have e : (64 * (i : Int)) + ((Lib.ctz 64 (ws.getD i 0#64).toNat : Nat) : Int) = ((64 * i + Lib.ctz 64 (ws.getD i 0#64).toNat : Nat) : Int) := by push_cast; rfl
      rw [e]
      exact hk
theorem next_ok {v : AVal} {ws : List (BitVec 64)} (B : BitsV v ws) (n : Int) (hk : K (nextR (nextW ws n.toNat)) h) : ACalls prog 83 [v, .int .i64 n] h K := by
  refine s83_ok ?_
  unfold s83
  refine B.agg _ (newRow_in fun r hr => ?_)
  have hn : max n 0 = ((n.toNat : Nat) : Int) := by omega
  rw [hn]
  generalize n.toNat = k at hk ⊢
  rw [B.eq]
  refine callG_of (inside_ok ?_)
  rw [tBool_bool]
  by_cases hlt : k < 1024
  · refine ifT_neg (by rw [decide_eq_true (by omega)]; rfl) ⟨by decide, ?_⟩
    have e1 : Int.tdiv (k : Int) 64 = ((k / 64 : Nat) : Int) := rfl
    have e2 : Int.tmod (k : Int) 64 = ((k % 64 : Nat) : Int) := rfl
    rw [e1, e2]
    refine rg_of (by omega) (by omega) (ixP_w (by omega) ?_)
    rw [ld1_fld (Heap.set_same _ _ _) (ws_get B.len (by omega)), wV, tInt_int]
    refine ⟨by decide, by omega, ixP_w (by omega) (st_fld (Heap.set_same _ _ _) (by simp [B.len]; omega) ?_)⟩
    rw [Heap.set_set]
    refine ⟨by decide, rg_of (by omega) (by omega) (s83l1_in (16 - k / 64 + 1) ?_)⟩
    have e3 : (18446744073709551615 : Int) = (((18446744073709551615#64).toNat : Nat) : Int) := by decide
    rw [nextW_mask B.len hlt] at hk
    refine next_l1 (ws := maskW ws k) (by simp [maskW, B.len]) hr ?_ (16 - k / 64) (k / 64) (by omega) hk
    rw [e3, w_shl _ (by omega), w_and]
    unfold maskW
    rw [← ws_set]
    rfl
  · refine ifT_pos (by rw [decide_eq_false (by omega)]; rfl) (retG_drop (Heap.set_sub hr) ?_)
    have : nextW ws k = none := find_none fun j hj => by rw [decide_eq_false (by omega), Bool.false_and]
    rw [this] at hk
    exact hk
/- ---- the numbers of a set, one by one ---- -/
theorem all_l1 {l : Nat} {ws : List (BitVec 64)} (hl : ws.length = 16) {I : Nat → Heap → Prop} {X : Heap → Prop}
    (round : ∀ i (hi : i < (listW ws).length) h1, I i h1 → ARound prog l [.int .i64 (((listW ws)[i] : Nat) : Int)] h1 fun v h2 => (v = .bool true ∧ I (i + 1) h2) ∨ (v = .bool false ∧ X h2))
    (done : ∀ v h', I (listW ws).length h' → K v h') (stop : ∀ v h', X h' → K v h') :
    ∀ d i : Nat, i + d = (listW ws).length → ∀ o : Option Nat, o = (listW ws)[i]? → ∀ h, I i h → s119l1 K (d + 1) (.func (.yield l) [] []) (.lptr (ws.map wV)) ((o.getD 0 : Nat) : Int) o.isSome h
  | 0, i, hd, o, ho, h, hI => by
    obtain rfl : i = (listW ws).length := by omega
    rw [List.getElem?_eq_none (Nat.le_refl _)] at ho
    subst ho
    unfold s119l1
    exact ifT_neg rfl (retG_of (done _ _ hI))
  | d + 1, i, hd, o, ho, h, hI => by
    have hi : i < (listW ws).length := by omega
    rw [List.getElem?_eq_getElem hi] at ho
    subst ho
    have hlt := listW_lt (List.getElem_mem hi)
    unfold s119l1
    refine ifT_pos rfl ?_
    show ARound prog l [.int .i64 (((listW ws)[i] : Nat) : Int)] h _
    refine (round i hi h hI).mono fun v h2 hv => ?_
    rcases hv with ⟨rfl, hI2⟩ | ⟨rfl, hX⟩
    · rw [tBool_bool]
      refine ifT_neg rfl ?_
      rw [ldN_lptr _ _ _ _ (by simp [hl]), List.take_of_length_le (by simp [hl])]
      refine rg_of (by simp only [Option.getD_some]; omega) (by simp only [Option.getD_some]; omega) (callG_of (next_ok ⟨rfl, hl⟩ _ ?_))
      have e : ((((some (listW ws)[i]).getD 0 : Nat) : Int) + 1).toNat = (listW ws)[i] + 1 := by simp only [Option.getD_some]; omega
      rw [e, next_succ ws hi]
      have rest := all_l1 hl round done stop d (i + 1) (by omega) _ rfl h2 hI2
      cases ho2 : (listW ws)[i + 1]? with
      | none =>
        rw [ho2] at rest
        unfold nextR
        rw [tTup_tuple, tCons_cons, tInt_int, tCons_cons, tBool_bool, tNil_nil]
        exact s119l1_go rest
      | some m =>
        rw [ho2] at rest
        unfold nextR
        rw [tTup_tuple, tCons_cons, tInt_int, tCons_cons, tBool_bool, tNil_nil]
        exact s119l1_go rest
    · rw [tBool_bool]
      exact ifT_pos rfl (retG_of (stop _ _ hX))
theorem allBits {ws : List (BitVec 64)} (hl : ws.length = 16) : IterOK 119 [] [.lptr (ws.map wV)] ((listW ws).map fun n : Nat => [.int .i64 (n : Int)]) := by
  intro l h I X K hI round done stop
  refine s119_ok ?_
  unfold s119
  rw [ldN_lptr _ _ _ _ (by simp [hl]), List.take_of_length_le (by simp [hl])]
  refine callG_of (next_ok ⟨rfl, hl⟩ _ ?_)
  rw [show (0 : Int).toNat = 0 from rfl, next_zero]
  have rest := all_l1 (K := K) (l := l) hl (I := I) (X := X) (fun i hi h1 hI1 => by have := round i (by simpa using hi) h1 hI1; rw [List.getElem_map] at this; exact this) (fun v h' hI' => done v h' (by simpa using hI')) stop (listW ws).length 0 (by omega) _ rfl h hI
  cases ho : (listW ws)[0]? with
  | none =>
    rw [ho] at rest
    unfold nextR
    rw [tTup_tuple, tCons_cons, tInt_int, tCons_cons, tBool_bool, tNil_nil]
    exact s119l1_in _ rest
  | some m =>
    rw [ho] at rest
    unfold nextR
    rw [tTup_tuple, tCons_cons, tInt_int, tCons_cons, tBool_bool, tNil_nil]
    exact s119l1_in _ rest
theorem bitsList_ok {v : AVal} {ws : List (BitVec 64)} (B : BitsV v ws) (hk : ∀ u, Ints u (natI (listW ws)) → K u h) : ACalls prog 47 [v] h K := by
  refine s47_ok ?_
  unfold s47
  refine B.agg _ (newRow_in fun r hr => ?_)
  rw [ldN_lptr _ _ _ _ (by simp [B.len]), List.take_of_length_le (by simp [B.len])]
  refine callG_of (s84_ok ?_)
  unfold s84
  refine BitsV.agg (v := .agg (ws.map wV)) ⟨rfl, B.len⟩ _ (retG_of ?_)
  have hlen := listW_len ws
  have hsub : ∀ i, ((listW ws).take i).length ≤ 1024 := fun i => by rw [List.length_take]; omega
  refine rng_own (allBits B.len) (h0 := h) (D := Nat × AVal) (fun i d => d.1 = i) (fun _ _ => False) (fun d => [.slc 1 d.2 ((natI ((listW ws).take d.1)).map (.int .i64)), .cell r (.row 1 [d.2])]) (d0 := (0, .nilsl)) rfl ?_ (fun y hy => ?_) ?_ ?_ ?_
  · exact ((Own.start h).newN 1).newC hr _
  · obtain ⟨n, _, rfl⟩ := List.mem_map.1 hy
    rfl
  · rintro i hi ⟨j, u⟩ hb hb' h1 h1' mid R rfl _ _ _ M hmid norm _
    have hi' : j < (listW ws).length := by simpa using hi
    rw [List.getElem_map]
    show s47b1 (.ptr r 0 0) (.func (.func 119) [] [.lptr (ws.map wV)]) (((listW ws)[j] : Nat) : Int) h1 mid R
    unfold s47b1
    refine hmid _ ?_
    have M : Own hb' [.slc 1 u ((natI ((listW ws).take j)).map (.int .i64)), .cell r (.row 1 [u])] h1' := M
    have hg := M.get 1 _ r rfl rfl
    rw [ld1_one hg (M.sc (i := 0) rfl).2.2]
    have hl2 : ((natI ((listW ws).take j)).map (AVal.int .i64)).length ≤ 1024 := by simpa [natI] using hsub j
    refine Own.app M (i := 0) rfl (by omega) (by omega) fun v3 h3 M3 => chk_iff.2 ⟨(M3.sc (i := 0) rfl).1, ?_⟩
    refine st_elem (M3.get 1 _ r rfl rfl) rfl (M.sc (i := 0) rfl).2.2 ?_
    refine norm (j + 1, v3) _ rfl ?_
    have M4 := M3.put (i := 1) rfl (.row 1 [v3])
    have e : (natI ((listW ws).take (j + 1))).map (AVal.int .i64) = (natI ((listW ws).take j)).map (AVal.int .i64) ++ [.int .i64 (((listW ws)[j] : Nat) : Int)] := by
      rw [List.take_succ_eq_append_getElem hi', natI, natI, List.map_append, List.map_append]
      rfl
    simp only [e]
    exact M4
  · rintro ⟨j, u⟩ h2 hj M
    simp only [List.length_map] at hj
    subst hj
    rw [List.take_of_length_le (Nat.le_refl _)] at M
    rw [ld1_one (M.get 1 _ r rfl rfl) (M.sc (i := 0) rfl).2.2]
    obtain ⟨v', lv, sv⟩ := M.lit (i := 0) rfl (S := nameOf u) (fun _ h => h) (Lits.refl _)
    exact ⟨nameOf u, v', h, lv, base_step M _ (fun n hn => M.new 0 _ n rfl hn), hk v' sv⟩
  · rintro e d h2 hx
    exact hx.elim
end Go.Proofs.YtaopdcjjcpgebaaGreatDoor

namespace Go.Proofs.YtaopdcjjcpgebaaGreatDoor
open Go Go.Sym Go.Proofs.Tryz
variable {K : AVal → Heap → Prop} {h h0 hb : Heap}
theorem Own.rd {os : List Ow} (O : Own hb os h) {j : Nat} {v : AVal} {l : List AVal} (hj : os[j]? = some (.slc 1 v l)) {i : Nat} {x : AVal} (hi : l[i]? = some x) (ha : x.isAgg = false) {X : AVal → Prop} (hX : X x) : ixS 1 v (i : Int) fun p => ld1 h p X := by
  have hlt := (List.getElem?_eq_some_iff.1 hi).1
  rcases O.fit j _ hj with ⟨_, e⟩ | ⟨r, rfl⟩
  · rw [e] at hlt; simp at hlt
  · refine ixS_sl0 hlt ?_
    rw [ld1_ptr (O.get j _ r hj rfl) hi ha]
    exact hX
theorem Own.wr {os : List Ow} (O : Own hb os h) {j : Nat} {v : AVal} {l : List AVal} (hj : os[j]? = some (.slc 1 v l)) {i : Nat} {x y : AVal} (hi : l[i]? = some x) (ha : x.isAgg = false) {X : Heap → Prop} (hX : ∀ h', Own hb (os.set j (.slc 1 v (l.set i y))) h' → X h') : ixS 1 v (i : Int) fun p => st true h p [y] X := by
  have hlt := (List.getElem?_eq_some_iff.1 hi).1
  rcases O.fit j _ hj with ⟨_, e⟩ | ⟨r, rfl⟩
  · rw [e] at hlt; simp at hlt
  · refine ixS_sl0 hlt ?_
    have hr := O.get j _ r hj rfl
    refine st_elem hr hi ha ?_
    exact hX _ (O.putS hj (by simp))
theorem Own.pick {os os' : List Ow} (M : Own hb os h) (p : List Nat) (hp : p.Nodup) (he : p.map (fun i => os[i]?) = os'.map some) : Own hb os' h := by
  have hl : p.length = os'.length := by simpa using congrArg List.length he
  refine M.renum os' (fun j => p.getD j 0) (fun j y e => ?_) (fun j hj k hk e => ?_)
  · have hj := (List.getElem?_eq_some_iff.1 e).1
    have := congrArg (fun l => l[j]?) he
    simp only [List.getElem?_map, e, Option.map_some] at this
    rw [List.getElem?_eq_getElem (show j < p.length by omega), Option.map_some] at this
    have h2 := Option.some.inj this
    rw [List.getD_eq_getElem?_getD, List.getElem?_eq_getElem (show j < p.length by omega)]
    exact h2
  · rw [List.getD_eq_getElem?_getD, List.getD_eq_getElem?_getD, List.getElem?_eq_getElem (show j < p.length by omega), List.getElem?_eq_getElem (show k < p.length by omega)] at e
    have hp2 := List.pairwise_iff_getElem.1 hp
    simp only [Option.getD_some] at e
    rcases Nat.lt_trichotomy j k with hlt | heq | hgt
    · exact absurd e (hp2 j k (by omega) (by omega) hlt)
    · exact heq
    · exact absurd e.symm (hp2 k j (by omega) (by omega) hgt)
theorem Own.deep {q : Nat} {o : AObj} {os : List Ow} (M : Own hb (.cell q o :: os) h) : Own (hb.set q o) os h := by
  refine ⟨fun i y e => M.fit (i + 1) y e, fun i y n e e1 => M.get (i + 1) y n e e1, fun i y n e e1 => ?_, fun i j y z n e e' h1 h2 => by have := M.one (i + 1) (j + 1) y z n e e' h1 h2; omega, fun p o' e => ?_⟩
  · have hne : n ≠ q := fun e2 => by
      have := M.one 0 (i + 1) _ y n rfl e e2 e1
      omega
    rw [Heap.set_other _ _ hne]
    exact M.new (i + 1) y n e e1
  · simp only [Heap.set] at e
    split at e
    · rename_i e2
      subst e2
      cases e
      exact M.get 0 _ p rfl rfl
    · exact M.old _ _ e
theorem Own.litLast {os : List Ow} {es : Nat} {v : AVal} {l : List AVal} (M : Own hb (os ++ [.slc es v l]) h) : ∃ S h' v', Go.Sym.Lit h S v v' ∧ SlOf es v' l ∧ Go.Sym.GStep h h' S ∧ Own hb os h' := by
  have hl : (os ++ [Ow.slc es v l])[os.length]? = some (.slc es v l) := by simp
  obtain ⟨v', hv, hs⟩ := M.lit hl (S := nameOf v) (fun _ h => h) (Lits.refl l)
  obtain ⟨h', g, M'⟩ := M.step (nameOf v) os (fun n hn => M.new _ _ n hl hn) (fun j y' hj => by
    have hj2 := (List.getElem?_eq_some_iff.1 hj).1
    have hj' : (os ++ [Ow.slc es v l])[j]? = some y' := by rw [List.getElem?_append_left hj2]; exact hj
    exact ⟨y', hj', M.fit _ _ hj', fun n hn => ⟨hn, fun hm => by have := M.one j os.length y' _ n hj' hl hn hm; omega⟩, .refl _⟩)
  exact ⟨_, h', v', hv, hs, g, M'⟩
theorem Own.settleAt {os : List Ow} {es es' i k : Nat} {v w : AVal} {l L : List AVal} (M : Own hb (os ++ [.slc es v l]) h) (hi : os[i]? = some (.slc es' w L)) (hk : L[k]? = some v) :
    ∃ S h' v', SlOf es v' l ∧ Go.Sym.GStep h h' S ∧ Own hb (os.set i (.slc es' w (L.set k v'))) h' := by
  have hl : (os ++ [Ow.slc es v l])[os.length]? = some (.slc es v l) := by simp
  have hlt := (List.getElem?_eq_some_iff.1 hi).1
  have hi' : (os ++ [Ow.slc es v l])[i]? = some (.slc es' w L) := by rw [List.getElem?_append_left hlt]; exact hi
  obtain ⟨v', hv, hs⟩ := M.lit hl (S := nameOf v) (fun _ h => h) (Lits.refl l)
  have no : ∀ (j : Nat) (y : Ow), j < os.length → (os ++ [Ow.slc es v l])[j]? = some y → ∀ n, y.nm n → ¬ nameOf v n := fun j y hj hy n hn hm => by
    have := M.one j os.length y _ n hy hl hn hm
    omega
  obtain ⟨h', g, M'⟩ := M.step (nameOf v) (os.set i (.slc es' w (L.set k v'))) (fun n hn => M.new _ _ n hl hn) (fun j y' hj => by
    rw [List.getElem?_set] at hj
    split at hj
    · rename_i e
      subst e
      cases hj
      refine ⟨_, hi', ?_, fun n hn => ⟨hn, no _ _ hlt hi' n hn⟩, .row (Lits.set hk hv)⟩
      have := M.fit _ _ hi'
      simpa [Ow.fit] using this
    · have hj2 := (List.getElem?_eq_some_iff.1 hj).1
      have hj' : (os ++ [Ow.slc es v l])[j]? = some y' := by rw [List.getElem?_append_left hj2]; exact hj
      exact ⟨y', hj', M.fit _ _ hj', fun n hn => ⟨hn, no _ _ hj2 hj' n hn⟩, .refl _⟩)
  exact ⟨_, h', v', hs, g, M'⟩
theorem Own.settleC {os : List Ow} {es es' i r : Nat} {v : AVal} {l : List AVal} (M : Own hb (os ++ [.slc es v l]) h) (hi : os[i]? = some (.cell r (.row es' [v]))) :
    ∃ S h' v', SlOf es v' l ∧ Go.Sym.GStep h h' S ∧ Own hb (os.set i (.cell r (.row es' [v']))) h' := by
  have hl : (os ++ [Ow.slc es v l])[os.length]? = some (.slc es v l) := by simp
  have hlt := (List.getElem?_eq_some_iff.1 hi).1
  have hi' : (os ++ [Ow.slc es v l])[i]? = some (.cell r (.row es' [v])) := by rw [List.getElem?_append_left hlt]; exact hi
  obtain ⟨v', hv, hs⟩ := M.lit hl (S := nameOf v) (fun _ h => h) (Lits.refl l)
  have no : ∀ (j : Nat) (y : Ow), j < os.length → (os ++ [Ow.slc es v l])[j]? = some y → ∀ n, y.nm n → ¬ nameOf v n := fun j y hj hy n hn hm => by
    have := M.one j os.length y _ n hy hl hn hm
    omega
  obtain ⟨h', g, M'⟩ := M.step (nameOf v) (os.set i (.cell r (.row es' [v']))) (fun n hn => M.new _ _ n hl hn) (fun j y' hj => by
    rw [List.getElem?_set] at hj
    split at hj
    · rename_i e
      subst e
      cases hj
      exact ⟨_, hi', trivial, fun n hn => ⟨hn, no _ _ hlt hi' n hn⟩, .row (.cons hv .nil)⟩
    · have hj2 := (List.getElem?_eq_some_iff.1 hj).1
      have hj' : (os ++ [Ow.slc es v l])[j]? = some y' := by rw [List.getElem?_append_left hj2]; exact hj
      exact ⟨y', hj', M.fit _ _ hj', fun n hn => ⟨hn, no _ _ hj2 hj' n hn⟩, .refl _⟩)
  exact ⟨_, h', v', hs, g, M'⟩
end Go.Proofs.YtaopdcjjcpgebaaGreatDoor

namespace Go.Proofs.YtaopdcjjcpgebaaGreatDoor
open Go Go.Sym Go.Proofs.Tryz
variable {K : AVal → Heap → Prop} {h : Heap}
def fine1 (l : List ByteArray) (i : Nat) : Bool := wordB (l.getD i ByteArray.empty) && (i == 0 || strLt (l.getD (i - 1) ByteArray.empty) (l.getD i ByteArray.empty))
def fineB (l : List ByteArray) : Bool := (List.range' 0 l.length).all (fine1 l)
def inS (l : List ByteArray) (s : ByteArray) : Bool := l.any fun x => decide (x = s)
theorem inS_iff {l : List ByteArray} {s : ByteArray} : inS l s = true ↔ s ∈ l := by
  unfold inS
  rw [List.any_eq_true]
  constructor
  · rintro ⟨x, hx, he⟩; rwa [← of_decide_eq_true he]
  · exact fun hx => ⟨s, hx, decide_eq_true rfl⟩
theorem idxS_loop {v : AVal} {l : List ByteArray} {s : ByteArray} (hv : Strs v l) (hm : l.length ≤ 1073741824) (hk : ∀ n : Int, (0 ≤ n ↔ s ∈ l) → K (.int .i64 n) h) : ∀ d i : Nat, i + d = l.length → s ∉ l.take i →
    s104l1 K (d + 1) v s (l.length : Int) (i : Int) h
  | 0, i, hd, hn => by
    unfold s104l1
    refine ifT_neg (by simp; omega) (retG_of (hk _ ?_))
    rw [List.take_of_length_le (by omega)] at hn
    simp [hn]
  | d + 1, i, hd, hn => by
    have hi : i < l.length := by omega
    unfold s104l1
    refine ifT_pos (by simp; omega) ?_
    rw [hv.ix hi, ld1_lptr, tStr_str, strEq_dec]
    by_cases he : s = l[i]
    · exact ifT_pos (by simpa using he) (retG_of (hk _ ⟨fun _ => he ▸ List.getElem_mem hi, fun _ => by omega⟩))
    · refine ifT_neg (by simpa using he) (rg_of (by omega) (by omega) (s104l1_go (idxS_loop hv hm hk d (i + 1) (by omega) ?_)))
      rw [List.take_succ_eq_append_getElem hi]
      intro hx
      rcases List.mem_append.1 hx with hx | hx
      · exact hn hx
      · exact he (List.mem_singleton.1 hx)
theorem containsS_ok {v : AVal} {l : List ByteArray} {s : ByteArray} (hv : Strs v l) (hm : l.length ≤ 1073741824) (hk : K (.bool (inS l s)) h) : ACalls prog 74 [v, .str s] h K := by
  refine s74_ok (callG_of (s104_ok ?_))
  unfold s104
  rw [hv.len]
  refine s104l1_in (l.length + 1) (idxS_loop hv hm (fun n hn => ?_) l.length 0 (by omega) (by simp))
  rw [tInt_int]
  refine retG_of ?_
  rwa [show decide (0 ≤ n) = inS l s by rw [Bool.eq_iff_iff, inS_iff]; simpa using hn]
theorem idxFS_loop {v f : AVal} {l : List ByteArray} {p : ByteArray → Bool} (hv : Strs v l) (hm : l.length ≤ 1073741824)
    (hf : ∀ s ∈ l, ∀ K : AVal → Heap → Prop, K (.bool (p s)) h → callV prog f [.str s] h K) (hk : ∀ n : Int, (0 ≤ n ↔ ∃ s ∈ l, p s = true) → K (.int .i64 n) h) : ∀ d i : Nat, i + d = l.length → (∀ s ∈ l.take i, p s = false) →
    s157l1 K (d + 1) v f (l.length : Int) (i : Int) h
  | 0, i, hd, hn => by
    unfold s157l1
    refine ifT_neg (by simp; omega) (retG_of (hk _ ?_))
    rw [List.take_of_length_le (by omega)] at hn
    constructor
    · intro h0; omega
    · rintro ⟨s, hs, hp⟩; rw [hn s hs] at hp; cases hp
  | d + 1, i, hd, hn => by
    have hi : i < l.length := by omega
    unfold s157l1
    refine ifT_pos (by simp; omega) ?_
    rw [hv.ix hi, ld1_lptr, tStr_str]
    refine hf _ (List.getElem_mem hi) _ ?_
    rw [tBool_bool]
    cases he : p l[i] with
    | true => exact ifT_pos rfl (retG_of (hk _ ⟨fun _ => ⟨_, List.getElem_mem hi, he⟩, fun _ => by omega⟩))
    | false =>
      refine ifT_neg rfl (rg_of (by omega) (by omega) (s157l1_go (idxFS_loop hv hm hf hk d (i + 1) (by omega) ?_)))
      rw [List.take_succ_eq_append_getElem hi]
      intro s hs
      rcases List.mem_append.1 hs with hs | hs
      · exact hn s hs
      · simp at hs; rw [hs, he]
theorem containsFS_ok {v f : AVal} {l : List ByteArray} {p : ByteArray → Bool} (hv : Strs v l) (hm : l.length ≤ 1073741824)
    (hf : ∀ s ∈ l, ∀ K : AVal → Heap → Prop, K (.bool (p s)) h → callV prog f [.str s] h K) (hk : K (.bool (l.any p)) h) : ACalls prog 132 [v, f] h K := by
  refine s132_ok (callG_of (s157_ok ?_))
  unfold s157
  rw [hv.len]
  refine s157l1_in (l.length + 1) (idxFS_loop hv hm hf (fun n hn => ?_) l.length 0 (by omega) (by simp))
  rw [tInt_int]
  refine retG_of ?_
  rwa [show decide (0 ≤ n) = l.any p by rw [Bool.eq_iff_iff]; simpa using hn]
theorem getD_of {l : List ByteArray} {i : Nat} (hi : i < l.length) : l.getD i ByteArray.empty = l[i] := by simp [List.getD, hi]
theorem rising_loop {v : AVal} {l : List ByteArray} (hv : Strs v l) (hm : SB l) : ∀ d i : Nat, i + d = l.length → K (.bool ((List.range' i d).all (fine1 l))) h → s131l1 K (d + 1) v v (l.length : Int) (i : Int) h
  | 0, i, hd, hk => by
    unfold s131l1
    exact ifT_neg (by simp; omega) (retG_of (by simpa using hk))
  | d + 1, i, hd, hk => by
    have hi : i < l.length := by omega
    have hl := hm.1
    unfold s131l1
    refine ifT_pos (by simp; omega) ?_
    rw [hv.ix hi, ld1_lptr, tStr_str]
    refine callG_of (word_ok _ (hm.2 _ (List.getElem_mem hi)) ?_)
    rw [tBool_bool]
    rw [List.range'_succ, List.all_cons] at hk
    have rest : fine1 l i = true → s131c2 K (s131l1_G (s131l1 K (d + 1))) v v l.length i false h := by
      intro hg
      rw [hg] at hk
      exact ifT_neg rfl (rg_of (by omega) (by omega) (s131l1_go (rising_loop hv hm d (i + 1) (by omega) (by simpa using hk))))
    have stop : fine1 l i = false → s131c2 K (s131l1_G (s131l1 K (d + 1))) v v l.length i true h := by
      intro hg
      rw [hg] at hk
      exact ifT_pos rfl (retG_of (by simpa using hk))
    unfold fine1 at rest stop
    rw [getD_of hi] at rest stop
    cases hw : wordB l[i] with
    | false => exact ifT_pos rfl (stop (by rw [hw]; rfl))
    | true =>
      rw [hw, Bool.true_and] at rest stop
      refine ifT_neg rfl ?_
      by_cases h0 : 0 < i
      · refine ifT_pos (by simp; omega) (rg_of (by omega) (by omega) ?_)
        have hi1 : i - 1 < l.length := by omega
        rw [show (i : Int) - 1 = ((i - 1 : Nat) : Int) by omega, hv.ix hi1, ld1_lptr, tStr_str]
        rw [getD_of hi1, show (i == 0) = false by simp; omega, Bool.false_or] at rest stop
        cases hs : strLt l[i - 1] l[i] with
        | true => exact rest hs
        | false => exact stop hs
      · obtain rfl : i = 0 := by omega
        exact ifT_neg (by simp) (rest (by simp))
theorem rising_ok {v : AVal} {l : List ByteArray} (hv : Strs v l) (hm : SB l) (hk : K (.bool (fineB l)) h) : ACalls prog 131 [v] h K := by
  refine s131_ok ?_
  unfold s131
  rw [hv.len]
  exact s131l1_in (l.length + 1) (rising_loop hv hm l.length 0 (by omega) hk)
end Go.Proofs.YtaopdcjjcpgebaaGreatDoor

namespace Go.Proofs.YtaopdcjjcpgebaaGreatDoor
open Go Go.Sym Go.Proofs.Tryz
variable {K : AVal → Heap → Prop}
def Step (up : List (List Int)) (a b : Nat) : Prop := ∃ r, up[a]? = some r ∧ (b : Int) ∈ r
inductive Reach (up : List (List Int)) (a : Nat) : Nat → Prop
  | refl : Reach up a a
  | tail {b c : Nat} (h : Reach up a b) (hs : Step up b c) : Reach up a c
theorem Reach.trans {up : List (List Int)} {a b c : Nat} (h : Reach up a b) (h' : Reach up b c) : Reach up a c := by
  induction h' with
  | refl => exact h
  | tail _ hs ih => exact .tail ih hs
def InR (up : List (List Int)) : Prop := ∀ r ∈ up, ∀ b ∈ r, 0 ≤ b ∧ b < up.length
theorem Reach.lt {up : List (List Int)} (hi : InR up) {a b : Nat} (h : Reach up a b) (ha : a < up.length) : b < up.length := by
  cases h with
  | refl => exact ha
  | tail _ hs =>
    obtain ⟨r, hr, hb⟩ := hs
    have := hi r (List.mem_of_getElem? hr) _ hb
    omega
open Classical in
noncomputable def rb (up : List (List Int)) (a b : Nat) : Bool := decide (Reach up a b)
theorem rb_iff {up : List (List Int)} {a b : Nat} : rb up a b = true ↔ Reach up a b := by unfold rb; simp
noncomputable def rowB (up : List (List Int)) (a : Nat) : List Bool := (List.range up.length).map (rb up a)
def OTab (v : AVal) (up : List (List Int)) : Prop := ∃ rows, SlOf 1 v rows ∧ rows.length = up.length ∧ ∀ a, a < up.length → ∃ e, rows[a]? = some e ∧ e.isAgg = false ∧ SlOf 1 e ((rowB up a).map .bool)
theorem OTab.len {v : AVal} {up : List (List Int)} (h : OTab v up) (K : Int → Prop) : lenN v K = K up.length := by
  obtain ⟨rows, h1, h2, _⟩ := h
  rw [lenN_of h1, h2]
theorem cells_of_notAgg {e : AVal} (h : e.isAgg = false) : cellsOf e = [e] := by cases e <;> first | rfl | cases h
theorem OTab.row {v : AVal} {up : List (List Int)} (h : OTab v up) {a : Nat} (ha : a < up.length) {h' : Heap} : ∃ e, (∀ K : AVal → Prop, (ixS 1 v (a : Int) fun p => ld1 h' p K) = K e) ∧
    (∀ K : Int → Prop, lenN e K = K up.length) ∧ ∀ b, b < up.length → ∀ K : AVal → Prop, (ixS 1 e (b : Int) fun p => ld1 h' p K) = K (.bool (rb up a b)) := by
  obtain ⟨rows, h1, h2, h3⟩ := h
  obtain ⟨e, he, hn, hr⟩ := h3 a ha
  refine ⟨e, fun K => ?_, fun K => ?_, fun b hb K => ?_⟩
  · rw [ixS_nat h1 he, cells_of_notAgg hn, ld1_lptr]
  · rw [lenN_of hr]; simp [rowB]
  · rw [ixS_nat hr (e := .bool (rb up a b)) (by simp [rowB, hb])]; rfl
/- ---------------- a search for all that is above ---------------- -/
structure BF (up : List (List Int)) (a : Nat) (marks : List Bool) (W : List Nat) : Prop where
  len : marks.length = up.length
  cnt : W.length + marks.count false = up.length
  reach : ∀ x ∈ W, x < up.length ∧ Reach up a x
  mkd : ∀ x, marks[x]? = some true ↔ x ∈ W
theorem BF.add {up : List (List Int)} {a b : Nat} {marks : List Bool} {W : List Nat} (B : BF up a marks W) (hb : marks[b]? = some false) (hr : Reach up a b) : BF up a (marks.set b true) (W ++ [b]) := by
  have hlt : b < marks.length := (List.getElem?_eq_some_iff.1 hb).1
  have hget : marks[b] = false := (List.getElem?_eq_some_iff.1 hb).2
  have hpos : 0 < marks.count false := List.count_pos_iff.2 (hget ▸ List.getElem_mem hlt)
  refine ⟨by simp [B.len], ?_, fun x hx => ?_, fun x => ?_⟩
  · have := List.count_set (a := true) (b := false) hlt
    rw [hget] at this
    simp only [List.length_append, List.length_singleton]
    have h2 := B.cnt
    rw [this]
    simp
    omega
  · rcases List.mem_append.1 hx with hx | hx
    · exact B.reach x hx
    · rw [List.mem_singleton.1 hx]; exact ⟨by rw [← B.len]; exact hlt, hr⟩
  · rw [List.getElem?_set]
    by_cases e : b = x
    · subst e; simp [hlt]
    · simp [e, B.mkd x, Ne.symm e]
theorem BF.start {up : List (List Int)} {a : Nat} (ha : a < up.length) : BF up a ((List.replicate up.length false).set a true) [a] := by
  have hr : (List.replicate up.length false)[a]? = some false := by simp [ha]
  have hlt : a < (List.replicate up.length false).length := by simpa using ha
  refine ⟨by simp, ?_, fun x hx => ?_, fun x => ?_⟩
  · rw [List.count_set hlt]; simp; omega
  · rw [List.mem_singleton.1 hx]; exact ⟨ha, .refl⟩
  · rw [List.getElem?_set]
    by_cases e : a = x
    · subst e; simp [ha]
    · simp only [if_neg e, List.mem_singleton]
      constructor
      · intro h; simp [List.getElem?_replicate] at h
      · intro h; exact absurd h.symm e
theorem BF.done {up : List (List Int)} {a : Nat} {marks : List Bool} {W : List Nat} (B : BF up a marks W) (ha : a ∈ W) (hcl : ∀ x ∈ W, ∀ c, Step up x c → marks[c]? = some true) : marks = rowB up a := by
  have hall : ∀ c, Reach up a c → c ∈ W := by
    intro c hc
    induction hc with
    | refl => exact ha
    | tail _ hs ih => exact (B.mkd _).1 (hcl _ ih _ hs)
  apply List.ext_getElem?
  intro b
  unfold rowB
  rw [List.getElem?_map]
  by_cases hb : b < up.length
  · rw [List.getElem?_range hb, Option.map_some]
    have hlt : b < marks.length := by rw [B.len]; exact hb
    rw [List.getElem?_eq_getElem hlt]
    congr 1
    have h1 := B.mkd b
    rw [List.getElem?_eq_getElem hlt] at h1
    rw [Bool.eq_iff_iff, rb_iff]
    constructor
    · intro e; exact (B.reach b (h1.1 (by rw [e]))).2
    · intro hr; simpa using h1.2 (hall b hr)
  · rw [List.getElem?_eq_none (by have := B.len; omega), List.getElem?_eq_none (by simpa using hb)]; rfl
def natV (W : List Nat) : List AVal := W.map fun (x : Nat) => .int .i64 (x : Int)
structure OM (h0 : Heap) (ro ra a n : Nat) (R : List AVal) (marks : List Bool) (hb : Heap) : Prop where
  ho : h0 ro = none
  ha : h0 ra = none
  ne : ra ≠ ro
  hb : hb = (h0.set ro (.row 1 R)).set ra (.row 1 (marks.map .bool))
  at_ : R[a]? = some (.sl ra 1 0 n)
  len : R.length = n
theorem OM.get_o {h0 hb : Heap} {ro ra a n : Nat} {R : List AVal} {marks : List Bool} (M : OM h0 ro ra a n R marks hb) : hb ro = some (.row 1 R) := by
  rw [M.hb, Heap.set_ne _ _ M.ne.symm, Heap.set_same]
theorem OM.get_a {h0 hb : Heap} {ro ra a n : Nat} {R : List AVal} {marks : List Bool} (M : OM h0 ro ra a n R marks hb) : hb ra = some (.row 1 (marks.map .bool)) := by
  rw [M.hb, Heap.set_same]
theorem OM.old {h0 hb : Heap} {ro ra a n : Nat} {R : List AVal} {marks : List Bool} (M : OM h0 ro ra a n R marks hb) {q : Nat} {o : AObj} (hq : h0 q = some o) : hb q = some o := by
  rw [M.hb, Heap.set_ne _ _ (fun e => by subst e; rw [M.ha] at hq; cases hq), Heap.set_ne _ _ (fun e => by subst e; rw [M.ho] at hq; cases hq)]
  exact hq
theorem OM.put {h0 hb : Heap} {ro ra a n : Nat} {R : List AVal} {marks marks' : List Bool} (M : OM h0 ro ra a n R marks hb) : OM h0 ro ra a n R marks' (hb.set ra (.row 1 (marks'.map .bool))) :=
  ⟨M.ho, M.ha, M.ne, by rw [M.hb, Heap.set_set], M.at_, M.len⟩
theorem natV_len (W : List Nat) : (natV W).length = W.length := by simp [natV]
theorem natV_get {W : List Nat} {i x : Nat} (h : W[i]? = some x) : (natV W)[i]? = some (.int .i64 (x : Int)) := by simp [natV, h]
theorem natV_app (W : List Nat) (b : Nat) : natV (W ++ [b]) = natV W ++ [.int .i64 (b : Int)] := by simp [natV]
structure TU (up : List (List Int)) (a : Nat) (R : List AVal) : Prop where
  len : R.length = up.length
  done : ∀ a', a' < a → ∃ e, R[a']? = some e ∧ e.isAgg = false ∧ SlOf 1 e ((rowB up a').map .bool)
  rest : ∀ a', a' < up.length → ∃ e, R[a']? = some e ∧ e.isAgg = false
end Go.Proofs.YtaopdcjjcpgebaaGreatDoor

namespace Go.Proofs.YtaopdcjjcpgebaaGreatDoor
open Go Go.Sym Go.Proofs.Tryz
variable {K : AVal → Heap → Prop} {h : Heap} {up : List (List Int)} {val : List (List ByteArray)} {mU mV : AVal}
def Cond (up : List (List Int)) (val : List (List ByteArray)) (a b : Nat) : Prop := Reach up a b → a ≠ b → ¬ Reach up b a ∧ ∀ s ∈ val.getD a [], s ∈ val.getD b []
structure WF (up : List (List Int)) (val : List (List ByteArray)) : Prop where
  pos : 1 ≤ up.length
  max : up.length ≤ 512
  len : val.length = up.length
  inR : InR up
  fine : ∀ l ∈ val, fineB l = true
  cond : ∀ a b, a < up.length → b < up.length → Cond up val a b
theorem getD_val {a : Nat} (ha : a < val.length) : val.getD a [] = val[a] := by simp [List.getD, ha]
end Go.Proofs.YtaopdcjjcpgebaaGreatDoor

namespace Go.Proofs.YtaopdcjjcpgebaaGreatDoor
open Go Go.Sym Go.Proofs.Tryz
/- ---- a map as a set ---- -/
def mapV (V : List Nat) : List (AVal × AVal) := V.map fun (v : Nat) => (.int .i64 (v : Int), .int .i64 1)
theorem find_in {v : Nat} : ∀ (V : List Nat) (i : Nat), v ∈ V → ∃ j, findM (.int .i64 (v : Int)) (mapV V) i = some (some (j, .int .i64 1))
  | [], _, h => by simp at h
  | x :: V, i, h => by
    show ∃ j, findM (.int .i64 (v : Int)) ((.int .i64 (x : Int), .int .i64 1) :: mapV V) i = _
    unfold findM keyEq
    simp only [decide_true]
    by_cases e : v = x
    · subst e
      exact ⟨i, by simp⟩
    · rw [show ((v : Int) == (x : Int)) = false by rw [beq_eq_false_iff_ne]; omega]
      exact find_in V (i + 1) (by simpa [e] using h)
theorem find_out {v : Nat} : ∀ (V : List Nat) (i : Nat), v ∉ V → findM (.int .i64 (v : Int)) (mapV V) i = some none
  | [], _, _ => rfl
  | x :: V, i, h => by
    show findM (.int .i64 (v : Int)) ((.int .i64 (x : Int), .int .i64 1) :: mapV V) i = _
    unfold findM keyEq
    simp only [decide_true]
    have h1 : v ≠ x ∧ v ∉ V := by simpa using h
    rw [show ((v : Int) == (x : Int)) = false by rw [beq_eq_false_iff_ne]; have := h1.1; omega]
    exact find_out V (i + 1) h1.2
theorem mapGet_in {h : Heap} {rm : Nat} {V : List Nat} (hm : h rm = some (.map (mapV V))) {v : Nat} (hv : v ∈ V) {K : AVal → Bool → Prop} (hk : K (.int .i64 1) true) : mapGet (.int .i64 0) h (.mapr rm) (.int .i64 (v : Int)) K := by
  obtain ⟨j, e⟩ := find_in V 0 hv
  unfold mapGet mapGetR entsA
  simp only [hm, e]
  exact hk
theorem mapGet_out {h : Heap} {rm : Nat} {V : List Nat} (hm : h rm = some (.map (mapV V))) {v : Nat} (hv : v ∉ V) {K : AVal → Bool → Prop} (hk : K (.int .i64 0) false) : mapGet (.int .i64 0) h (.mapr rm) (.int .i64 (v : Int)) K := by
  unfold mapGet mapGetR entsA
  simp only [hm, find_out V 0 hv]
  exact hk
theorem mapPut_out {h : Heap} {rm : Nat} {V : List Nat} (hm : h rm = some (.map (mapV V))) {v : Nat} (hv : v ∉ V) {K : Heap → Prop} (hk : K (h.set rm (.map (mapV (V ++ [v]))))) : mapPut h (.mapr rm) (.int .i64 (v : Int)) (.int .i64 1) K := by
  unfold mapPut mapPutR putM
  simp only [hm, find_out V 0 hv]
  simpa [mapV] using hk
/- ---- a measure ---- -/
theorem filter_le {α : Type} {p q : α → Bool} : ∀ (l : List α), (∀ x, p x = true → q x = true) → (l.filter p).length ≤ (l.filter q).length
  | [], _ => by simp
  | a :: l, h => by
    have ih := filter_le l h
    by_cases e : p a = true
    · rw [List.filter_cons_of_pos e, List.filter_cons_of_pos (h a e)]
      simp only [List.length_cons]; omega
    · rw [List.filter_cons_of_neg e]
      by_cases e2 : q a = true
      · rw [List.filter_cons_of_pos e2]; simp only [List.length_cons]; omega
      · rw [List.filter_cons_of_neg e2]; exact ih
theorem filter_lt {α : Type} {p q : α → Bool} {x : α} : ∀ (l : List α), (∀ x, p x = true → q x = true) → x ∈ l → q x = true → p x = false → (l.filter p).length < (l.filter q).length
  | [], _, hx, _, _ => by simp at hx
  | a :: l, h, hx, hq, hp => by
    rcases List.mem_cons.1 hx with rfl | hx
    · rw [List.filter_cons_of_neg (by rw [hp]; decide), List.filter_cons_of_pos hq]
      have := filter_le l h
      simp only [List.length_cons]; omega
    · have ih := filter_lt l h hx hq hp
      by_cases e : p a = true
      · rw [List.filter_cons_of_pos e, List.filter_cons_of_pos (h a e)]
        simp only [List.length_cons]; omega
      · rw [List.filter_cons_of_neg e]
        by_cases e2 : q a = true
        · rw [List.filter_cons_of_pos e2]; simp only [List.length_cons]; omega
        · rw [List.filter_cons_of_neg e2]; exact ih
def outN (n : Nat) (V : List Nat) : Nat := ((List.range n).filter fun x => decide (x ∉ V)).length
theorem outN_le {n : Nat} {V W : List Nat} (h : ∀ x ∈ V, x ∈ W) : outN n W ≤ outN n V := filter_le _ fun x hx => by
  simp only [decide_eq_true_eq] at hx ⊢
  exact fun hv => hx (h x hv)
theorem outN_lt {n : Nat} {V : List Nat} {v : Nat} (hv : v < n) (ho : v ∉ V) : outN n (V ++ [v]) < outN n V :=
  filter_lt (x := v) _ (fun x hx => by
    simp only [decide_eq_true_eq] at hx ⊢
    exact fun h => hx (List.mem_append_left _ h)) (List.mem_range.2 hv) (by simpa using ho) (by simp)
end Go.Proofs.YtaopdcjjcpgebaaGreatDoor

namespace Go.Proofs.YtaopdcjjcpgebaaGreatDoor
open Go Go.Sym Go.Proofs.Tryz
noncomputable def aboveL (up : List (List Int)) (a : Nat) : List Nat := (List.range up.length).filter (rb up a)
noncomputable def ordUp (up : List (List Int)) : List (List Int) := (List.range up.length).map fun a => natI (aboveL up a)
theorem Own.ne {hb h : Heap} {os : List Ow} (W : Own hb os h) {i j p q : Nat} {o o' : AObj} (hi : os[i]? = some (.cell p o)) (hj : os[j]? = some (.cell q o')) (hij : i ≠ j) : p ≠ q := fun e => by
  subst e
  exact hij (W.one i j _ _ p hi hj rfl rfl)
section
variable {up : List (List Int)}
theorem mem_aboveL {a x : Nat} (hi : InR up) (ha : a < up.length) : x ∈ aboveL up a ↔ Reach up a x := by
  unfold aboveL
  rw [List.mem_filter, List.mem_range, rb_iff]
  exact ⟨fun h => h.2, fun h => ⟨h.lt hi ha, h⟩⟩
theorem ordUp_get {a : Nat} (ha : a < up.length) : (ordUp up)[a]'(by simpa [ordUp] using ha) = natI (aboveL up a) := by simp [ordUp]
theorem ordUp_len : (ordUp up).length = up.length := by simp [ordUp]
theorem above_len {a : Nat} : (aboveL up a).length ≤ up.length := by
  have := List.length_filter_le (rb up a) (List.range up.length)
  simpa [aboveL] using this
end
end Go.Proofs.YtaopdcjjcpgebaaGreatDoor

namespace Go.Proofs.YtaopdcjjcpgebaaGreatDoor
open Go Go.Sym Go.Proofs.Tryz
variable {K : AVal → Heap → Prop} {h0 hb h : Heap} {up : List (List Int)} {mU mV : AVal} {os : List Ow}
theorem Own.appQ (W : Own hb os h) {i es bytes r : Nat} {x : AVal} {pre q : List AVal} {X : AVal → Heap → Prop} (hi : os[i]? = some (.cell r (.row es (pre ++ q))))
    (h1 : q.length < 4611686018427387904) (h2 : (q.length + 1) * bytes ≤ 140737488355328) (hk : ∀ r' h', Own hb (os.set i (.cell r' (.row es (q ++ [x])))) h' → X (.sl r' es 0 (q.length + 1)) h') : appC es bytes h (.sl r es pre.length q.length) (.lsl es [x]) X := by
  have hr := W.get i _ r hi rfl
  have hx : elemsA es h (.lsl es [x]) = some [x] := by simp [elemsA]
  unfold appC
  rw [hx]
  simp only
  unfold app
  simp only [Nat.beq_refl, chk_true, hr, Ow.obj]
  refine ⟨⟨by simp only [List.length_singleton]; omega, by simpa using h2⟩, by simp, fun _ r' hr' _ => ?_, fun e => absurd (by simp) e⟩
  rw [List.drop_left]
  refine hk _ _ (W.change hi trivial (fun n e => .inr (by rw [show n = r' from e]; exact hr')) (fun n e => by rw [show n = r' from e, Heap.set_same]; rfl) (fun p o e hne => ?_))
  have hq : p ≠ r := hne
  rw [Heap.set_ne _ _ (fun e1 => by rw [e1, hr'] at e; cases e)]
  unfold Heap.del
  simpa [hq] using e
theorem slX_end1 {es r off len : Nat} {X : AVal → Prop} (hk : X (.sl r es (off + 1) len)) : slX es (.sl r es off (len + 1)) 1 none X := by
  show slA es (.sl r es off (len + 1)) 1 ((len + 1 : Nat) : Int) X
  rw [slA_eq]
  refine chk_iff.2 ⟨Nat.beq_refl _, ⟨by omega, by omega, Int.le_refl _⟩, ?_⟩
  simpa using hk
structure SQ (up : List (List Int)) (a : Nat) (V q : List Nat) : Prop where
  self : a ∈ V
  reach : ∀ x ∈ V, x < up.length ∧ Reach up a x
  sub : ∀ x ∈ q, x ∈ V
  closed : ∀ x ∈ V, x ∉ q → ∀ y, Step up x y → y ∈ V
theorem SQ.all {a : Nat} {V : List Nat} (S : SQ up a V []) (x : Nat) : x ∈ V ↔ Reach up a x := by
  refine ⟨fun hx => (S.reach x hx).2, fun h => ?_⟩
  induction h with
  | refl => exact S.self
  | tail _ hs ih => exact S.closed _ ih (by simp) _ hs
theorem SQ.add {a x b : Nat} {V q : List Nat} (S : SQ up a V q) (hi : InR up) (hx : x ∈ V) (hs : Step up x b) : SQ up a (V ++ [b]) (q ++ [b]) where
  self := List.mem_append_left _ S.self
  reach y hy := by
    rcases List.mem_append.1 hy with h | h
    · exact S.reach y h
    · rw [List.mem_singleton.1 h]
      have := (S.reach x hx)
      have hR := Reach.tail this.2 hs
      obtain ⟨r, hr, hb⟩ := hs
      have := hi r (List.mem_of_getElem? hr) _ hb
      exact ⟨by omega, hR⟩
  sub y hy := by
    rcases List.mem_append.1 hy with h | h
    · exact List.mem_append_left _ (S.sub y h)
    · exact List.mem_append_right _ h
  closed y hy hq z hz := by
    rcases List.mem_append.1 hy with h | h
    · exact List.mem_append_left _ (S.closed y h (fun e => hq (List.mem_append_left _ e)) z hz)
    · exact absurd (List.mem_append_right _ h) hq
theorem SQ.next {a x : Nat} {V q : List Nat} {row : List Int} (S : SQ up a V (x :: q)) (hr : up[x]? = some row) (hd : ∀ b ∈ row, b.toNat ∈ V) : SQ up a V q where
  self := S.self
  reach := S.reach
  sub y hy := S.sub y (List.mem_cons_of_mem _ hy)
  closed y hy hq z hz := by
    by_cases e : y = x
    · subst e
      obtain ⟨r, hr', hb⟩ := hz
      rw [hr] at hr'
      cases hr'
      have := hd _ hb
      simpa using this
    · exact S.closed y hy (fun h => by
        rcases List.mem_cons.1 h with h | h
        · exact e h
        · exact hq h) z hz
abbrev MQ (h0 : Heap) (ro : Nat) (R : List AVal) (rm : Nat) (V : List Nat) (rq : Nat) (pre : List AVal) (q : List Nat) (h : Heap) : Prop :=
  Own h0 [.cell ro (.row 1 R), .cell rm (.map (mapV V)), .cell rq (.row 1 (pre ++ natV q))] h
section
variable {ro rm a N : Nat} {R : List AVal} {out : AVal} {L1 : AVal → AVal → Int → Int → Heap → Prop} {L2 : AVal → AVal → Int → AVal → AVal → Int → Int → Heap → Prop}
theorem orderF_l3 (hn : up.length ≤ 512) (hi : InR up) {x : Nat} {row : List Int} {e : AVal} (he : Ints e row) (hrl : row.length ≤ 1048576) (hr : up[x]? = some row)
    (next : ∀ V q rq pre h', SQ up a V (x :: q) → (∀ b ∈ row, b.toNat ∈ V) → outN up.length V + q.length ≤ N → MQ h0 ro R rm V rq pre (x :: q) h' → L2 (.lptr [mU, mV]) out (a : Int) (.mapr rm) (.sl rq 1 (pre.length + 1) q.length) (up.length : Int) (a : Int) h') :
    ∀ d j : Nat, j + d = row.length → ∀ V q rq pre h, SQ up a V (x :: q) → (∀ i b, i < j → row[i]? = some b → b.toNat ∈ V) → outN up.length V + q.length ≤ N → N ≤ 1024 → MQ h0 ro R rm V rq pre (x :: q) h →
      s82l3 K L1 L2 (d + 1) (.lptr [mU, mV]) out (a : Int) (.mapr rm) (.sl rq 1 pre.length (q.length + 1)) (up.length : Int) (a : Int) e (row.length : Int) (j : Int) h
  | 0, j, hd, V, q, rq, pre, h, S, D, hm, hN, M => by
    unfold s82l3
    obtain rfl : j = row.length := by omega
    refine ifT_neg (by simp) ?_
    refine slX_end1 ?_
    refine next V q rq pre h S (fun b hb => ?_) hm M
    obtain ⟨i, hi, e⟩ := List.mem_iff_getElem.1 hb
    exact D i b hi (by rw [List.getElem?_eq_getElem hi, e])
  | d + 1, j, hd, V, q, rq, pre, h, S, D, hm, hN, M => by
    have hj : j < row.length := by omega
    have hb := hi _ (List.mem_of_getElem? hr) _ (List.getElem_mem hj)
    unfold s82l3
    refine ifT_pos (decide_eq_true (by omega)) ?_
    rw [he.ix hj, ld1_lptr, tInt_int]
    have hcast : row[j] = ((row[j].toNat : Nat) : Int) := by omega
    rw [hcast]
    have hs : Step up x row[j].toNat := ⟨row, hr, by rw [← hcast]; exact List.getElem_mem hj⟩
    by_cases hin : row[j].toNat ∈ V
    · refine mapGet_in (M.get 1 _ rm rfl rfl) hin ?_
      rw [tInt_int]
      refine ifT_neg rfl (rg_of (by omega) (by omega) (s82l3_go ?_))
      refine orderF_l3 hn hi he hrl hr next d (j + 1) (by omega) V q rq pre h S (fun i b hi hb' => ?_) hm hN M
      by_cases e1 : i = j
      · subst e1
        rw [List.getElem?_eq_getElem hj] at hb'
        cases hb'
        exact hin
      · exact D i b (by omega) hb'
    · refine mapGet_out (M.get 1 _ rm rfl rfl) hin ?_
      rw [tInt_int]
      refine ifT_pos rfl ?_
      refine mapGet_out (M.get 1 _ rm rfl rfl) hin ?_
      rw [tInt_int]
      refine rg_of (by omega) (by omega) (mapPut_out (M.get 1 _ rm rfl rfl) hin ?_)
      have M2 := M.put (i := 1) rfl (.map (mapV (V ++ [row[j].toNat])))
      have hlt := outN_lt (n := up.length) (V := V) (v := row[j].toNat) (by omega) hin
      have hql : (natV (x :: q)).length = q.length + 1 := by simp [natV]
      rw [show q.length + 1 = (natV (x :: q)).length from hql.symm]
      refine Own.appQ M2 (i := 2) rfl (by omega) (by omega) fun r' h' M3 => ?_
      refine rg_of (by omega) (by omega) (s82l3_go ?_)
      have := orderF_l3 hn hi he hrl hr next d (j + 1) (by omega) (V ++ [row[j].toNat]) (q ++ [row[j].toNat]) r' [] h' (S.add hi (S.sub x (by simp)) hs) (fun i b hi hb' => ?_) (by simp; omega) hN (by unfold MQ; rw [List.nil_append, ← List.cons_append, natV_app]; exact M3)
      · simpa [natV] using this
      · by_cases e1 : i = j
        · subst e1
          rw [List.getElem?_eq_getElem hj] at hb'
          cases hb'
          simp
        · exact List.mem_append_left _ (D i b (by omega) hb')
theorem orderF_l2 (hn : up.length ≤ 512) (hi : InR up) (hU : Intss mU up) (hrl : ∀ r ∈ up, r.length ≤ 1048576)
    (next : ∀ V rq pre h', SQ up a V [] → MQ h0 ro R rm V rq pre [] h' → s82l5_E (s82l5 K L1) (.lptr [mU, mV]) out (a : Int) (.mapr rm) (up.length : Int) (a : Int) (up.length : Int) 0 h') :
    ∀ d V q rq pre h, SQ up a V q → outN up.length V + q.length ≤ d → d ≤ 1024 → MQ h0 ro R rm V rq pre q h →
      s82l2 K L1 (d + 1) (.lptr [mU, mV]) out (a : Int) (.mapr rm) (.sl rq 1 pre.length q.length) (up.length : Int) (a : Int) h := by
  intro d
  induction d with
  | zero =>
    intro V q rq pre h S hm hd M
    have : q = [] := List.eq_nil_of_length_eq_zero (by omega)
    subst this
    unfold s82l2
    rw [lenN_sl]
    refine ifT_neg (by simp) ?_
    rw [addOff_lptr]
    simp only [List.drop_zero, ld1_lptr]
    rw [hU.len]
    exact next V rq pre h S M
  | succ d ih =>
    intro V q rq pre h S hm hd M
    unfold s82l2
    rw [lenN_sl]
    cases q with
    | nil =>
      refine ifT_neg (by simp) ?_
      rw [addOff_lptr]
      simp only [List.drop_zero, ld1_lptr]
      rw [hU.len]
      exact next V rq pre h S M
    | cons x q =>
      have hx := S.reach x (S.sub x (by simp))
      obtain ⟨e, he, hie⟩ := hU.ix hx.1
      refine ifT_pos (by simp) ?_
      rw [addOff_lptr]
      simp only [List.drop_zero, ld1_lptr]
      refine ixS_sl (i := 0) (by omega) (by simp) ?_
      rw [show pre.length + (0 : Int).toNat = pre.length by simp]
      rw [ld1_ptr (e := .int .i64 (x : Int)) (M.get 2 _ rq rfl rfl) (by simp [natV]) rfl, tInt_int, hie, ld1_lptr, he.len]
      simp only [List.length_cons] at hm
      refine s82l3_in (up[x].length + 1) ?_
      refine orderF_l3 (N := d) hn hi he (hrl _ (List.getElem_mem hx.1)) (List.getElem?_eq_getElem hx.1) (fun V' q' rq' pre' h' S' D' hm' M' => ?_) up[x].length 0 (by omega) V q rq pre h S (fun i b hi => absurd hi (by omega)) (by omega) (by omega) M
      refine s82l2_go ?_
      have := ih V' q' rq' (pre' ++ [.int .i64 (x : Int)]) h' (S'.next (List.getElem?_eq_getElem hx.1) D') hm' (by omega) (by unfold MQ; rw [List.append_assoc]; exact M')
      simpa using this
end
end Go.Proofs.YtaopdcjjcpgebaaGreatDoor

namespace Go.Proofs.YtaopdcjjcpgebaaGreatDoor
open Go Go.Sym Go.Proofs.Tryz
variable {K : AVal → Heap → Prop} {h0 : Heap} {up : List (List Int)} {mU mV : AVal}
noncomputable def rowLit (l : List Nat) : AVal := .lsl 1 ((natI l).map (.int .i64))
noncomputable def ordLit (up : List (List Int)) : AVal := .lsl 1 ((List.range up.length).map fun a => rowLit (aboveL up a))
theorem ordLit_rows : Intss (ordLit up) (ordUp up) := by
  refine ⟨_, .lsl 1 _, ?_⟩
  unfold ordUp
  have : ∀ l : List Nat, All2 Ints (l.map fun a => rowLit (aboveL up a)) (l.map fun a => natI (aboveL up a)) := fun l => by
    induction l with
    | nil => exact .nil
    | cons a l ih => exact .cons (.lsl 1 _) ih
  exact this _
structure RO (up : List (List Int)) (a : Nat) (R : List AVal) : Prop where
  len : R.length = up.length
  done : ∀ a', a' < a → R[a']? = some (rowLit (aboveL up a'))
  rest : ∀ a', a' < up.length → a ≤ a' → R[a']? = some .nilsl
theorem orderF_l5 (hn : up.length ≤ 512) {a : Nat} (ha : a < up.length) {ro rm rq : Nat} {Wc : List Nat} (hW : ∀ x, x ∈ Wc ↔ Reach up a x) {Q : AObj} {F : AVal → AVal → Int → Int → Heap → Prop}
    (good : ∀ R' h', RO up (a + 1) R' → Own h0 [.cell ro (.row 1 R')] h' → F (.lptr [mU, mV]) (.sl ro 1 0 up.length) up.length ((a : Int) + 1) h') :
    ∀ d b : Nat, b + d = up.length → ∀ R x h, R.length = up.length → (∀ a', a' < a → R[a']? = some (rowLit (aboveL up a'))) → (∀ a', a' < up.length → a < a' → R[a']? = some .nilsl) → R[a]? = some x →
      Own h0 [.cell ro (.row 1 R), .slc 1 x ((natI ((List.range b).filter (rb up a))).map (.int .i64)), .cell rm (.map (mapV Wc)), .cell rq Q] h →
      s82l5 K (s82l1_G F) (d + 1) (.lptr [mU, mV]) (.sl ro 1 0 up.length) (a : Int) (.mapr rm) up.length (a : Int) up.length (b : Int) h
  | 0, b, hd, R, x, h, hl, hdone, hrest, hx, W => by
    obtain rfl : b = up.length := by omega
    unfold s82l5
    refine ifT_neg (by simp) (rg_of (by omega) (by omega) ?_)
    have hne : (natI ((List.range up.length).filter (rb up a))).map (AVal.int .i64) ≠ [] := by
      have : a ∈ (List.range up.length).filter (rb up a) := List.mem_filter.2 ⟨List.mem_range.2 ha, rb_iff.2 .refl⟩
      intro e
      simp only [natI, List.map_eq_nil_iff] at e
      rw [e] at this
      cases this
    have lx : Go.Sym.Lit h (nameOf x) x (rowLit (aboveL up a)) := by
      rcases W.fit 1 _ rfl with ⟨_, e⟩ | ⟨r, rfl⟩
      · exact absurd e hne
      · exact .sl rfl (W.get 1 _ r rfl rfl) (by simp) (by rw [List.drop_zero, List.take_of_length_le (Nat.le_refl _)]; exact Lits.refl _)
    obtain ⟨h', g, W'⟩ := W.step (nameOf x) [.cell ro (.row 1 (R.set a (rowLit (aboveL up a))))] (fun n hn => W.new 1 _ n rfl hn) (fun j y' hj => by
      match j, hj with
      | 0, hj =>
        cases hj
        exact ⟨_, rfl, trivial, fun n hn => ⟨hn, fun hm => absurd (W.one 0 1 _ _ n rfl rfl hn hm) (by decide)⟩, .row (Lits.set hx lx)⟩
      | j + 1, hj => simp at hj)
    refine ⟨_, _, h', Lits.refl _, g, rfl, good (R.set a (rowLit (aboveL up a))) h' ⟨by simp [hl], fun a' ha' => ?_, fun a' ha' hle => ?_⟩ W'⟩
    · by_cases e : a' = a
      · subst e
        exact List.getElem?_set_self (by rw [hl]; exact ha)
      · rw [List.getElem?_set_ne (Ne.symm e)]
        exact hdone a' (by omega)
    · rw [List.getElem?_set_ne (by omega)]
      exact hrest a' ha' (by omega)
  | d + 1, b, hd, R, x, h, hl, hdone, hrest, hx, W => by
    have hb : b < up.length := by omega
    unfold s82l5
    refine ifT_pos (by simp; omega) ?_
    have hlen : ((natI ((List.range b).filter (rb up a))).map (AVal.int .i64)).length ≤ b := by
      simp only [natI, List.length_map]
      have := List.length_filter_le (rb up a) (List.range b)
      simpa using this
    have hsucc := range_filter_succ (rb up a) b
    by_cases hin : b ∈ Wc
    · have hrb : rb up a b = true := rb_iff.2 ((hW b).1 hin)
      refine mapGet_in (W.get 2 _ rm rfl rfl) hin ?_
      rw [tInt_int]
      have hagg := (W.sc (i := 1) rfl).2.2
      refine ifT_pos rfl (ixS_sl0 ha ?_)
      rw [ld1_ptr (W.get 0 _ ro rfl rfl) hx hagg]
      refine W.app (i := 1) rfl (by omega) (by omega) fun x2 h2 W2 => ixS_sl0 ha (chk_iff.2 ⟨(W2.sc (i := 1) rfl).1, st_elem (W2.get 0 _ ro rfl rfl) hx hagg ?_⟩)
      refine rg_of (by omega) (by omega) (s82l5_go ?_)
      refine orderF_l5 (rm := rm) (rq := rq) (Q := Q) hn ha hW good d (b + 1) (by omega) (R.set a x2) x2 _ (by simp [hl]) (fun a' ha' => ?_) (fun a' ha' hlt => ?_) (List.getElem?_set_self (by rw [hl]; exact ha)) ?_
      · rw [List.getElem?_set_ne (by omega)]; exact hdone a' ha'
      · rw [List.getElem?_set_ne (by omega)]; exact hrest a' ha' hlt
      · rw [hsucc, if_pos hrb]
        have W3 := W2.put (i := 0) rfl (.row 1 (R.set a x2))
        simpa [natI] using W3
    · have hrb : rb up a b = false := by
        cases e : rb up a b with
        | false => rfl
        | true => exact absurd ((hW b).2 (rb_iff.1 e)) hin
      refine mapGet_out (W.get 2 _ rm rfl rfl) hin ?_
      rw [tInt_int]
      refine ifT_neg rfl (rg_of (by omega) (by omega) (s82l5_go ?_))
      refine orderF_l5 (rm := rm) (rq := rq) (Q := Q) hn ha hW good d (b + 1) (by omega) R x h hl hdone hrest hx ?_
      rw [hsucc, hrb]
      simpa using W
theorem orderF_l1 (hn : up.length ≤ 512) (hU : Intss mU up) (hrl : ∀ r ∈ up, r.length ≤ 1048576) (hi : InR up) {ro : Nat} (good : K (ordLit up) h0) :
    ∀ d a : Nat, a + d = up.length → ∀ R h, RO up a R → Own h0 [.cell ro (.row 1 R)] h → s82l1 K (d + 1) (.lptr [mU, mV]) (.sl ro 1 0 up.length) (up.length : Int) (a : Int) h
  | 0, a, hd, R, h, T, W => by
    obtain rfl : a = up.length := by omega
    unfold s82l1
    refine ifT_neg (by simp) ?_
    have hR : R = (List.range up.length).map fun a => rowLit (aboveL up a) := List.ext_getElem (by rw [T.len]; simp) fun i h1 h2 => by
      have := T.done i (by rw [← T.len]; exact h1)
      rw [List.getElem?_eq_getElem h1] at this
      simpa using this
    refine ⟨fun q => q = ro, .lsl 1 R, h0, .whole rfl (W.get 0 _ ro rfl rfl) T.len.symm, ⟨fun _ _ => trivial, fun q o hq => ⟨o, W.old q o hq, (fun e => by
      have := W.new 0 _ q rfl e
      rw [this] at hq; cases hq), .refl o⟩⟩, ?_⟩
    rw [hR]
    exact good
  | d + 1, a, hd, R, h, T, W => by
    have ha : a < up.length := by omega
    unfold s82l1
    refine ifT_pos (by simp; omega) (fun rm hrm _ => ?_)
    have W1 := W.newC hrm (.map (mapV []))
    refine mapPut_out (W1.get 1 _ rm rfl rfl) (by simp) ?_
    have W2 := W1.put (i := 1) rfl (.map (mapV ([] ++ [a])))
    refine newRow_in fun rq hrq => ?_
    have W3 := (W2.newC hrq (.row 1 ([] ++ natV [a])))
    have S0 : SQ up a [a] [a] := ⟨by simp, fun x hx => by rw [List.mem_singleton.1 hx]; exact ⟨ha, .refl⟩, fun x hx => hx, fun x hx hq => absurd hx hq⟩
    have ho := outN_le (n := up.length) (V := []) (W := [a]) (by simp)
    have hz : outN up.length [] ≤ up.length := by
      unfold outN
      have := List.length_filter_le (fun x => decide (x ∉ ([] : List Nat))) (List.range up.length)
      simpa using this
    refine s82l2_in (514 + 1) ?_
    refine orderF_l2 (ro := ro) (rm := rm) (R := R) hn hi hU hrl (fun V rq' pre h' S M => ?_) 514 [a] [a] rq [] _ S0 (by simp only [List.length_singleton]; omega) (by omega) W3
    refine s82l5_in (up.length + 1) ?_
    have W5 := M.newN 1
    have W6 : Own h0 [.cell ro (.row 1 R), .slc 1 .nilsl ((natI ((List.range 0).filter (rb up a))).map (.int .i64)), .cell rm (.map (mapV V)), .cell rq' (.row 1 (pre ++ natV []))] h' := by
      refine W5.renum _ (fun m => if m = 0 then 0 else if m = 1 then 3 else if m = 2 then 1 else 2) (fun m w hm => ?_) (fun m hm p hp e => ?_)
      · match m, hm with
        | 0, hm => cases hm; rfl
        | 1, hm => cases hm; rfl
        | 2, hm => cases hm; rfl
        | 3, hm => cases hm; rfl
        | m + 4, hm => simp at hm
      · have hm : m < 4 := hm
        have hp : p < 4 := hp
        split at e <;> split at e <;> (try split at e) <;> (try split at e) <;> (try split at e) <;> (try split at e) <;> omega
    refine orderF_l5 hn ha S.all (fun R' h' T' W' => ?_) up.length 0 (by omega) R .nilsl _ T.len (fun a' ha' => T.done a' ha') (fun a' ha' hlt => T.rest a' ha' (by omega)) (T.rest a ha (Nat.le_refl _)) W6
    exact orderF_l1 hn hU hrl hi good d (a + 1) (by omega) R' h' T' W'
theorem orderF_ok (hn : up.length ≤ 512) (hU : Intss mU up) (hrl : ∀ r ∈ up, r.length ≤ 1048576) (hi : InR up) (good : K (ordLit up) h0) : ACalls prog 82 [.agg [mU, mV]] h0 K := by
  refine s82_ok ?_
  unfold s82
  rw [hU.len]
  refine mkS_own (bytes := 24) (n := up.length) (by omega) (by omega) fun ro hro => ?_
  rw [hU.len]
  refine s82l1_in (up.length + 1) ?_
  refine orderF_l1 hn hU hrl hi good up.length 0 (by omega) (List.replicate up.length .nilsl) _ ⟨by simp, fun a' ha' => by omega, fun a' ha' _ => by rw [List.getElem?_replicate, if_pos ha']⟩ ((Own.start h0).newC hro _)
end Go.Proofs.YtaopdcjjcpgebaaGreatDoor

namespace Go.Proofs.YtaopdcjjcpgebaaGreatDoor
open Go Go.Sym Go.Proofs.Tryz
variable {K : AVal → Heap → Prop} {h : Heap}
theorem names_loop {a b : AVal} {la lb : List ByteArray} (ha : Strs a la) (hb : Strs b lb) (hl : la.length = lb.length) (hm : la.length ≤ 1073741824) : ∀ d i : Nat, i + d = la.length →
    K (.bool (decide (la.drop i = lb.drop i))) h → s63l1 K (d + 1) a b (i : Int) h
  | 0, i, hd, hk => by
    unfold s63l1
    rw [ha.len]
    refine ifT_neg (by simp; omega) (retG_of ?_)
    rw [List.drop_eq_nil_of_le (by omega), List.drop_eq_nil_of_le (by omega)] at hk
    simpa using hk
  | d + 1, i, hd, hk => by
    have hi : i < la.length := by omega
    have hi' : i < lb.length := by omega
    unfold s63l1
    rw [ha.len]
    refine ifT_pos (by simp; omega) ?_
    rw [ha.ix hi, ld1_lptr, tStr_str, hb.ix hi', ld1_lptr, tStr_str, strEq_dec]
    rw [drop_eq_step hi hi'] at hk
    by_cases he : la[i] = lb[i]
    · refine ifT_neg (by simp [he]) (rg_of (by omega) (by omega) ?_)
      exact s63l1_go (names_loop ha hb hl hm d (i + 1) (by omega) (by simpa [he] using hk))
    · refine ifT_pos (by simp [he]) (retG_of ?_)
      simpa [he] using hk
theorem names_ok {a b : AVal} {la lb : List ByteArray} (ha : Strs a la) (hb : Strs b lb) (hm : la.length ≤ 1073741824) (hk : K (.bool (decide (la = lb))) h) :
    ACalls prog 63 [a, b] h K := by
  refine s63_ok ?_
  unfold s63
  rw [ha.len, hb.len]
  by_cases hl : la.length = lb.length
  · refine ifT_neg (by simp [hl]) (s63l1_in (la.length + 1) ?_)
    exact names_loop ha hb hl hm la.length 0 (by omega) (by simpa using hk)
  · refine ifT_pos (by simp; omega) (retG_of ?_)
    rwa [show decide (la = lb) = false by simp; intro e; exact hl (by rw [e])] at hk
end Go.Proofs.YtaopdcjjcpgebaaGreatDoor

namespace Go.Proofs.YtaopdcjjcpgebaaGreatDoor
open Go Go.Sym Go.Proofs.Tryz
variable {K : AVal → Heap → Prop} {h : Heap}
theorem letter_ok (c : Int) (hk : K (.bool (ltB c)) h) : ACalls prog 141 [.int .u8 c] h K := by
  refine s141_ok ?_
  unfold s141
  unfold ltB at hk
  by_cases h1 : 97 ≤ c <;> by_cases h2 : c ≤ 122 <;> by_cases h3 : 65 ≤ c <;> simp [h1, h2, h3, ifT_eq] at hk ⊢ <;> exact retG_of (by simpa using hk)
theorem reserved3_ok (hk : ∀ v, Strs v resL → K v h) : ACalls prog 142 [] h K := by
  refine s142_ok ?_
  unfold s142
  exact retG_of (hk _ (.inl rfl))
theorem word3_res {v : AVal} {s : ByteArray} {l : List ByteArray} (hv : Strs v l) (hm : l.length ≤ 1073741824) : ∀ d i : Nat, i + d = l.length → K (.bool ((l.drop i).all fun r => !strEq r s)) h → s121l4 K (d + 1) s v (i : Int) h
  | 0, i, hd, hk => by
    unfold s121l4
    rw [hv.len]
    refine ifT_neg (by simp; omega) (retG_of ?_)
    rw [List.drop_eq_nil_of_le (by omega)] at hk
    simpa using hk
  | d + 1, i, hd, hk => by
    have hi : i < l.length := by omega
    unfold s121l4
    rw [hv.len]
    refine ifT_pos (by simp; omega) ?_
    rw [hv.ix hi, ld1_lptr, tStr_str]
    rw [List.drop_eq_getElem_cons hi, List.all_cons] at hk
    cases he : strEq l[i] s with
    | true => rw [he] at hk; exact ifT_pos rfl (retG_of (by simpa using hk))
    | false =>
      rw [he] at hk
      refine ifT_neg rfl (rg_of (by omega) (by omega) ?_)
      exact s121l4_go (word3_res hv hm d (i + 1) (by omega) (by simpa using hk))
theorem word3_loop {s : ByteArray} (hm : s.size ≤ 31) : ∀ d i : Nat, 1 ≤ i → i + d = s.size → K (.bool ((List.range' i d).all (goodB s) && resL.all fun r => !strEq r s)) h → s121l2 K (d + 1) s (i : Int) h
  | 0, i, h1, hd, hk => by
    unfold s121l2
    refine ifT_neg (by simp; omega) (callG_of (reserved3_ok fun v hv => s121l4_in 13 ?_))
    exact word3_res hv (by decide) 12 0 rfl (by simpa using hk)
  | d + 1, i, h1, hd, hk => by
    unfold s121l2
    refine ifT_pos (by simp; omega) ⟨by omega, callG_of (letter_ok _ ?_)⟩
    rw [tBool_bool]
    rw [List.range'_succ, List.all_cons] at hk
    have rest : goodB s i = true → s121c3 K (s121l2_G (s121l2 K (d + 1))) s i false h := by
      intro hg
      rw [hg] at hk
      exact ifT_neg rfl (rg_of (by omega) (by omega) (s121l2_go (word3_loop hm d (i + 1) (by omega) (by omega) (by simpa using hk))))
    have stop : goodB s i = false → s121c3 K (s121l2_G (s121l2 K (d + 1))) s i true h := by
      intro hg
      rw [hg] at hk
      exact ifT_pos rfl (retG_of (by simpa using hk))
    have hi0 : (i != 0) = true := by simp; omega
    have hgood : goodB s i = (ltB (btA s i) || dgB (btA s i)) := by simp [goodB, hi0]
    cases hl : ltB (btA s i) with
    | true => exact ifT_neg rfl (rest (by rw [hgood, hl]; rfl))
    | false =>
      rw [hl, Bool.false_or] at hgood
      unfold dgB at hgood
      generalize btA s i = c at *
      refine ifT_pos rfl ⟨by omega, ?_⟩
      by_cases h48 : 48 ≤ c
      · refine ifT_pos (by simpa using h48) ⟨by omega, ?_⟩
        by_cases h57 : c ≤ 57
        · refine ifT_neg (by simpa using h57) (rest (by rw [hgood]; simp [h48, h57]))
        · refine ifT_pos (by simpa using h57) ⟨by omega, ?_⟩
          by_cases h95 : c = 95
          · exact ifT_neg (by simp [h95]) (rest (by rw [hgood]; simp [h95]))
          · refine ifT_pos (by simpa using h95) ⟨by omega, ?_⟩
            by_cases h39 : c = 39
            · rw [show (c != 39) = false by simp [h39]]; exact rest (by rw [hgood]; simp [h39])
            · rw [show (c != 39) = true by simpa using h39]; exact stop (by rw [hgood]; simp [h57, h95, h39])
      · refine ifT_neg (by simpa using h48) ⟨by omega, ?_⟩
        by_cases h95 : c = 95
        · exact ifT_neg (by simp [h95]) (rest (by rw [hgood]; simp [h95]))
        · refine ifT_pos (by simpa using h95) ⟨by omega, ?_⟩
          by_cases h39 : c = 39
          · rw [show (c != 39) = false by simp [h39]]; exact rest (by rw [hgood]; simp [h39])
          · rw [show (c != 39) = true by simpa using h39]; exact stop (by rw [hgood]; simp [h48, h95, h39])
theorem word3_ok (s : ByteArray) (hk : K (.bool (wordB s)) h) : ACalls prog 121 [.str s] h K := by
  refine s121_ok ?_
  unfold s121
  unfold wordB at hk
  by_cases h1 : s.size < 1
  · refine ifT_pos (by simp; omega) (ifT_pos rfl (retG_of ?_))
    rw [decide_eq_false (by omega : ¬ s.size ≠ 0)] at hk
    exact hk
  · refine ifT_neg (by simp; omega) ?_
    rw [decide_eq_true (by omega : s.size ≠ 0), Bool.true_and] at hk
    by_cases h2 : 31 < s.size
    · refine ifT_pos (by simp; omega) (ifT_pos rfl (retG_of ?_))
      rw [show decide (s.size ≤ 31) = false by simp; omega] at hk
      exact hk
    · refine ifT_neg (by simp; omega) ⟨by omega, callG_of (letter_ok _ ?_)⟩
      rw [tBool_bool]
      rw [show decide (s.size ≤ 31) = true by simp; omega, Bool.true_and] at hk
      obtain ⟨m, hm⟩ : ∃ m, s.size = m + 1 := ⟨s.size - 1, by omega⟩
      rw [hm, List.range'_succ, List.all_cons, show goodB s 0 = ltB (btA s 0) by simp [goodB]] at hk
      cases hl : ltB (btA s 0) with
      | true =>
        rw [hl] at hk
        exact ifT_neg rfl (s121l2_in (m + 1) (word3_loop (by omega) m 1 (by omega) (by omega) (by simpa using hk)))
      | false =>
        rw [hl] at hk
        exact ifT_pos rfl (retG_of (by simpa using hk))
end Go.Proofs.YtaopdcjjcpgebaaGreatDoor

namespace Go.Proofs.YtaopdcjjcpgebaaGreatDoor
open Go Go.Sym Go.Proofs.Tryz
variable {K : AVal → Heap → Prop} {h h0 hb : Heap}
theorem ndB_comm (x y : Nd) : ndB x y = ndB y x := by
  rw [Bool.eq_iff_iff, ndB_iff, ndB_iff]
  exact eq_comm
def hasN (n : Nat) (i : Int) : Bool := decide (0 ≤ i) && decide (i < n)
theorem aliveP_ok {t : AVal} {xs : List Nd} (R : PRd h t xs) (hk : K (.bool true) h) : ACalls prog 98 [t] h K := by
  obtain ⟨rt, vN, q, es, rfl, h2, h3, h4⟩ := R
  refine s98_ok ?_
  unfold s98
  rw [nilPp]
  refine ifT_pos rfl ?_
  rw [nilCheck_ptr, addOff_ptr, ld1_fld h2 rfl, nilMr]
  exact retG_of hk
theorem hasP_ok {t : AVal} {xs : List Nd} (R : PRd h t xs) (i : Int) (hk : K (.bool (hasN xs.length i)) h) : ACalls prog 120 [t, .int .i64 i] h K := by
  obtain ⟨vN, h4, hl⟩ := R.ld
  refine s120_ok ?_
  unfold s120
  unfold hasN at hk
  by_cases h0 : 0 ≤ i
  · refine ifT_pos (decide_eq_true h0) ?_
    rw [hl, h4.len]
    exact retG_of (by simpa [h0] using hk)
  · exact ifT_neg (decide_eq_false h0) (retG_of (by simpa [h0] using hk))
theorem hasT_ok {t : AVal} {xs : List Nd} (R : DRd h t xs) (i : Int) (hk : K (.bool (hasN xs.length i)) h) : ACalls prog 24 [t, .int .i64 i] h K := by
  obtain ⟨vN, h4, hl⟩ := R.ld
  refine s24_ok ?_
  unfold s24
  unfold hasN at hk
  by_cases h0 : 0 ≤ i
  · refine ifT_pos (decide_eq_true h0) ?_
    rw [hl, h4.len]
    exact retG_of (by simpa [h0] using hk)
  · exact ifT_neg (decide_eq_false h0) (retG_of (by simpa [h0] using hk))
theorem findT_l1 {t : AVal} {xs : List Nd} (R : DRd h t xs) (hx : xs.length ≤ 1048576) (y : Nd) (yes : ∀ i : Nat, ndIx y xs = some i → K (.tuple [.int .i64 i, .bool true]) h) (no : ndIx y xs = none → K (.tuple [.int .i64 0, .bool false]) h) :
    ∀ d i : Nat, i + d = xs.length → (∀ j x, j < i → xs[j]? = some x → ndB x y = false) → s140l1 K (d + 1) t (.lptr (nodeC y)) (i : Int) h
  | 0, i, hd, hi => by
    obtain ⟨vN, h4, hl⟩ := R.ld
    unfold s140l1
    rw [hl, h4.len]
    refine ifT_neg (by simp; omega) (retG_of (no ?_))
    unfold ndIx
    rw [List.findIdx?_eq_none_iff]
    intro x hx
    obtain ⟨j, hj, e⟩ := List.mem_iff_getElem.1 hx
    exact hi j x (by omega) (by rw [List.getElem?_eq_getElem hj, e])
  | d + 1, i, hd, hi => by
    have hil : i < xs.length := by omega
    obtain ⟨vN, h4, hl⟩ := R.ld
    unfold s140l1
    rw [hl, h4.len]
    refine ifT_pos (by simp; omega) ?_
    rw [hl]
    refine h4.ix (List.getElem?_eq_getElem hil) ?_
    rw [nodeC, tCons_cons, tInt_int, tCons_cons, tStr_str, tCons_cons, tInt_int, tCons_cons, tInt_int, tNil_nil]
    have e1 := ldN_node h y
    rw [e1]
    rw [nodeC, tCons_cons, tInt_int, tCons_cons, tStr_str, tCons_cons, tInt_int, tCons_cons, tInt_int, tNil_nil]
    refine eqNodeX (x := xs[i]) (y := y) ?_
    cases e : ndB xs[i] y with
    | true =>
      refine ifT_pos rfl (retG_of (yes i ?_))
      unfold ndIx
      rw [List.findIdx?_eq_some_iff_getElem]
      refine ⟨hil, e, fun j hj => ?_⟩
      have := hi j (xs[j]'(by omega)) hj (by rw [List.getElem?_eq_getElem])
      simp [this]
    | false =>
      refine ifT_neg rfl (rg_of (by omega) (by omega) (s140l1_go (findT_l1 R hx y yes no d (i + 1) (by omega) fun j x hj hx => ?_)))
      rcases Nat.lt_or_ge j i with h1 | h1
      · exact hi j x h1 hx
      · obtain rfl : j = i := by omega
        rw [List.getElem?_eq_getElem hil] at hx
        cases hx
        exact e
theorem findT_ok {t : AVal} {xs : List Nd} (R : DRd h t xs) (hx : xs.length ≤ 1048576) (y : Nd) (yes : ∀ i : Nat, ndIx y xs = some i → K (.tuple [.int .i64 i, .bool true]) h) (no : ndIx y xs = none → K (.tuple [.int .i64 0, .bool false]) h) :
    ACalls prog 140 [t, nodeV y] h K :=
  s140_ok (s140l1_in (xs.length + 1) (findT_l1 R hx y yes no xs.length 0 (by omega) fun j x hj => by omega))
end Go.Proofs.YtaopdcjjcpgebaaGreatDoor

/- From a reading to inputs of a law: whole numbers and texts alone; the row's last step. No condition. From a reading to inputs of a law: slices, structs. No condition. From a reading to an algebra. No condition. From a reading to a table of formulas. No condition. From a reading to what names stand for. No condition. -/
import Derived.Test.YtljglglbfcgjpaaGreatRows
import Derived.WalkKit
import Derived.ProofKit
import Derived.OpenShut
import Derived.JoinedCond
import Derived.Below
import Derived.ChangeSame
import Derived.ReadAgain
import Derived.Test.YtljglglbfcgjpaaGreatM5
import Derived.Test.YtljglglbfcgjpaaGreatProg
import Derived.Test.YtljglglbfcgjpaaGreatRAlg
import Derived.Test.YtljglglbfcgjpaaGreatRTab
import Derived.Test.YtljglglbfcgjpaaGreatRVal

set_option linter.unusedVariables false
set_option linter.unusedSimpArgs false

namespace Go.Proofs.YtljglglbfcgjpaaGreat
open Go Go.Sym Go.Proofs.Tryz
open Go.ChangeShapes Go.WideShapes Go.ChangeAt Go.RowKit
set_option linter.unusedVariables false
set_option maxRecDepth 4000

/- ---- the measure ---- -/
theorem bulk_one {H : Type} (d : DataW H) : 1 ≤ Rows.uptoBulk d := by
  cases d with
  | lit l => cases l <;> simp [Rows.uptoBulk]
  | nil => simp [Rows.uptoBulk]
  | ptr d => simp [Rows.uptoBulk]
  | slice elems spare => simp [Rows.uptoBulk]
  | agg parts => simp [Rows.uptoBulk]
  | iface t d => simp [Rows.uptoBulk]
  | map entries => simp [Rows.uptoBulk]
  | held h => simp [Rows.uptoBulk]
theorem bulk_mem {H : Type} {d : DataW H} {l : List (DataW H)} (h : d ∈ l) : Rows.uptoBulk d ≤ Rows.uptoBulkAll l := by
  induction l with
  | nil => cases h
  | cons x r ih =>
    simp only [Rows.uptoBulkAll]
    rcases List.mem_cons.1 h with e | e
    · subst e; omega
    · have := ih e; omega
theorem bulk_len {H : Type} (l : List (DataW H)) : l.length ≤ Rows.uptoBulkAll l := by
  induction l with
  | nil => simp
  | cons x r ih =>
    have := bulk_one x
    simp only [Rows.uptoBulkAll, List.length_cons]
    omega
theorem bulkOK {H : Type} : BulkOK (Rows.uptoBulk (H := H)) where
  str l := by simp [Rows.uptoBulk]
  ptr d := by simp [Rows.uptoBulk]
  len l r := by have := bulk_len l; simp only [Rows.uptoBulk]; omega
  elem l r d h := by have := bulk_mem h; simp only [Rows.uptoBulk]; omega
  part l d h := by have := bulk_mem h; simp only [Rows.uptoBulk]; omega

theorem closed_ts : closedT prog [3, 9] = true := by kernel_rfl

section
variable {H : Type} {enc : TypeId × Value → H} {W : World}
theorem arg_got {t : TypeId} {v : Value} {d : DataW H} {ps : List MemPlace} {B : Nat} (ht : t ∈ [3, 9]) (h : DataW.Trod enc prog W 0 (fun _ => true) true t v d ps) (hb : Rows.uptoBulk d ≤ B) :
    ∃ n, Got prog W B n t v.cells.toList := by
  obtain ⟨n, hn⟩ := h
  exact ⟨n, trod_rel bulkOK closed_ts n t _ _ ht hn hb⟩
theorem arg_int {t : TypeId} {v : Value} (hu : prog.underlying t = some (.int .i64)) (hv : Value.okWide prog W .any 0 t v) {B n : Nat} (h : Got prog W B n t v.cells.toList) : ∃ z : Int, RelV (ghost0 W) (.int .i64 z) v := by
  have hc : v.cells.toList = [v] := by
    cases v <;> first | rfl | skip
    simp [Value.okWide, Cell.okWide, Cell.ok, hu] at hv
  rw [hc] at h
  obtain ⟨l, h1, h2, _⟩ := h
  cases h1 with
  | @cons a x l xs ha hb =>
    cases hb
    cases n with
    | zero => exact h2.elim
    | succ n =>
      simp only [ShV, hu] at h2
      obtain ⟨z, e, _⟩ := h2
      obtain rfl : a = .int .i64 z := by simpa using e
      exact ⟨z, ha⟩

theorem arg_str {t : TypeId} {v : Value} (hu : prog.underlying t = some .string) (hv : Value.okWide prog W .any 0 t v) {B n : Nat} (h : Got prog W B n t v.cells.toList) : ∃ z : ByteArray, RelV (ghost0 W) (.str z) v ∧ z.size ≤ B := by
  have hc : v.cells.toList = [v] := by
    cases v <;> first | rfl | skip
    simp [Value.okWide, Cell.okWide, Cell.ok, hu] at hv
  rw [hc] at h
  obtain ⟨l, h1, h2, _⟩ := h
  cases h1 with
  | @cons a x l xs ha hb =>
    cases hb
    cases n with
    | zero => exact h2.elim
    | succ n =>
      simp only [ShV, hu] at h2
      obtain ⟨z, e, hz⟩ := h2
      obtain rfl : a = .str z := by simpa using e
      exact ⟨z, ha, hz⟩

/- ---- what a law leaves ---- -/
theorem law_callsR [Nam] (H0 : RelH (ghost0 W) (fun _ => none) W) {f : FuncId} {avs : List AVal} {args : Array Value} (hr : RelVs (ghost0 W) avs args.toList) (hA : ACalls prog f avs (fun _ => none) (fun v _ => v = .bool true)) :
    Calls prog f args W fun e W' => e = .returned (.bool true) ∧ Below W.heap.size W W' := by
  have := hA.2 (ghost0 W) args.toList W hr H0
  simp only [Array.toArray_toList] at this
  refine this.mono ?_
  rintro e w' ⟨v, κ', av, h', rfl, le, H', hv, rfl⟩
  cases hv
  have hb : ∀ k, k < W.heap.size → w'.heap[k]? = W.heap[k]? := fun k hk => by
    have e1 : W.heap[k]? = some W.heap[k] := by simp [hk]
    rw [H'.imm k _ (le.imm k _ e1), e1]
  refine ⟨rfl, H'.os.trans le.os, H'.tape.trans le.tape, H'.output.trans le.output, ?_, hb⟩
  by_cases h0 : W.heap.size = 0
  · omega
  · have e1 := hb (W.heap.size - 1) (by omega)
    have e2 : W.heap[W.heap.size - 1]? = some W.heap[W.heap.size - 1] := by simp
    rw [e2] at e1
    have := (Array.getElem?_eq_some_iff.1 e1).1
    omega
theorem law_calls {f : FuncId} {avs : List AVal} {args : Array Value} (hr : RelVs (ghost0 W) avs args.toList) (hA : @ACalls Nam.any prog f avs (fun _ => none) (fun v _ => v = .bool true)) :
    Calls prog f args W fun e W' => e = .returned (.bool true) ∧ Below W.heap.size W W' := @law_callsR _ Nam.any (relH0 W) f avs args hr hA
theorem same_at {W' : World} (hb : Below W.heap.size W W') {p : MemPlace} (hp : p.block < W.heap.size) : W.sameAt W' p := by
  have := hb.block p.block hp
  cases p with
  | cell b off =>
    show W'.cell? ⟨b, off, none⟩ = W.cell? ⟨b, off, none⟩
    simp only [MemPlace.block] at this
    unfold World.cell?
    rw [this]
  | map b => exact this
theorem args_again {W' : World} (hb : Below W.heap.size W W') {sp : Nat → Bool} {held : Bool} {base : Nat} : ∀ {ts : List TypeId} {vs : List Value} {ds : List (DataW H)} {ps : List MemPlace}, DataW.TrodAll enc prog W base sp held ts vs ds ps → (∀ p ∈ ps, p.block < W.heap.size) → DataW.TrodAll enc prog W' base sp held ts vs ds ps
  | [], [], [], _, h, _ => h
  | _ :: _, _ :: _, _ :: _, _, ⟨p, q, ⟨n, h1⟩, h2, e⟩, hl => ⟨p, q, ⟨n, DataW.trod_carry n _ _ _ h1 (fun x hx => same_at hb (hl x (by rw [e]; exact List.mem_append_left _ hx)))⟩, args_again hb h2 (fun x hx => hl x (by rw [e]; exact List.mem_append_right _ hx)), e⟩
/-- the row's last step: it answered true, and what was there stands -/
theorem post_true {f : Func} {s : ChangeSpec} {apart fresh handsOn again : Bool} {W' : World} {args : Array Value} {ds : List (DataW H)} {before : List MemPlace} (hf : f.resultTypes = #[4]) (hs : s.vars = [])
    (hfn : s.fn H (ds ++ []) = { results := [.lit (.bool true)], args := ds }) (hT : ∀ t ∈ f.params.toList, t < prog.types.size) (K : Kids prog (· < prog.types.size)) (hz : ∀ t e, t < prog.types.size → prog.underlying t = some (.slice e) → 0 < prog.cellsOf e)
    (hW : DataW.Whole enc prog f.params.toList s.vars apart W args.toList ds [] before) (hb : Below W.heap.size W W') : s.post enc prog f apart fresh handsOn again W args (.bool true) W' := by
  have hlt : ∀ p ∈ before, p.block < W.heap.size := fun p hp => hW.lt p hp
  have hW0 := hW
  obtain ⟨pa, q, hA, hV, hps, hz2, hn⟩ := hW
  rw [hs] at hV
  obtain ⟨_, rfl⟩ := trodVars_none hV
  rw [List.append_nil] at hps
  subst hps
  have hargs : ∀ sp : Nat → Bool, (∀ p ∈ before, sp p.block = true) → DataW.TrodAll enc prog W' 0 sp true f.params.toList args.toList ds before :=
    fun sp hsp => args_again hb (DataW.TrodAll.respare K hz hT hA hsp) hlt
  have hres : ∀ (b : Nat) (sp : Nat → Bool) (hd : Bool), DataW.TrodAll enc prog W' b sp hd f.resultTypes.toList ((Value.bool true).resultList f.resultTypes.size) [.lit (.bool true)] [] := fun b sp hd => by
    rw [hf]
    exact trodAll_cons_mk (shut_bool underlying4 _) trodAll_mk0
  have hold : ∀ p ∈ before, (fun b => decide (b < W.heap.size)) p.block = true := fun p hp => by simpa using hlt p hp
  have hvars : ∀ sp, DataW.TrodVars enc prog W' sp s.vars [] [] := fun sp => by rw [hs]; rfl
  refine ⟨ds, [], before, [], before, [], hW0, by rw [hfn]; exact hres _ _ _, by rw [hfn]; exact hargs _ hold, by rw [hfn]; exact hvars _, World.keptBut_mono (fun p hp => ⟨hp, .inr (by simp [hp])⟩) (hb.frame (· ∈ before)), fun _ => ?_⟩
  refine ⟨ok_one hf rfl (okWide_bool_mk underlying4 _), _, _, [] ++ before ++ [], ⟨[] ++ before, [], trodAll_append (hargs _ (fun _ _ => rfl)) (hres _ _ _), hvars _, rfl, ?_, ?_⟩, ?_⟩
  · intro b off hp
    have hin : MemPlace.cell b off ∈ before := by simpa using hp
    rw [hb.frozen (hlt _ hin)]
    exact hz2 b off hin
  · intro ha
    have := hn ha
    simpa using this
  · intro p hp _
    simpa using hp
end
end Go.Proofs.YtljglglbfcgjpaaGreat

namespace Go.Proofs.YtljglglbfcgjpaaGreat
open Go Go.Sym Go.Proofs.Tryz
open Go.ChangeShapes Go.WideShapes Go.ChangeAt Go.RowKit
set_option linter.unusedVariables false
set_option maxRecDepth 4000

theorem all2_of {β : Type} {R : AVal → β → Prop} {Q : β → Prop} : ∀ {l : List AVal}, (∀ x ∈ l, ∃ b, R x b ∧ Q b) → ∃ bs, All2 R l bs ∧ ∀ b ∈ bs, Q b
  | [], _ => ⟨[], .nil, by simp⟩
  | x :: l, h => by
    obtain ⟨b, hb, hq⟩ := h x List.mem_cons_self
    obtain ⟨bs, h1, h2⟩ := all2_of (l := l) (fun y hy => h y (List.mem_cons_of_mem _ hy))
    exact ⟨b :: bs, .cons hb h1, fun c hc => by
      rcases List.mem_cons.1 hc with rfl | hc
      · exact hq
      · exact h2 c hc⟩
theorem all2_map {β : Type} {f : β → AVal} : ∀ {l : List AVal} {bs : List β}, All2 (fun x b => x = f b) l bs → l = bs.map f
  | _, _, .nil => rfl
  | _, _, .cons h t => by rw [h, all2_map t]; rfl
theorem shV_slice {P : Program} {B n : Nat} {t e : TypeId} {l : List AVal} {β : Type} {R : AVal → β → Prop} {Q : β → Prop} (hu : P.underlying t = some (.slice e))
    (he : ∀ n x, x.isAgg = aggT P e → (Sym.cellsOf x).length = P.cellsOf e → ShV P B n e (Sym.cellsOf x) → ∃ b, R x b ∧ Q b) (h : ShV P B n t l) :
    ∃ v L bs, l = [v] ∧ SlOf (P.cellsOf e) v L ∧ All2 R L bs ∧ bs.length ≤ B ∧ ∀ b ∈ bs, Q b := by
  cases n with
  | zero => exact h.elim
  | succ n =>
    simp only [ShV, hu] at h
    rcases h with rfl | ⟨elems, rfl, h1, h2⟩
    · exact ⟨_, [], [], rfl, .nil _, .nil, by simp, by simp⟩
    · obtain ⟨bs, h3, h4⟩ := all2_of (R := R) (Q := Q) (l := elems) (fun x hx => he n x (h2 x hx).1 (h2 x hx).2.1 (h2 x hx).2.2)
      exact ⟨_, elems, bs, rfl, .lsl _ _, h3, by rw [← h3.length]; exact h1, h4⟩
theorem cells_one {x : AVal} (h : x.isAgg = false) : Sym.cellsOf x = [x] := by cases x <;> first | rfl | cases h

theorem ca3 : prog.cellsOf 3 = 1 := by kernel_rfl
theorem ca9 : prog.cellsOf 9 = 1 := by kernel_rfl
theorem ag3 : aggT prog 3 = false := by kernel_rfl
theorem ag9 : aggT prog 9 = false := by kernel_rfl
theorem shV_int {B n : Nat} {x : AVal} (h : ShV prog B n 3 [x]) : ∃ b, x = .int .i64 b := by
  cases n with
  | zero => exact h.elim
  | succ n =>
    simp only [ShV, underlying3] at h
    obtain ⟨b, e, _⟩ := h
    exact ⟨b, by simpa using e⟩
theorem shV_str {B n : Nat} {x : AVal} (h : ShV prog B n 9 [x]) : ∃ s : ByteArray, x = .str s ∧ s.size ≤ B := by
  cases n with
  | zero => exact h.elim
  | succ n =>
    simp only [ShV, underlying9] at h
    obtain ⟨s, e, hs⟩ := h
    exact ⟨s, by simpa using e, hs⟩
section
variable {H : Type} {enc : TypeId × Value → H} {W : World}
theorem arg_slice {t e : TypeId} {v : Value} (hu : prog.underlying t = some (.slice e)) (hv : Value.okWide prog W .any 0 t v) : v.cells.toList = [v] := by
  cases v <;> first | rfl | skip
  simp [Value.okWide, Cell.okWide, Cell.ok, hu] at hv
theorem arg_one {t e : TypeId} {v : Value} (hu : prog.underlying t = some (.slice e)) (hv : Value.okWide prog W .any 0 t v) {B n : Nat} (h : Got prog W B n t v.cells.toList) : ∃ a, RelV (ghost0 W) a v ∧ ShV prog B n t [a] := by
  rw [arg_slice hu hv] at h
  obtain ⟨l, h1, h2, _⟩ := h
  cases h1 with
  | cons a b => cases b; exact ⟨_, a, h2⟩
theorem arg_struct {t : TypeId} {fs : Array Field} {v : Value} (hu : prog.underlying t = some (.struct fs)) (hv : Value.okWide prog W .any 0 t v) {B n : Nat} (h : Got prog W B n t v.cells.toList) : ∃ l, RelV (ghost0 W) (.agg l) v ∧ ShV prog B n t l := by
  simp only [Value.okWide, hu] at hv
  obtain ⟨cs, rfl, _⟩ := hv
  obtain ⟨l, h1, h2, h3⟩ := h
  refine ⟨l, ?_, h2⟩
  have := RelV.agg h3 h1
  simpa [Value.cells] using this
end
end Go.Proofs.YtljglglbfcgjpaaGreat

namespace Go.Proofs.YtljglglbfcgjpaaGreat
open Go Go.Sym Go.Proofs.Tryz
open Go.ChangeShapes Go.WideShapes Go.ChangeAt Go.RowKit
set_option linter.unusedVariables false
set_option maxRecDepth 4000

theorem ca4 : prog.cellsOf 4 = 1 := by kernel_rfl
theorem ag4 : aggT prog 4 = false := by kernel_rfl
theorem ca81 : prog.cellsOf 81 = 1 := by kernel_rfl
theorem ag81 : aggT prog 81 = false := by kernel_rfl
theorem ca26 : prog.cellsOf 26 = 1 := by kernel_rfl
theorem ca28 : prog.cellsOf 28 = 1 := by kernel_rfl
theorem shV_bool {B n : Nat} {x : AVal} (h : ShV prog B n 4 [x]) : ∃ b, x = .bool b := by
  cases n with
  | zero => exact h.elim
  | succ n =>
    simp only [ShV, underlying4] at h
    obtain ⟨b, e⟩ := h
    exact ⟨b, by simpa using e⟩
theorem shV_bools {B n : Nat} {l : List AVal} (h : ShV prog B n 81 l) : ∃ v xs, l = [v] ∧ Bools v xs ∧ xs.length ≤ B := by
  obtain ⟨v, L, bs, rfl, h1, h2, h3, _⟩ := shV_slice (R := fun x b => x = .bool b) (Q := fun _ => True) underlying81 (fun n x ha _ hx => by
    rw [cells_one (ha.trans ag4)] at hx
    obtain ⟨b, hb⟩ := shV_bool hx
    exact ⟨b, hb, trivial⟩) h
  rw [ca4] at h1
  rw [all2_map h2] at h1
  exact ⟨v, bs, rfl, h1, h3⟩
theorem shV_boolss {B n : Nat} {l : List AVal} (h : ShV prog B n 26 l) : ∃ v L, l = [v] ∧ Boolss v L ∧ L.length ≤ B ∧ ∀ r ∈ L, r.length ≤ B := by
  obtain ⟨v, L, bs, rfl, h1, h2, h3, h4⟩ := shV_slice (R := Bools) (Q := fun r => r.length ≤ B) underlying26 (fun n x ha _ hx => by
    rw [cells_one (ha.trans ag81)] at hx
    obtain ⟨v, xs, e, h1, h2⟩ := shV_bools hx
    obtain rfl : x = v := by simpa using e
    exact ⟨xs, h1, h2⟩) h
  rw [ca81] at h1
  exact ⟨v, bs, rfl, ⟨L, h1, h2⟩, h3, h4⟩
theorem shV_alg {B n : Nat} {l : List AVal} (hB : B ≤ 1048576) (h : ShV prog B n 28 l) : ∃ a L, l = [a] ∧ AlgV a L := by
  cases n with
  | zero => exact h.elim
  | succ n =>
    simp only [ShV, underlying28, ca28] at h
    obtain ⟨hl, hf⟩ := h
    have f1 := hf _ (List.mem_cons_self)
    simp only [ca26] at f1
    match l, hl with
    | [a], _ =>
      obtain ⟨v, L, e1, h1, h2, h3⟩ := shV_boolss f1
      obtain rfl : a = v := by simpa using e1
      exact ⟨a, L, rfl, h1, Nat.le_trans h2 hB, fun r hr => Nat.le_trans (h3 r hr) hB⟩
theorem closed_al : closedT prog [28, 26, 81, 4] = true := by kernel_rfl
section
variable {H : Type} {enc : TypeId × Value → H} {W : World}
theorem arg_gotA {t : TypeId} {v : Value} {d : DataW H} {ps : List MemPlace} {B : Nat} (ht : t ∈ [28, 26, 81, 4]) (h : DataW.Trod enc prog W 0 (fun _ => true) true t v d ps) (hb : Rows.uptoBulk d ≤ B) :
    ∃ n, Got prog W B n t v.cells.toList := by
  obtain ⟨n, hn⟩ := h
  exact ⟨n, trod_rel bulkOK closed_al n t _ _ ht hn hb⟩
end
end Go.Proofs.YtljglglbfcgjpaaGreat

namespace Go.Proofs.YtljglglbfcgjpaaGreat
open Go Go.Sym Go.Proofs.Tryz
open Go.ChangeShapes Go.WideShapes Go.ChangeAt Go.RowKit
set_option linter.unusedVariables false
set_option maxRecDepth 4000

theorem ca69 : prog.cellsOf 69 = 1 := by kernel_rfl
theorem ca71 : prog.cellsOf 71 = 4 := by kernel_rfl
theorem ag71 : aggT prog 71 = true := by kernel_rfl
theorem closed_nodes : closedT prog [55, 71, 69, 9, 3] = true := by kernel_rfl
theorem shV_int69 {B n : Nat} {x : AVal} (h : ShV prog B n 69 [x]) : ∃ b, x = .int .i64 b := by
  cases n with
  | zero => exact h.elim
  | succ n =>
    simp only [ShV, underlying69] at h
    obtain ⟨b, e, _⟩ := h
    exact ⟨b, by simpa using e⟩
theorem shV_node {B n : Nat} {l : List AVal} (h : ShV prog B n 71 l) : ∃ x : Nd, l = nodeC x ∧ x.s.size ≤ B := by
  cases n with
  | zero => exact h.elim
  | succ n =>
    simp only [ShV, underlying71, ca71] at h
    obtain ⟨hl, hf⟩ := h
    have f1 := hf _ (List.mem_cons_self)
    have f2 := hf _ (List.mem_cons_of_mem _ List.mem_cons_self)
    have f3 := hf _ (List.mem_cons_of_mem _ (List.mem_cons_of_mem _ List.mem_cons_self))
    have f4 := hf _ (List.mem_cons_of_mem _ (List.mem_cons_of_mem _ (List.mem_cons_of_mem _ List.mem_cons_self)))
    simp only [ca69, ca9, ca3] at f1 f2 f3 f4
    match l, hl with
    | [a, b, c, d], _ =>
      obtain ⟨k, rfl⟩ := shV_int69 f1
      obtain ⟨s, rfl, hs⟩ := shV_str f2
      obtain ⟨l, rfl⟩ := shV_int f3
      obtain ⟨r, rfl⟩ := shV_int f4
      exact ⟨⟨k, s, l, r⟩, rfl, hs⟩
theorem shV_nodes {B n : Nat} {l : List AVal} (h : ShV prog B n 55 l) : ∃ v xs, l = [v] ∧ Nodes v xs ∧ xs.length ≤ B ∧ ∀ x ∈ xs, x.s.size ≤ B := by
  obtain ⟨v, L, bs, rfl, h1, h2, h3, h4⟩ := shV_slice (R := fun x b => x = nodeV b) (Q := fun b => b.s.size ≤ B) underlying55 (fun n x ha _ hx => by
    rw [ag71] at ha
    match x, ha, hx with
    | .agg cs, _, hx =>
    obtain ⟨x, e, hs⟩ := shV_node hx
    obtain rfl : cs = nodeC x := e
    exact ⟨x, rfl, hs⟩) h
  rw [ca71] at h1
  rw [all2_map h2] at h1
  exact ⟨v, bs, rfl, h1, h3, h4⟩
section
variable {H : Type} {enc : TypeId × Value → H} {W : World}
theorem arg_gotN {t : TypeId} {v : Value} {d : DataW H} {ps : List MemPlace} {B : Nat} (ht : t ∈ [55, 71, 69, 9, 3]) (h : DataW.Trod enc prog W 0 (fun _ => true) true t v d ps) (hb : Rows.uptoBulk d ≤ B) : ∃ n, Got prog W B n t v.cells.toList := by
  obtain ⟨n, hn⟩ := h
  exact ⟨n, trod_rel bulkOK closed_nodes n t _ _ ht hn hb⟩
end
end Go.Proofs.YtljglglbfcgjpaaGreat

namespace Go.Proofs.YtljglglbfcgjpaaGreat
open Go Go.Sym Go.Proofs.Tryz
open Go.ChangeShapes Go.WideShapes Go.ChangeAt Go.RowKit
set_option linter.unusedVariables false
set_option maxRecDepth 4000

theorem ca73 : prog.cellsOf 73 = 2 := by kernel_rfl
theorem ag73 : aggT prog 73 = true := by kernel_rfl
theorem closed_hyps : closedT prog [36, 73, 9, 3] = true := by kernel_rfl
theorem shV_hyp {B n : Nat} {l : List AVal} (h : ShV prog B n 73 l) : ∃ x : Hy, l = hyC x ∧ x.s.size ≤ B := by
  cases n with
  | zero => exact h.elim
  | succ n =>
    simp only [ShV, underlying73, ca73] at h
    obtain ⟨hl, hf⟩ := h
    have f1 := hf _ (List.mem_cons_self)
    have f2 := hf _ (List.mem_cons_of_mem _ List.mem_cons_self)
    simp only [ca9, ca3] at f1 f2
    match l, hl with
    | [a, b], _ =>
      obtain ⟨s, rfl, hs⟩ := shV_str f1
      obtain ⟨f, rfl⟩ := shV_int f2
      exact ⟨⟨s, f⟩, rfl, hs⟩
theorem shV_hyps {B n : Nat} {l : List AVal} (h : ShV prog B n 36 l) : ∃ v xs, l = [v] ∧ Hyps v xs ∧ xs.length ≤ B ∧ ∀ x ∈ xs, x.s.size ≤ B := by
  obtain ⟨v, L, bs, rfl, h1, h2, h3, h4⟩ := shV_slice (R := fun x b => x = hyV b) (Q := fun b => b.s.size ≤ B) underlying36 (fun n x ha _ hx => by
    rw [ag73] at ha
    match x, ha, hx with
    | .agg cs, _, hx =>
    obtain ⟨x, e, hs⟩ := shV_hyp hx
    obtain rfl : cs = hyC x := e
    exact ⟨x, rfl, hs⟩) h
  rw [ca73] at h1
  rw [all2_map h2] at h1
  exact ⟨v, bs, rfl, h1, h3, h4⟩
section
variable {H : Type} {enc : TypeId × Value → H} {W : World}
theorem arg_gotH {t : TypeId} {v : Value} {d : DataW H} {ps : List MemPlace} {B : Nat} (ht : t ∈ [36, 73, 9, 3]) (h : DataW.Trod enc prog W 0 (fun _ => true) true t v d ps) (hb : Rows.uptoBulk d ≤ B) : ∃ n, Got prog W B n t v.cells.toList := by
  obtain ⟨n, hn⟩ := h
  exact ⟨n, trod_rel bulkOK closed_hyps n t _ _ ht hn hb⟩
end
end Go.Proofs.YtljglglbfcgjpaaGreat

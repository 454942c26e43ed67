/- Contracts: a table that no call made. No condition. From a reading to inputs of a law: whole numbers and texts alone; the row's last step. No condition. Printed by lay.py (this repo, wip/tools): where the library's functions stand in the given program. No condition. r26's heads: run by the kernel; the sort is known by its contract; what a table's Below answers is given, and shown on the way in every order. No condition. Contracts: rungs of the ladder: a number's rung, what worlds it has, its number. No condition. Contracts: the program's meeting, joining and implying of two rungs. No condition. Contracts: the program's reckoning with numbers of rungs. No condition. Contracts: the program's Below, Meet, Join, Imp. No condition. Plain facts: what worlds a reckoned rung has. No condition. Plain law: rungs are a Heyting algebra. No condition. NishimuraHeyting over its inputs. No condition. -/
import Derived.Test.YtobpfhmjdoekfaaM5
import Derived.Test.YtobpfhmjdoekfaaPM0
import Derived.Test.YtobpfhmjdoekfaaRows
import Derived.WalkKit
import Derived.ProofKit
import Derived.OpenShut
import Derived.JoinedCond
import Derived.Below
import Derived.ChangeSame
import Derived.ReadAgain
import Derived.Test.YtobpfhmjdoekfaaProg
import Derived.Shelf.Sort.Plain
import Derived.KernelRfl
import Derived.Test.YtobpfhmjdoekfaaM6

set_option linter.unusedVariables false
set_option linter.unusedSimpArgs false

namespace Go.Proofs.Ytobpfhmjdoekfaa
open Go Go.Sym Go.Proofs.Try

variable {K : AVal → Heap → Prop} {h : Heap} {t : AVal}

/-- a table that no call made -/
def Dead (h : Heap) (t : AVal) : Prop := t = .nilptr ∨ ∃ r, t = .ptr r 0 0 ∧ h r = some (.row 2 [.agg [.nilsl, .nilmap]])
/-- there may be new things -/
def Ext (h h' : Heap) : Prop := ∀ q o, h q = some o → h' q = some o
theorem Ext.refl (h : Heap) : Ext h h := fun _ _ e => e
theorem Ext.trans {a b c : Heap} (x : Ext a b) (y : Ext b c) : Ext a c := fun q o e => y q o (x q o e)
theorem Ext.new {h : Heap} {r : Nat} (hr : h r = none) (o : AObj) : Ext h (h.set r o) := fun q o' e => by
  have : q ≠ r := fun e' => by rw [e', hr] at e; cases e
  rw [Heap.set_other _ _ this]
  exact e
theorem Ext.put {h h' : Heap} {r : Nat} (x : Ext h h') (hr : h r = none) (o : AObj) : Ext h (h'.set r o) := fun q o' e => by
  have : q ≠ r := fun e' => by rw [e', hr] at e; cases e
  rw [Heap.set_other _ _ this]
  exact x q o' e
theorem Dead.ext {h h' : Heap} (x : Ext h h') (d : Dead h t) : Dead h' t := by
  rcases d with d | ⟨r, e, hr⟩
  · exact .inl d
  · exact .inr ⟨r, e, x r _ hr⟩

theorem nilP_nil (X : Bool → Prop) : nilP .nilptr X = X true := rfl
theorem nilP_ptr (r i o : Nat) (X : Bool → Prop) : nilP (.ptr r i o) X = X false := rfl
theorem nilCheckA_ptr (r i o : Nat) (X : AVal → Prop) : nilCheckA (.ptr r i o) X = X (.ptr r i o) := rfl
theorem alive_dead (d : Dead h t) (hk : K (.bool false) h) : ACalls prog 58 [t] h K := by
  refine s58_ok ?_
  unfold s58
  rcases d with rfl | ⟨r, rfl, hr⟩
  · rw [nilP_nil]
    exact ifT_neg rfl (retG_of hk)
  · rw [nilP_ptr]
    refine ifT_pos rfl ?_
    rw [nilCheckA_ptr, addOff_ptr, ld1_fld hr rfl]
    exact retG_of hk
theorem copy_dead (d : Dead h t) (hk : K .nilptr h) : ACalls prog 52 [t] h K := by
  refine s52_ok ?_
  unfold s52
  refine callG_of (alive_dead d ?_)
  rw [tBool_bool]
  exact ifT_pos rfl (retG_of hk)
def zRow : List AVal := [.int .i64 0, .str (ByteArray.mk #[]), .int .i64 0, .int .i64 0]
theorem st_z {H : Heap} {r : Nat} (hr : H r = some (.row 4 [.agg zRow])) {a b c d : AVal} {X : Heap → Prop} (hx : X (H.set r (.row 4 [.agg [a, b, c, d]]))) : st false H (.ptr r 0 0) [a, b, c, d] X := by
  simp only [st, hr, List.getElem?_cons_zero]
  exact chk_iff.2 ⟨rfl, hx⟩
theorem row_dead (d : Dead h t) (i : Int) (hk : ∀ h', Ext h h' → K (.tuple [.agg zRow, .int .i64 1]) h') : ACalls prog 70 [t, .int .i64 i] h K := by
  refine s70_ok ?_
  unfold s70
  refine newRow_in fun r hr => callG_of (copy_dead (d.ext (Ext.new hr _)) ?_)
  rw [nilP_nil]
  refine ifT_pos rfl ?_
  refine st_z (Heap.set_same _ _ _) ?_
  rw [ldN_fld (n := 4) (cs := [.int .i64 0, .str (ByteArray.mk #[]), .int .i64 0, .int .i64 0]) (Heap.set_same _ _ _) rfl]
  exact retG_of (hk _ ((Ext.new hr _).put hr _))
theorem atoms_dead (d : Dead h t) (i : Int) (hk : ∀ h', Ext h h' → K (.tuple [.nilsl, .int .i64 1]) h') : ACalls prog 56 [t, .int .i64 i] h K := by
  refine s56_ok ?_
  unfold s56
  refine callG_of (row_dead d i fun h' x => ?_)
  simp only [tTup_tuple, tCons_cons, tInt_int, tNil_nil, zRow, tAgg_agg, tStr_str]
  refine newRow_in fun r hr => ?_
  refine st_z (Heap.set_same _ _ _) ?_
  exact ifT_pos rfl (retG_of (hk _ (x.trans ((Ext.new hr _).put hr _))))
theorem rung_dead (d : Dead h t) (i : Int) (hk : ∀ h', Ext h h' → K (.tuple [.int .i64 0, .int .i64 1]) h') : ACalls prog 35 [t, .int .i64 i] h K := by
  refine s35_ok ?_
  unfold s35
  refine callG_of (atoms_dead d i fun h' x => ?_)
  simp only [tTup_tuple, tCons_cons, tInt_int, tNil_nil]
  exact ifT_pos rfl (retG_of (hk _ x))
theorem equal_dead (d : Dead h t) (i j : Int) (hk : ∀ h', Ext h h' → K (.tuple [.bool false, .int .i64 1]) h') : ACalls prog 41 [t, .int .i64 i, .int .i64 j] h K := by
  refine s41_ok ?_
  unfold s41
  refine callG_of (rung_dead d i fun h' x => ?_)
  simp only [tTup_tuple, tCons_cons, tInt_int, tNil_nil]
  exact ifT_pos rfl (retG_of (hk _ x))
theorem ladder_dead (d : Dead h t) (s : ByteArray) (k : Int) (hk : K (.tuple [.int .i64 0, .int .i64 1]) h) : ACalls prog 34 [t, .str s, .int .i64 k] h K := by
  refine s34_ok ?_
  unfold s34
  refine callG_of (copy_dead d ?_)
  rw [nilP_nil]
  exact ifT_pos rfl (retG_of hk)
theorem nobody_dead (d : Dead h t) (i k : Int) (hk : ∀ h', Ext h h' → K (.bool true) h') : ACalls prog 20 [t, .int .i64 i, .int .i64 k] h K := by
  refine s20_ok ?_
  unfold s20
  refine callG_of (ladder_dead d _ k ?_)
  simp only [tTup_tuple, tCons_cons, tInt_int, tNil_nil]
  refine callG_of (rung_dead d i fun h1 x1 => ?_)
  simp only [tTup_tuple, tCons_cons, tInt_int, tNil_nil]
  refine callG_of (equal_dead (d.ext x1) i i fun h2 x2 => ?_)
  simp only [tTup_tuple, tCons_cons, tInt_int, tNil_nil, tBool_bool]
  exact ifT_pos rfl (ifT_pos rfl (ifT_pos rfl (ifT_pos rfl (ifT_pos rfl (retG_of (hk _ (x1.trans x2)))))))
theorem nobodyL_ok (heads : ∀ {h' : Heap} {K : AVal → Heap → Prop}, K (.bool true) h' → ACalls prog 16 [] h' K) (i k : Int) (hk : ∀ h', K (.bool true) h') : ACalls prog 6 [.int .i64 i, .int .i64 k] h K := by
  refine s6_ok ?_
  unfold s6
  refine callG_of (nobody_dead (.inl rfl) i k fun h1 x1 => ?_)
  rw [tBool_bool]
  refine ifT_pos rfl (newRow_in fun r hr => callG_of (nobody_dead (.inr ⟨r, rfl, Heap.set_same _ _ _⟩) i k fun h2 x2 => ?_))
  rw [tBool_bool]
  refine ifT_pos rfl (callG_of (heads ?_))
  rw [tBool_bool]
  exact retG_of (hk _)
end Go.Proofs.Ytobpfhmjdoekfaa

namespace Go.Proofs.Ytobpfhmjdoekfaa
open Go Go.Sym Go.Proofs.Try
open Go.ChangeShapes Go.WideShapes Go.ChangeAt Go.RowKit
set_option linter.unusedVariables false
set_option maxRecDepth 4000

/- ---- the measure ---- -/
theorem bulk_one {H : Type} (d : DataW H) : 1 ≤ Rows.uptoBulk d := by
  cases d with
  | lit l => cases l <;> simp [Rows.uptoBulk]
  | nil => simp [Rows.uptoBulk]
  | ptr d => simp [Rows.uptoBulk]
  | slice elems spare => simp [Rows.uptoBulk]
  | agg parts => simp [Rows.uptoBulk]
  | iface t d => simp [Rows.uptoBulk]
  | map entries => simp [Rows.uptoBulk]
  | held h => simp [Rows.uptoBulk]
theorem bulk_mem {H : Type} {d : DataW H} {l : List (DataW H)} (h : d ∈ l) : Rows.uptoBulk d ≤ Rows.uptoBulkAll l := by
  induction l with
  | nil => cases h
  | cons x r ih =>
    simp only [Rows.uptoBulkAll]
    rcases List.mem_cons.1 h with e | e
    · subst e; omega
    · have := ih e; omega
theorem bulk_len {H : Type} (l : List (DataW H)) : l.length ≤ Rows.uptoBulkAll l := by
  induction l with
  | nil => simp
  | cons x r ih =>
    have := bulk_one x
    simp only [Rows.uptoBulkAll, List.length_cons]
    omega
theorem bulkOK {H : Type} : BulkOK (Rows.uptoBulk (H := H)) where
  str l := by simp [Rows.uptoBulk]
  ptr d := by simp [Rows.uptoBulk]
  len l r := by have := bulk_len l; simp only [Rows.uptoBulk]; omega
  elem l r d h := by have := bulk_mem h; simp only [Rows.uptoBulk]; omega
  part l d h := by have := bulk_mem h; simp only [Rows.uptoBulk]; omega

theorem closed_ts : closedT prog [3, 9] = true := by kernel_rfl

section
variable {H : Type} {enc : TypeId × Value → H} {W : World}
theorem arg_got {t : TypeId} {v : Value} {d : DataW H} {ps : List MemPlace} {B : Nat} (ht : t ∈ [3, 9]) (h : DataW.Trod enc prog W 0 (fun _ => true) true t v d ps) (hb : Rows.uptoBulk d ≤ B) :
    ∃ n, Got prog W B n t v.cells.toList := by
  obtain ⟨n, hn⟩ := h
  exact ⟨n, trod_rel bulkOK closed_ts n t _ _ ht hn hb⟩
theorem arg_int {t : TypeId} {v : Value} (hu : prog.underlying t = some (.int .i64)) (hv : Value.okWide prog W .any 0 t v) {B n : Nat} (h : Got prog W B n t v.cells.toList) : ∃ z : Int, RelV (ghost0 W) (.int .i64 z) v := by
  have hc : v.cells.toList = [v] := by
    cases v <;> first | rfl | skip
    simp [Value.okWide, Cell.okWide, Cell.ok, hu] at hv
  rw [hc] at h
  obtain ⟨l, h1, h2, _⟩ := h
  cases h1 with
  | @cons a x l xs ha hb =>
    cases hb
    cases n with
    | zero => exact h2.elim
    | succ n =>
      simp only [ShV, hu] at h2
      obtain ⟨z, e, _⟩ := h2
      obtain rfl : a = .int .i64 z := by simpa using e
      exact ⟨z, ha⟩

theorem arg_str {t : TypeId} {v : Value} (hu : prog.underlying t = some .string) (hv : Value.okWide prog W .any 0 t v) {B n : Nat} (h : Got prog W B n t v.cells.toList) : ∃ z : ByteArray, RelV (ghost0 W) (.str z) v ∧ z.size ≤ B := by
  have hc : v.cells.toList = [v] := by
    cases v <;> first | rfl | skip
    simp [Value.okWide, Cell.okWide, Cell.ok, hu] at hv
  rw [hc] at h
  obtain ⟨l, h1, h2, _⟩ := h
  cases h1 with
  | @cons a x l xs ha hb =>
    cases hb
    cases n with
    | zero => exact h2.elim
    | succ n =>
      simp only [ShV, hu] at h2
      obtain ⟨z, e, hz⟩ := h2
      obtain rfl : a = .str z := by simpa using e
      exact ⟨z, ha, hz⟩

/- ---- what a law leaves ---- -/
theorem law_calls {f : FuncId} {avs : List AVal} {args : Array Value} (hr : RelVs (ghost0 W) avs args.toList) (hA : ACalls prog f avs (fun _ => none) (fun v _ => v = .bool true)) :
    Calls prog f args W fun e W' => e = .returned (.bool true) ∧ Below W.heap.size W W' := by
  have := hA.2 (ghost0 W) args.toList W hr (relH0 W)
  simp only [Array.toArray_toList] at this
  refine this.mono ?_
  rintro e w' ⟨v, κ', av, h', rfl, le, H', hv, rfl⟩
  cases hv
  have hb : ∀ k, k < W.heap.size → w'.heap[k]? = W.heap[k]? := fun k hk => by
    have e1 : W.heap[k]? = some W.heap[k] := by simp [hk]
    rw [H'.imm k _ (le.imm k _ e1), e1]
  refine ⟨rfl, H'.os.trans le.os, H'.tape.trans le.tape, H'.output.trans le.output, ?_, hb⟩
  by_cases h0 : W.heap.size = 0
  · omega
  · have e1 := hb (W.heap.size - 1) (by omega)
    have e2 : W.heap[W.heap.size - 1]? = some W.heap[W.heap.size - 1] := by simp
    rw [e2] at e1
    have := (Array.getElem?_eq_some_iff.1 e1).1
    omega
theorem same_at {W' : World} (hb : Below W.heap.size W W') {p : MemPlace} (hp : p.block < W.heap.size) : W.sameAt W' p := by
  have := hb.block p.block hp
  cases p with
  | cell b off =>
    show W'.cell? ⟨b, off, none⟩ = W.cell? ⟨b, off, none⟩
    simp only [MemPlace.block] at this
    unfold World.cell?
    rw [this]
  | map b => exact this
theorem args_again {W' : World} (hb : Below W.heap.size W W') {sp : Nat → Bool} {held : Bool} {base : Nat} : ∀ {ts : List TypeId} {vs : List Value} {ds : List (DataW H)} {ps : List MemPlace}, DataW.TrodAll enc prog W base sp held ts vs ds ps → (∀ p ∈ ps, p.block < W.heap.size) → DataW.TrodAll enc prog W' base sp held ts vs ds ps
  | [], [], [], _, h, _ => h
  | _ :: _, _ :: _, _ :: _, _, ⟨p, q, ⟨n, h1⟩, h2, e⟩, hl => ⟨p, q, ⟨n, DataW.trod_carry n _ _ _ h1 (fun x hx => same_at hb (hl x (by rw [e]; exact List.mem_append_left _ hx)))⟩, args_again hb h2 (fun x hx => hl x (by rw [e]; exact List.mem_append_right _ hx)), e⟩
/-- the row's last step: it answered true, and what was there stands -/
theorem post_true {f : Func} {s : ChangeSpec} {apart fresh handsOn again : Bool} {W' : World} {args : Array Value} {ds : List (DataW H)} {before : List MemPlace} (hf : f.resultTypes = #[4]) (hs : s.vars = [])
    (hfn : s.fn H (ds ++ []) = { results := [.lit (.bool true)], args := ds }) (hT : ∀ t ∈ f.params.toList, t < prog.types.size) (K : Kids prog (· < prog.types.size)) (hz : ∀ t e, t < prog.types.size → prog.underlying t = some (.slice e) → 0 < prog.cellsOf e)
    (hW : DataW.Whole enc prog f.params.toList s.vars apart W args.toList ds [] before) (hb : Below W.heap.size W W') : s.post enc prog f apart fresh handsOn again W args (.bool true) W' := by
  have hlt : ∀ p ∈ before, p.block < W.heap.size := fun p hp => hW.lt p hp
  have hW0 := hW
  obtain ⟨pa, q, hA, hV, hps, hz2, hn⟩ := hW
  rw [hs] at hV
  obtain ⟨_, rfl⟩ := trodVars_none hV
  rw [List.append_nil] at hps
  subst hps
  have hargs : ∀ sp : Nat → Bool, (∀ p ∈ before, sp p.block = true) → DataW.TrodAll enc prog W' 0 sp true f.params.toList args.toList ds before :=
    fun sp hsp => args_again hb (DataW.TrodAll.respare K hz hT hA hsp) hlt
  have hres : ∀ (b : Nat) (sp : Nat → Bool) (hd : Bool), DataW.TrodAll enc prog W' b sp hd f.resultTypes.toList ((Value.bool true).resultList f.resultTypes.size) [.lit (.bool true)] [] := fun b sp hd => by
    rw [hf]
    exact trodAll_cons_mk (shut_bool underlying4 _) trodAll_mk0
  have hold : ∀ p ∈ before, (fun b => decide (b < W.heap.size)) p.block = true := fun p hp => by simpa using hlt p hp
  have hvars : ∀ sp, DataW.TrodVars enc prog W' sp s.vars [] [] := fun sp => by rw [hs]; rfl
  refine ⟨ds, [], before, [], before, [], hW0, by rw [hfn]; exact hres _ _ _, by rw [hfn]; exact hargs _ hold, by rw [hfn]; exact hvars _, World.keptBut_mono (fun p hp => ⟨hp, .inr (by simp [hp])⟩) (hb.frame (· ∈ before)), fun _ => ?_⟩
  refine ⟨ok_one hf rfl (okWide_bool_mk underlying4 _), _, _, [] ++ before ++ [], ⟨[] ++ before, [], trodAll_append (hargs _ (fun _ _ => rfl)) (hres _ _ _), hvars _, rfl, ?_, ?_⟩, ?_⟩
  · intro b off hp
    have hin : MemPlace.cell b off ∈ before := by simpa using hp
    rw [hb.frozen (hlt _ hin)]
    exact hz2 b off hin
  · intro ha
    have := hn ha
    simpa using this
  · intro p hp _
    simpa using hp
end
end Go.Proofs.Ytobpfhmjdoekfaa

namespace Go.Proofs.Ytobpfhmjdoekfaa
open Go Go.Proofs Go.Shelf
def layI_ren : Ren := ⟨fun | 189 => 73 | 125 => 77 | 257 => 78 | 128 => 89 | 129 => 90 | 294 => 91 | 295 => 92 | 296 => 93 | 297 => 94 | 298 => 95 | 299 => 96 | 216 => 97 | 300 => 98 | 301 => 99 | 328 => 106 | 329 => 101 | 330 => 102 | 331 => 107 | 332 => 108 | 215 => 109 | 343 => 111 | n => n, fun | 28 => 69 | 3 => 3 | 46 => 103 | 0 => 0 | 51 => 115 | 53 => 117 | 4 => 4 | 183 => 108 | 182 => 107 | 131 => 79 | 5 => 5 | 9 => 9 | 218 => 123 | 222 => 127 | 228 => 131 | 229 => 29 | n => n, fun n => n⟩
set_option maxRecDepth 100000 in
theorem layI : Lays.n189 Try.prog layI_ren := {
  mixed := by kernel_rfl,
  f125 := Try.func77.trans (congrArg some (by kernel_rfl)),
  f128 := Try.func89.trans (congrArg some (by kernel_rfl)),
  f129 := Try.func90.trans (congrArg some (by kernel_rfl)),
  f189 := Try.func73.trans (congrArg some (by kernel_rfl)),
  f215 := Try.func109.trans (congrArg some (by kernel_rfl)),
  f216 := Try.func97.trans (congrArg some (by kernel_rfl)),
  f257 := Try.func78.trans (congrArg some (by kernel_rfl)),
  f294 := Try.func91.trans (congrArg some (by kernel_rfl)),
  f295 := Try.func92.trans (congrArg some (by kernel_rfl)),
  f296 := Try.func93.trans (congrArg some (by kernel_rfl)),
  f297 := Try.func94.trans (congrArg some (by kernel_rfl)),
  f298 := Try.func95.trans (congrArg some (by kernel_rfl)),
  f299 := Try.func96.trans (congrArg some (by kernel_rfl)),
  f300 := Try.func98.trans (congrArg some (by kernel_rfl)),
  f301 := Try.func99.trans (congrArg some (by kernel_rfl)),
  f328 := Try.func106.trans (congrArg some (by kernel_rfl)),
  f329 := Try.func101.trans (congrArg some (by kernel_rfl)),
  f330 := Try.func102.trans (congrArg some (by kernel_rfl)),
  f331 := Try.func107.trans (congrArg some (by kernel_rfl)),
  f332 := Try.func108.trans (congrArg some (by kernel_rfl)),
  f343 := Try.func111.trans (congrArg some (by kernel_rfl)),
  t0 := Try.underlying0,
  a0 := Try.isAgg0,
  z0 := Try.sizeOf0,
  v0 := Try.zeroValue0,
  t3 := Try.underlying3,
  a3 := Try.isAgg3,
  z3 := Try.sizeOf3,
  v3 := Try.zeroValue3,
  t4 := Try.underlying4,
  a4 := Try.isAgg4,
  z4 := Try.sizeOf4,
  v4 := Try.zeroValue4,
  t5 := Try.underlying5,
  a5 := Try.isAgg5,
  z5 := Try.sizeOf5,
  v5 := Try.zeroValue5,
  t9 := Try.underlying9,
  a9 := Try.isAgg9,
  z9 := Try.sizeOf9,
  v9 := Try.zeroValue9,
  t28 := Try.underlying69,
  a28 := Try.isAgg69,
  z28 := Try.sizeOf69,
  v28 := Try.zeroValue69,
  t46 := Try.underlying103,
  a46 := Try.isAgg103,
  z46 := Try.sizeOf103,
  v46 := Try.zeroValue103,
  t51 := Try.underlying115,
  a51 := Try.isAgg115,
  z51 := Try.sizeOf115,
  v51 := Try.zeroValue115,
  t53 := Try.underlying117,
  a53 := Try.isAgg117,
  z53 := Try.sizeOf117,
  v53 := Try.zeroValue117,
  t131 := Try.underlying79,
  a131 := Try.isAgg79,
  z131 := Try.sizeOf79,
  v131 := Try.zeroValue79,
  t182 := Try.underlying107,
  a182 := Try.isAgg107,
  z182 := Try.sizeOf107,
  v182 := Try.zeroValue107,
  t183 := Try.underlying108,
  a183 := Try.isAgg108,
  z183 := Try.sizeOf108,
  v183 := Try.zeroValue108,
  t218 := Try.underlying123,
  a218 := Try.isAgg123,
  z218 := Try.sizeOf123,
  v218 := Try.zeroValue123,
  t222 := Try.underlying127,
  a222 := Try.isAgg127,
  z222 := Try.sizeOf127,
  v222 := Try.zeroValue127,
  t228 := Try.underlying131,
  a228 := Try.isAgg131,
  z228 := Try.sizeOf131,
  v228 := Try.zeroValue131,
  t229 := Try.underlying29,
  a229 := Try.isAgg29,
  z229 := Try.sizeOf29,
  v229 := Try.zeroValue29 }
end Go.Proofs.Ytobpfhmjdoekfaa

namespace Go.Proofs.Ytobpfhmjdoekfaa
open Go Go.Sym Go.Proofs Go.Proofs.Try
def isSort (f : FuncId) : Bool := Nat.beq f 73
theorem runSort_ok : CalleeOK prog (xcallS prog isSort sortX 20000 60) := xcallS_ok (fun f args n m K hf wf h => by
  have hf : f = 73 := Nat.eq_of_beq_eq_true hf
  subst hf
  exact sortX_ok (g := 73) layI (by kernel_rfl) wf h) 60
def isBelow (f : FuncId) : Bool := Nat.beq f 57
def ansBelow (_ : FuncId) (args : List AVal) : Option (List AVal) := match args with
  | [_, .int _ i] => match Int.toNat i with
    | 4 => some [.lsl 1 [.int .i64 0, .int .i64 1, .int .i64 2, .int .i64 3, .int .i64 4], .int .i64 0]
    | _ => none
  | _ => none
theorem runHeads_ok : CalleeOK prog (xcallS prog isBelow (givenB (xcallS prog isSort sortX 20000 60) ansBelow) 20000 60) :=
  xcallS_ok (fun f args n m K _ wf h => givenB_ok runSort_ok f args n m K wf h) 60
set_option maxRecDepth 1000000 in
theorem heads26 : xcallS prog isBelow (givenB (xcallS prog isSort sortX 20000 60) ansBelow) 20000 60 16 [] 0 .leaf isTrueA = true := by kernel_rfl
/-- r26's heads answer true and leave all as it was -/
theorem heads_at {h : Heap} {K : AVal → Heap → Prop} (hk : K (.bool true) h) : ACalls prog 16 [] h K := heads_okC runHeads_ok heads26 hk
end Go.Proofs.Ytobpfhmjdoekfaa

namespace Go.Proofs.Ytobpfhmjdoekfaa
open Go Go.Sym Go.Proofs.Try

variable {K : AVal → Heap → Prop} {h : Heap}

structure Rung where
  all : Bool
  low : Nat
  gap : Bool
def Rung.cells (r : Rung) : List AVal := [.bool r.all, .int .i64 r.low, .bool r.gap]
def Rung.v (r : Rung) : AVal := .agg r.cells
def Rung.zero : Rung := ⟨false, 0, false⟩
def Rung.has (r : Rung) (w : Nat) : Bool := r.all || (decide (w < r.low) || (r.gap && w == r.low + 1))
/-- a number's rung -/
def ofK (k : Int) : Option Rung :=
  if k = -1 then some ⟨true, 0, false⟩ else if k < 0 ∨ 4096 < k then none else if k = 0 then some Rung.zero
  else if k % 2 = 1 then some ⟨false, ((k + 1) / 2).toNat, false⟩ else some ⟨false, (k / 2 - 1).toNat, true⟩
def Rung.num (r : Rung) : Int := if r.all then -1 else if r.gap then 2 * r.low + 2 else if r.low = 0 then 0 else 2 * r.low - 1

theorem ofK_low {k : Int} {r : Rung} (e : ofK k = some r) : r.low ≤ 2048 := by
  unfold ofK at e
  repeat' split at e
  all_goals first
    | cases e
    | skip
  all_goals simp [Rung.zero]
  all_goals omega

theorem st3 {H : Heap} {r : Nat} {a b c a' b' c' : AVal} (hr : H r = some (.row 3 [.agg [a', b', c']])) {X : Heap → Prop} (hx : X (H.set r (.row 3 [.agg [a, b, c]]))) : st false H (.ptr r 0 0) [a, b, c] X := by
  simp only [st, hr, List.getElem?_cons_zero]
  exact chk_iff.2 ⟨rfl, hx⟩
theorem ld3 {H : Heap} {r : Nat} {a b c : AVal} (hr : H r = some (.row 3 [.agg [a, b, c]])) {X : List AVal → Prop} (hx : X [a, b, c]) : ldN 3 H (.ptr r 0 0) X := by
  rw [ldN_fld (n := 3) (cs := [a, b, c]) hr rfl]
  exact hx
theorem ldL {H : Heap} {a b c : AVal} {X : List AVal → Prop} (hx : X [a, b, c]) : ldN 3 H (.lptr [a, b, c]) X := by
  rw [ldN_lptr 3 H _ _ (by simp)]
  exact hx

theorem of_ok (k : Int) (hk : ∀ h', Ext h h' → K (.tuple [((ofK k).getD Rung.zero).v, .bool (ofK k).isSome]) h') : ACalls prog 21 [.int .i64 k] h K := by
  refine s21_ok ?_
  unfold s21
  refine newRow_in fun r hr => ?_
  have x0 : Ext h (h.set r (.row 3 [.agg [.bool false, .int .i64 0, .bool false]])) := Ext.new hr _
  have fin : ∀ (g : Rung) (b : Bool) {X : AVal → Heap → Prop} (_ : ∀ h', Ext h h' → X (.tuple [g.v, .bool b]) h'),
      st false (h.set r (.row 3 [.agg [.bool false, .int .i64 0, .bool false]])) (.ptr r 0 0) g.cells fun h_1 => ldN 3 h_1 (.ptr r 0 0) fun l_ => tCons l_ fun v l_1 => tBool v fun v1 => tCons l_1 fun v2 l_2 => tInt .i64 v2 fun v3 => tCons l_2 fun v4 l_3 => tBool v4 fun v5 => tNil l_3 (retG (.tuple [.agg [.bool v1, .int .i64 v3, .bool v5], .bool b]) h_1 X) := by
    intro g b X hX
    refine st3 (Heap.set_same _ _ _) (ld3 (Heap.set_same _ _ _) ?_)
    simp only [tCons_cons, tBool_bool, tInt_int, tNil_nil]
    exact retG_of (hX _ (x0.put hr _))
  have bad : (k < 0 ∨ 4096 < k) → k ≠ -1 → s21c1 K k (.ptr r 0 0) true (h.set r (.row 3 [.agg [.bool false, .int .i64 0, .bool false]])) := fun h1 h2 => by
    have e : ofK k = none := by unfold ofK; rw [if_neg h2, if_pos h1]
    rw [e] at hk
    exact ifT_pos rfl (fin Rung.zero false hk)
  by_cases h1 : k = -1
  · subst h1
    exact ifT_pos rfl (fin ⟨true, 0, false⟩ true (by simpa [ofK] using hk))
  · refine ifT_neg (by simpa using h1) ?_
    by_cases h2 : k < 0
    · exact ifT_pos (by simpa using h2) (bad (.inl h2) h1)
    · refine ifT_neg (by simpa using h2) ?_
      by_cases h3 : 4096 < k
      · rw [show decide (4096 < k) = true by simpa using h3]
        exact bad (.inr h3) h1
      · rw [show decide (4096 < k) = false by simpa using h3]
        refine ifT_neg rfl ?_
        by_cases h4 : k = 0
        · subst h4
          exact ifT_pos rfl (fin Rung.zero true (by simpa [ofK] using hk))
        · refine ifT_neg (by simpa using h4) ⟨by omega, ?_⟩
          by_cases h5 : k % 2 = 1
          · have e : ofK k = some ⟨false, ((k + 1) / 2).toNat, false⟩ := by unfold ofK; rw [if_neg h1, if_neg (by omega), if_neg h4, if_pos h5]
            rw [e] at hk
            refine ifT_pos (by rw [Int.tmod_eq_emod_of_nonneg (by omega)]; simpa using h5) (rg_of (by omega) (by omega) ⟨by omega, rg_of (by rw [Int.tdiv_eq_ediv_of_nonneg (by omega)]; omega) (by rw [Int.tdiv_eq_ediv_of_nonneg (by omega)]; omega) ?_⟩)
            have := fin ⟨false, ((k + 1) / 2).toNat, false⟩ true hk
            unfold Rung.cells at this
            simp only [Int.toNat_of_nonneg (show 0 ≤ (k + 1) / 2 by omega)] at this
            rw [Int.tdiv_eq_ediv_of_nonneg (by omega)]
            exact this
          · have e : ofK k = some ⟨false, (k / 2 - 1).toNat, true⟩ := by unfold ofK; rw [if_neg h1, if_neg (by omega), if_neg h4, if_neg h5]
            rw [e] at hk
            refine ifT_neg (by rw [Int.tmod_eq_emod_of_nonneg (by omega)]; simpa using h5) ⟨by omega, rg_of (by rw [Int.tdiv_eq_ediv_of_nonneg (by omega)]; omega) (by rw [Int.tdiv_eq_ediv_of_nonneg (by omega)]; omega) (rg_of (by rw [Int.tdiv_eq_ediv_of_nonneg (by omega)]; omega) (by rw [Int.tdiv_eq_ediv_of_nonneg (by omega)]; omega) ?_)⟩
            have := fin ⟨false, (k / 2 - 1).toNat, true⟩ true hk
            unfold Rung.cells at this
            simp only [Int.toNat_of_nonneg (show 0 ≤ k / 2 - 1 by omega)] at this
            rw [Int.tdiv_eq_ediv_of_nonneg (by omega)]
            exact this

theorem has_ok {r : Rung} (hr : r.low ≤ 100000) (w : Nat) (hk : K (.bool (r.has w)) h) : ACalls prog 48 [r.v, .int .i64 w] h K := by
  obtain ⟨all, low, gap⟩ := r
  refine s48_ok ?_
  unfold s48
  unfold Rung.has at hk
  simp only at hk hr
  cases all with
  | true => exact ifT_pos rfl (retG_of (by simpa using hk))
  | false =>
    refine ifT_neg rfl ?_
    by_cases h1 : w < low
    · exact ifT_pos (by simp; omega) (retG_of (by simpa [h1] using hk))
    · refine ifT_neg (by simp; omega) ?_
      cases gap with
      | false => exact ifT_neg rfl (retG_of (by simpa [h1] using hk))
      | true =>
        refine ifT_pos rfl (rg_of (by dsimp only; omega) (by dsimp only; omega) (retG_of ?_))
        rw [show ((w : Int) == (low : Int) + 1) = (w == low + 1) by rw [Bool.eq_iff_iff]; simp; omega]
        simpa [h1] using hk

theorem number_ok {r : Rung} (hr : r.low ≤ 100000) (hk : K (.int .i64 r.num) h) : ACalls prog 44 [r.v] h K := by
  obtain ⟨all, low, gap⟩ := r
  refine s44_ok ?_
  unfold s44
  unfold Rung.num at hk
  simp only at hk hr
  cases all with
  | true => exact ifT_pos rfl (retG_of (by simpa using hk))
  | false =>
    refine ifT_neg rfl ?_
    cases gap with
    | true => exact ifT_pos rfl (rg_of (by dsimp only; omega) (by dsimp only; omega) (rg_of (by dsimp only; omega) (by dsimp only; omega) (retG_of (by simpa using hk))))
    | false =>
      refine ifT_neg rfl ?_
      by_cases h1 : low = 0
      · subst h1
        exact ifT_pos rfl (retG_of (by simpa using hk))
      · exact ifT_neg (by simp; omega) (rg_of (by dsimp only; omega) (by dsimp only; omega) (rg_of (by dsimp only; omega) (by dsimp only; omega) (retG_of (by simpa [h1] using hk))))
end Go.Proofs.Ytobpfhmjdoekfaa

namespace Go.Proofs.Ytobpfhmjdoekfaa
open Go Go.Sym Go.Proofs.Try

variable {K : AVal → Heap → Prop} {h : Heap}

theorem max2_ok (a b : Int) (hk : K (.int .i64 (max a b)) h) : ACalls prog 64 [.lsl 1 [.int .i64 a, .int .i64 b]] h K := by
  refine s64_ok ?_
  unfold s64
  refine callG_of (s74_ok ?_)
  unfold s74
  have hv : Ints (.lsl 1 [.int .i64 a, .int .i64 b]) [a, b] := .inl rfl
  rw [hv.len]
  refine ifT_neg rfl ?_
  unfold s74c1
  rw [show (0 : Int) = ((0 : Nat) : Int) from rfl, hv.ix (i := 0) (by simp), ld1_lptr, tInt_int]
  refine s74l2_in 2 ?_
  unfold s74l2
  rw [hv.len]
  refine ifT_pos rfl ?_
  rw [show (1 : Int) = ((1 : Nat) : Int) from rfl, hv.ix (i := 1) (by simp), ld1_lptr, tInt_int]
  refine rg_of (by omega) (by omega) (s74l2_go ?_)
  unfold s74l2
  rw [hv.len]
  refine ifT_neg rfl (retG_of ?_)
  rw [tInt_int]
  exact retG_of hk

theorem far_ok {a b : Rung} (ha : a.low ≤ 2048) (hb : b.low ≤ 2048) (hk : K (.int .i64 ((max a.low b.low + 3 : Nat) : Int)) h) : ACalls prog 46 [a.v, b.v] h K := by
  refine s46_ok (a_all := a.all) (a_low := a.low) (a_gap := a.gap) (b_all := b.all) (b_low := b.low) (b_gap := b.gap) ?_
  unfold s46
  refine callG_of (max2_ok _ _ ?_)
  rw [tInt_int]
  have e : max (a.low : Int) (b.low : Int) + 3 = ((max a.low b.low + 3 : Nat) : Int) := by omega
  rw [e]
  exact rg_of (by omega) (by omega) (retG_of hk)

/-- what a function value tells of a world -/
def Tells (f : AVal) (p : Nat → Bool) : Prop := ∀ (w : Nat) (h : Heap) (K : AVal → Heap → Prop), K (.bool (p w)) h → callV prog f [.int .i64 w] h K

theorem meet_tells {a b : Rung} (ha : a.low ≤ 2048) (hb : b.low ≤ 2048) : Tells (.func (.func 47) [] [.lptr a.cells, .lptr b.cells]) (fun w => a.has w && b.has w) := by
  intro w h K hk
  show callG prog 47 ([] ++ [.int .i64 w] ++ [.lptr a.cells, .lptr b.cells]) h K
  refine callG_of (s47_ok ?_)
  unfold s47
  refine ldL ?_
  simp only [tCons_cons, tBool_bool, tInt_int, tNil_nil]
  refine callG_of (has_ok (r := a) (by omega) w ?_)
  rw [tBool_bool]
  cases e : a.has w with
  | false => exact ifT_neg rfl (retG_of (by simpa [e] using hk))
  | true =>
    refine ifT_pos rfl (ldL ?_)
    simp only [tCons_cons, tBool_bool, tInt_int, tNil_nil]
    refine callG_of (has_ok (r := b) (by omega) w ?_)
    rw [tBool_bool]
    exact retG_of (by simpa [e] using hk)
theorem join_tells {a b : Rung} (ha : a.low ≤ 2048) (hb : b.low ≤ 2048) : Tells (.func (.func 50) [] [.lptr a.cells, .lptr b.cells]) (fun w => a.has w || b.has w) := by
  intro w h K hk
  show callG prog 50 ([] ++ [.int .i64 w] ++ [.lptr a.cells, .lptr b.cells]) h K
  refine callG_of (s50_ok ?_)
  unfold s50
  refine ldL ?_
  simp only [tCons_cons, tBool_bool, tInt_int, tNil_nil]
  refine callG_of (has_ok (r := a) (by omega) w ?_)
  rw [tBool_bool]
  cases e : a.has w with
  | true => exact ifT_pos rfl (retG_of (by simpa [e] using hk))
  | false =>
    refine ifT_neg rfl (ldL ?_)
    simp only [tCons_cons, tBool_bool, tInt_int, tNil_nil]
    refine callG_of (has_ok (r := b) (by omega) w ?_)
    rw [tBool_bool]
    exact retG_of (by simpa [e] using hk)
theorem bars_tells {a b : Rung} (ha : a.low ≤ 2048) (hb : b.low ≤ 2048) : Tells (.func (.func 51) [] [.lptr a.cells, .lptr b.cells]) (fun w => a.has w && !b.has w) := by
  intro w h K hk
  show callG prog 51 ([] ++ [.int .i64 w] ++ [.lptr a.cells, .lptr b.cells]) h K
  refine callG_of (s51_ok ?_)
  unfold s51
  refine ldL ?_
  simp only [tCons_cons, tBool_bool, tInt_int, tNil_nil]
  refine callG_of (has_ok (r := a) (by omega) w ?_)
  rw [tBool_bool]
  cases e : a.has w with
  | false => exact ifT_neg rfl (retG_of (by simpa [e] using hk))
  | true =>
    refine ifT_pos rfl (ldL ?_)
    simp only [tCons_cons, tBool_bool, tInt_int, tNil_nil]
    refine callG_of (has_ok (r := b) (by omega) w ?_)
    rw [tBool_bool]
    exact retG_of (by simpa [e] using hk)

/-- the first world that is not in, and whether the next one is; all: there is none -/
def setR (p : Nat → Bool) : Nat → Nat → Rung
  | 0, _ => ⟨true, 0, false⟩
  | d + 1, w => if p w then setR p d (w + 1) else ⟨false, w, p (w + 1)⟩

theorem fin3 {g : Rung} {r : Nat} {hh h0 : Heap} {a' b' c' : AVal} (hr : hh r = some (.row 3 [.agg [a', b', c']])) (hn : h0 r = none) (x : Ext h0 hh) {X : AVal → Heap → Prop} (hX : ∀ h', Ext h0 h' → X g.v h') :
    st false hh (.ptr r 0 0) g.cells fun h_1 => ldN 3 h_1 (.ptr r 0 0) fun l_ => tCons l_ fun v l_1 => tBool v fun v1 => tCons l_1 fun v2 l_2 => tInt .i64 v2 fun v3 => tCons l_2 fun v4 l_3 => tBool v4 fun v5 => tNil l_3 (retG (.agg [.bool v1, .int .i64 v3, .bool v5]) h_1 X) := by
  refine st3 hr (ld3 (Heap.set_same _ _ _) ?_)
  simp only [tCons_cons, tBool_bool, tInt_int, tNil_nil]
  exact retG_of (hX _ (x.put hn _))

theorem set_loop {f : AVal} {p : Nat → Bool} (hf : Tells f p) {far r : Nat} (hfar : far ≤ 100000) {hh h0 : Heap} {a' b' c' : AVal} (hr : hh r = some (.row 3 [.agg [a', b', c']])) (hn : h0 r = none) (x : Ext h0 hh) :
    ∀ d w : Nat, w + d = far → (∀ h', Ext h0 h' → K (setR p d w).v h') → s45l1 K (d + 1) f (.ptr r 0 0) (far : Int) (w : Int) hh
  | 0, w, hd, hk => by
    unfold s45l1
    exact ifT_neg (by simp; omega) (fin3 (g := ⟨true, 0, false⟩) hr hn x hk)
  | d + 1, w, hd, hk => by
    unfold s45l1
    refine ifT_pos (by simp; omega) (hf w _ _ ?_)
    rw [tBool_bool]
    unfold setR at hk
    by_cases hp : p w = true
    · rw [if_pos hp] at hk
      exact ifT_neg (by simp [hp]) (rg_of (by omega) (by omega) (s45l1_go (set_loop hf hfar hr hn x d (w + 1) (by omega) hk)))
    · rw [if_neg hp] at hk
      refine ifT_pos (by simpa using hp) (rg_of (by omega) (by omega) (hf (w + 1) _ _ ?_))
      rw [tBool_bool]
      exact fin3 (g := ⟨false, w, p (w + 1)⟩) hr hn x hk
theorem set_ok {f : AVal} {p : Nat → Bool} (hf : Tells f p) {far : Nat} (hfar : far ≤ 100000) (hk : ∀ h', Ext h h' → K (setR p far 0).v h') : ACalls prog 45 [.int .i64 far, f] h K := by
  refine s45_ok ?_
  unfold s45
  refine newRow_in fun r hr => s45l1_in (far + 1) ?_
  exact set_loop hf hfar (Heap.set_same _ _ _) hr (Ext.new hr _) far 0 (by omega) hk
end Go.Proofs.Ytobpfhmjdoekfaa

namespace Go.Proofs.Ytobpfhmjdoekfaa
open Go Go.Sym Go.Proofs.Try

variable {K : AVal → Heap → Prop} {h : Heap}

def farN (a b : Rung) : Nat := max a.low b.low + 3
def meetR (a b : Rung) : Rung := setR (fun w => a.has w && b.has w) (farN a b) 0
def joinR (a b : Rung) : Rung := setR (fun w => a.has w || b.has w) (farN a b) 0
def barB (a b : Rung) (w : Nat) : Bool := !(a.has w && !b.has w)
def impR (a b : Rung) : Rung := setR (barB a b) (farN a b) 0
theorem setR_low {p : Nat → Bool} : ∀ d w : Nat, (setR p d w).low ≤ w + d
  | 0, w => by simp [setR]
  | d + 1, w => by
    unfold setR
    split
    · have := setR_low (p := p) d (w + 1); omega
    · dsimp only; omega

/-- a function that makes a rung of two -/
def HowOK (f : FuncId) (R : Rung → Rung → Rung) : Prop := (∀ a b : Rung, a.low ≤ 2048 → b.low ≤ 2048 → (R a b).low ≤ 100000) ∧
  ∀ (a b : Rung) (h : Heap) (K : AVal → Heap → Prop), a.low ≤ 2048 → b.low ≤ 2048 → (∀ h', Ext h h' → K (R a b).v h') → ACalls prog f [a.v, b.v] h K

theorem meet_how : HowOK 26 meetR := by
  refine ⟨fun a b ha hb => by have := setR_low (p := fun w => a.has w && b.has w) (farN a b) 0; unfold farN at this; show (setR _ _ _).low ≤ _; unfold farN; omega, fun a b h K ha hb hk => ?_⟩
  refine s26_ok (a_all := a.all) (a_low := a.low) (a_gap := a.gap) (b_all := b.all) (b_low := b.low) (b_gap := b.gap) ?_
  unfold s26
  refine newRow_in fun r hr => callG_of (far_ok (a := a) (b := b) ha hb ?_)
  rw [tInt_int]
  refine callG_of (set_ok (meet_tells ha hb) (by omega) fun h2 x2 => ?_)
  simp only [Rung.v, Rung.cells, tAgg_agg, tCons_cons, tBool_bool, tInt_int, tNil_nil]
  exact fin3 (g := meetR a b) (x2 r _ (Heap.set_same _ _ _)) hr ((Ext.new hr _).trans x2) hk
theorem join_how : HowOK 29 joinR := by
  refine ⟨fun a b ha hb => by have := setR_low (p := fun w => a.has w || b.has w) (farN a b) 0; unfold farN at this; show (setR _ _ _).low ≤ _; unfold farN; omega, fun a b h K ha hb hk => ?_⟩
  refine s29_ok (a_all := a.all) (a_low := a.low) (a_gap := a.gap) (b_all := b.all) (b_low := b.low) (b_gap := b.gap) ?_
  unfold s29
  refine newRow_in fun r hr => callG_of (far_ok (a := a) (b := b) ha hb ?_)
  rw [tInt_int]
  refine callG_of (set_ok (join_tells ha hb) (by omega) fun h2 x2 => ?_)
  simp only [Rung.v, Rung.cells, tAgg_agg, tCons_cons, tBool_bool, tInt_int, tNil_nil]
  exact fin3 (g := joinR a b) (x2 r _ (Heap.set_same _ _ _)) hr ((Ext.new hr _).trans x2) hk

theorem bar_no {a b : Rung} {w : Nat} (h : barB a b w = true) : (a.has w && !b.has w) = false := by
  unfold barB at h
  cases e : (a.has w && !b.has w) with
  | false => rfl
  | true => rw [e] at h; cases h
theorem bar_yes {a b : Rung} {w : Nat} (h : ¬ barB a b w = true) : (a.has w && !b.has w) = true := by
  unfold barB at h
  cases e : (a.has w && !b.has w) with
  | false => rw [e] at h; exact absurd rfl h
  | true => rfl
theorem imp_loop {f : AVal} {a b : Rung} (hf : Tells f (fun w => a.has w && !b.has w)) {far r : Nat} (hfar : far ≤ 100000) {hh h0 : Heap} {a' b' c' : AVal} (hr : hh r = some (.row 3 [.agg [a', b', c']])) (hn : h0 r = none) (x : Ext h0 hh) :
    ∀ d w : Nat, w + d = far → (∀ h', Ext h0 h' → K (setR (barB a b) d w).v h') → s31l1 K (d + 1) (.ptr r 0 0) f (far : Int) (w : Int) hh
  | 0, w, hd, hk => by
    unfold s31l1
    exact ifT_neg (by simp; omega) (fin3 (g := ⟨true, 0, false⟩) hr hn x hk)
  | d + 1, w, hd, hk => by
    unfold s31l1
    refine ifT_pos (by simp; omega) (hf w _ _ ?_)
    rw [tBool_bool]
    unfold setR at hk
    by_cases hp : barB a b w = true
    · rw [if_pos hp] at hk
      refine ifT_neg (bar_no hp) (rg_of (by omega) (by omega) (s31l1_go (imp_loop hf hfar hr hn x d (w + 1) (by omega) hk)))
    · rw [if_neg hp] at hk
      refine ifT_pos (bar_yes hp) (rg_of (by omega) (by omega) (hf (w + 1) _ _ ?_))
      rw [tBool_bool]
      exact fin3 (g := ⟨false, w, barB a b (w + 1)⟩) hr hn x hk
theorem imp_how : HowOK 31 impR := by
  refine ⟨fun a b ha hb => by have := setR_low (p := barB a b) (farN a b) 0; unfold farN at this; show (setR _ _ _).low ≤ _; unfold farN; omega, fun a b h K ha hb hk => ?_⟩
  refine s31_ok (a_all := a.all) (a_low := a.low) (a_gap := a.gap) (b_all := b.all) (b_low := b.low) (b_gap := b.gap) ?_
  unfold s31
  refine newRow_in fun r hr => callG_of (far_ok (a := a) (b := b) ha hb ?_)
  rw [tInt_int]
  exact s31l1_in (farN a b + 1) (imp_loop (bars_tells ha hb) (by omega) (Heap.set_same _ _ _) hr (Ext.new hr _) (farN a b) 0 (by unfold farN; omega) hk)

/-- the answer to two numbers -/
def twoV (R : Rung → Rung → Rung) (a b : Int) : Int × Int := match ofK a, ofK b with
  | some x, some y => if 4096 < (R x y).num then (0, 2) else ((R x y).num, 0)
  | _, _ => (0, 2)
theorem getD_low (k : Int) : ((ofK k).getD Rung.zero).low ≤ 2048 := by
  cases e : ofK k with
  | none => simp [Rung.zero]
  | some r => exact ofK_low e
theorem two_c1 {f : FuncId} {R : Rung → Rung → Rung} (H : HowOK f R) {x y : Rung} (hx : x.low ≤ 2048) (hy : y.low ≤ 2048) {r r1 : Nat} {hh h0 : Heap} (x0 : Ext h0 hh) (h1 : hh r = some (.row 3 [x.v])) (h2 : hh r1 = some (.row 3 [y.v]))
    (hk : ∀ h', Ext h0 h' → K (.tuple [.int .i64 (if 4096 < (R x y).num then 0 else (R x y).num), .int .i64 (if 4096 < (R x y).num then 2 else 0)]) h') :
    s25c1 K (.func (.func f) [] []) (.ptr r 0 0) (.ptr r1 0 0) false hh := by
  unfold s25c1
  refine ifT_neg rfl (ld3 h1 ?_)
  simp only [tCons_cons, tBool_bool, tInt_int, tNil_nil]
  refine ld3 h2 ?_
  simp only [tCons_cons, tBool_bool, tInt_int, tNil_nil]
  show callG prog f ([] ++ [x.v, y.v] ++ []) hh _
  refine callG_of (H.2 x y hh _ hx hy fun h3 x3 => ?_)
  simp only [Rung.v, Rung.cells, tAgg_agg, tCons_cons, tBool_bool, tInt_int, tNil_nil]
  refine callG_of (number_ok (r := R x y) (H.1 x y hx hy) ?_)
  rw [tInt_int]
  by_cases hb : 4096 < (R x y).num
  · exact ifT_pos (by simpa using hb) (retG_of (by have := hk h3 (x0.trans x3); simpa [hb] using this))
  · exact ifT_neg (by simpa using hb) (retG_of (by have := hk h3 (x0.trans x3); simpa [hb] using this))
theorem two_ok {f : FuncId} {R : Rung → Rung → Rung} (H : HowOK f R) (a b : Int) (hk : ∀ h', Ext h h' → K (.tuple [.int .i64 (twoV R a b).1, .int .i64 (twoV R a b).2]) h') : ACalls prog 25 [.int .i64 a, .int .i64 b, .func (.func f) [] []] h K := by
  refine s25_ok ?_
  unfold s25
  refine callG_of (of_ok a fun h1 x1 => ?_)
  simp only [Rung.v, Rung.cells, tTup_tuple, tAgg_agg, tCons_cons, tBool_bool, tInt_int, tNil_nil]
  refine newRow_in fun r hr => st3 (Heap.set_same _ _ _) (callG_of (of_ok b fun h2 x2 => ?_))
  simp only [Rung.v, Rung.cells, tTup_tuple, tAgg_agg, tCons_cons, tBool_bool, tInt_int, tNil_nil]
  refine newRow_in fun r1 hr1 => st3 (Heap.set_same _ _ _) ?_
  have x3 := x1.trans (((Ext.new hr (.row 3 [.agg [.bool false, .int .i64 0, .bool false]])).put hr (.row 3 [((ofK a).getD Rung.zero).v])).trans x2)
  have x4 := x3.trans ((Ext.new hr1 (.row 3 [.agg [.bool false, .int .i64 0, .bool false]])).put hr1 (.row 3 [((ofK b).getD Rung.zero).v]))
  have hra : h2 r = some (.row 3 [((ofK a).getD Rung.zero).v]) := x2 r _ (Heap.set_same _ _ _)
  have hne : r ≠ r1 := fun e => by rw [← e, hra] at hr1; cases hr1
  unfold twoV at hk
  cases ea : ofK a with
  | none =>
    rw [ea] at hk
    refine ifT_pos rfl ?_
    exact ifT_pos rfl (retG_of (hk _ x4))
  | some x =>
    rw [ea] at hk hra
    refine ifT_neg rfl ?_
    cases eb : ofK b with
    | none =>
      rw [eb] at hk x4
      exact ifT_pos rfl (retG_of (hk _ x4))
    | some y =>
      rw [eb] at hk x4
      refine two_c1 H (ofK_low ea) (ofK_low eb) x4 ?_ (Heap.set_same _ _ _) fun h' x' => ?_
      · rw [Heap.set_other _ _ hne, Heap.set_other _ _ hne]
        exact hra
      · have := hk h' x'
        by_cases hb : 4096 < (R x y).num
        · simpa [hb] using this
        · simpa [hb] using this
end Go.Proofs.Ytobpfhmjdoekfaa

namespace Go.Proofs.Ytobpfhmjdoekfaa
open Go Go.Sym Go.Proofs.Try

variable {K : AVal → Heap → Prop} {h : Heap}

theorem meetP_ok (a b : Int) (hk : ∀ h', Ext h h' → K (.tuple [.int .i64 (twoV meetR a b).1, .int .i64 (twoV meetR a b).2]) h') : ACalls prog 9 [.int .i64 a, .int .i64 b] h K := by
  refine s9_ok ?_
  unfold s9
  refine callG_of (two_ok meet_how a b fun h1 x1 => ?_)
  simp only [tTup_tuple, tCons_cons, tInt_int, tNil_nil]
  exact retG_of (hk _ x1)
theorem joinP_ok (a b : Int) (hk : ∀ h', Ext h h' → K (.tuple [.int .i64 (twoV joinR a b).1, .int .i64 (twoV joinR a b).2]) h') : ACalls prog 11 [.int .i64 a, .int .i64 b] h K := by
  refine s11_ok ?_
  unfold s11
  refine callG_of (two_ok join_how a b fun h1 x1 => ?_)
  simp only [tTup_tuple, tCons_cons, tInt_int, tNil_nil]
  exact retG_of (hk _ x1)
theorem impP_ok (a b : Int) (hk : ∀ h', Ext h h' → K (.tuple [.int .i64 (twoV impR a b).1, .int .i64 (twoV impR a b).2]) h') : ACalls prog 13 [.int .i64 a, .int .i64 b] h K := by
  refine s13_ok ?_
  unfold s13
  refine callG_of (two_ok imp_how a b fun h1 x1 => ?_)
  simp only [tTup_tuple, tCons_cons, tInt_int, tNil_nil]
  exact retG_of (hk _ x1)

/-- is one rung below the other? -/
def belowV (a b : Int) : Bool × Int := match ofK a, ofK b with
  | some x, some y => ((impR x y).all, 0)
  | _, _ => (false, 2)
theorem below_ok {x y : Rung} (hx : x.low ≤ 2048) (hy : y.low ≤ 2048) (hk : ∀ h', Ext h h' → K (.bool (impR x y).all) h') : ACalls prog 22 [x.v, y.v] h K := by
  refine s22_ok (a_all := x.all) (a_low := x.low) (a_gap := x.gap) (b_all := y.all) (b_low := y.low) (b_gap := y.gap) ?_
  unfold s22
  refine callG_of (imp_how.2 x y h _ hx hy fun h1 x1 => ?_)
  simp only [Rung.v, Rung.cells, tAgg_agg, tCons_cons, tBool_bool, tInt_int, tNil_nil]
  exact retG_of (hk _ x1)
theorem belowP_ok (a b : Int) (hk : ∀ h', Ext h h' → K (.tuple [.bool (belowV a b).1, .int .i64 (belowV a b).2]) h') : ACalls prog 7 [.int .i64 a, .int .i64 b] h K := by
  refine s7_ok ?_
  unfold s7
  refine callG_of (of_ok a fun h1 x1 => ?_)
  simp only [Rung.v, Rung.cells, tTup_tuple, tAgg_agg, tCons_cons, tBool_bool, tInt_int, tNil_nil]
  refine newRow_in fun r hr => st3 (Heap.set_same _ _ _) (callG_of (of_ok b fun h2 x2 => ?_))
  simp only [Rung.v, Rung.cells, tTup_tuple, tAgg_agg, tCons_cons, tBool_bool, tInt_int, tNil_nil]
  refine newRow_in fun r1 hr1 => st3 (Heap.set_same _ _ _) ?_
  have x3 := x1.trans (((Ext.new hr (.row 3 [.agg [.bool false, .int .i64 0, .bool false]])).put hr (.row 3 [((ofK a).getD Rung.zero).v])).trans x2)
  have x4 := x3.trans ((Ext.new hr1 (.row 3 [.agg [.bool false, .int .i64 0, .bool false]])).put hr1 (.row 3 [((ofK b).getD Rung.zero).v]))
  have hra : h2 r = some (.row 3 [((ofK a).getD Rung.zero).v]) := x2 r _ (Heap.set_same _ _ _)
  have hne : r ≠ r1 := fun e => by rw [← e, hra] at hr1; cases hr1
  unfold belowV at hk
  cases ea : ofK a with
  | none =>
    rw [ea] at hk
    refine ifT_pos rfl ?_
    exact ifT_pos rfl (retG_of (hk _ x4))
  | some x =>
    rw [ea] at hk hra
    refine ifT_neg rfl ?_
    cases eb : ofK b with
    | none =>
      rw [eb] at hk x4
      exact ifT_pos rfl (retG_of (hk _ x4))
    | some y =>
      rw [eb] at hk x4
      unfold s7c1
      refine ifT_neg rfl (ld3 (a := .bool x.all) (b := .int .i64 x.low) (c := .bool x.gap) (by rw [Heap.set_other _ _ hne, Heap.set_other _ _ hne]; exact hra) ?_)
      simp only [tCons_cons, tBool_bool, tInt_int, tNil_nil]
      refine ld3 (a := .bool y.all) (b := .int .i64 y.low) (c := .bool y.gap) (Heap.set_same _ _ _) ?_
      simp only [tCons_cons, tBool_bool, tInt_int, tNil_nil]
      refine callG_of (below_ok (ofK_low ea) (ofK_low eb) fun h3 x5 => ?_)
      rw [tBool_bool]
      exact retG_of (hk _ (x4.trans x5))
end Go.Proofs.Ytobpfhmjdoekfaa

namespace Go.Proofs.Ytobpfhmjdoekfaa
open Go Go.Sym

theorem has_iff (r : Rung) (w : Nat) : r.has w = true ↔ r.all = true ∨ w < r.low ∨ (r.gap = true ∧ w = r.low + 1) := by
  unfold Rung.has
  simp
theorem has_down {r : Rung} {v w : Nat} (h : r.has w = true) (hv : v + 2 ≤ w) : r.has v = true := by
  rw [has_iff] at h ⊢
  rcases h with h | h | ⟨_, h⟩
  · exact .inl h
  · exact .inr (.inl (by omega))
  · exact .inr (.inl (by omega))
/-- where the search stops -/
theorem setR_cases {p : Nat → Bool} : ∀ d w : Nat, ((∀ v, w ≤ v → v < w + d → p v = true) ∧ setR p d w = ⟨true, 0, false⟩) ∨
    ∃ F, w ≤ F ∧ F < w + d ∧ p F = false ∧ (∀ v, w ≤ v → v < F → p v = true) ∧ setR p d w = ⟨false, F, p (F + 1)⟩
  | 0, w => .inl ⟨fun v h1 h2 => by omega, rfl⟩
  | d + 1, w => by
    unfold setR
    by_cases hp : p w = true
    · rw [if_pos hp]
      rcases setR_cases (p := p) d (w + 1) with ⟨h1, h2⟩ | ⟨F, h1, h2, h3, h4, h5⟩
      · refine .inl ⟨fun v a b => ?_, h2⟩
        rcases Nat.lt_or_ge w v with e | e
        · exact h1 v e (by omega)
        · obtain rfl : v = w := by omega
          exact hp
      · refine .inr ⟨F, by omega, by omega, h3, fun v a b => ?_, h5⟩
        rcases Nat.lt_or_ge w v with e | e
        · exact h4 v e b
        · obtain rfl : v = w := by omega
          exact hp
    · rw [if_neg hp]
      exact .inr ⟨w, by omega, by omega, by simpa using hp, fun v a b => by omega, rfl⟩
/-- what the reckoned rung has: what is told, but nothing behind the world behind the next one that is not told -/
theorem setR_has {p : Nat → Bool} {far : Nat} (hf : (∀ v, v < far → p v = true) → ∀ v, p v = true) (w : Nat) : (setR p far 0).has w = true ↔ p w = true ∧ ∀ v, v + 2 ≤ w → p v = true := by
  rcases setR_cases (p := p) far 0 with ⟨h1, h2⟩ | ⟨F, h1, h2, h3, h4, h5⟩
  · rw [h2]
    have := hf fun v hv => h1 v (by omega) (by omega)
    simp [has_iff, this]
  · rw [h5, has_iff]
    simp only [Bool.false_eq_true, false_or]
    constructor
    · rintro (h | ⟨h, rfl⟩)
      · exact ⟨h4 w (by omega) h, fun v hv => h4 v (by omega) (by omega)⟩
      · exact ⟨h, fun v hv => h4 v (by omega) (by omega)⟩
    · rintro ⟨ha, hb⟩
      rcases Nat.lt_trichotomy w F with e | e | e
      · exact .inl e
      · subst e; rw [h3] at ha; cases ha
      · rcases Nat.lt_or_ge w (F + 2) with e2 | e2
        · obtain rfl : w = F + 1 := by omega
          exact .inr ⟨ha, rfl⟩
        · have := hb F e2
          rw [h3] at this; cases this
theorem far_has {r : Rung} {n : Nat} (hn : r.low + 2 ≤ n) : r.has n = r.all := by
  rw [Bool.eq_iff_iff, has_iff]
  constructor
  · rintro (h | h | ⟨_, h⟩)
    · exact h
    · omega
    · omega
  · exact .inl
theorem all_has {r : Rung} (h : r.all = true) (w : Nat) : r.has w = true := (has_iff r w).2 (.inl h)
theorem meet_has (a b : Rung) (w : Nat) : (meetR a b).has w = true ↔ a.has w = true ∧ b.has w = true := by
  unfold meetR
  rw [setR_has]
  · constructor
    · rintro ⟨h, _⟩
      simpa using h
    · intro h
      exact ⟨by simpa using h, fun v hv => by simp [has_down h.1 hv, has_down h.2 hv]⟩
  · intro h v
    have := h (max a.low b.low + 2) (by unfold farN; omega)
    rw [far_has (by omega), far_has (by omega)] at this
    simp only [Bool.and_eq_true] at this
    simp [all_has this.1, all_has this.2]
theorem join_has (a b : Rung) (w : Nat) : (joinR a b).has w = true ↔ a.has w = true ∨ b.has w = true := by
  unfold joinR
  rw [setR_has]
  · constructor
    · rintro ⟨h, _⟩
      simpa using h
    · rintro (h | h)
      · exact ⟨by simp [h], fun v hv => by simp [has_down h hv]⟩
      · exact ⟨by simp [h], fun v hv => by simp [has_down h hv]⟩
  · intro h v
    have := h (max a.low b.low + 2) (by unfold farN; omega)
    rw [far_has (by omega), far_has (by omega)] at this
    simp only [Bool.or_eq_true] at this
    rcases this with e | e <;> simp [all_has e]
theorem bar_far (a b : Rung) (h : ∀ v, v < farN a b → barB a b v = true) : ∀ v, barB a b v = true := by
  intro v
  rcases Nat.lt_or_ge v (farN a b) with e | e
  · exact h v e
  · have := h (max a.low b.low + 2) (by unfold farN; omega)
    unfold barB at this ⊢
    unfold farN at e
    rw [far_has (by omega), far_has (by omega)] at this ⊢
    exact this
theorem imp_has (a b : Rung) (w : Nat) : (impR a b).has w = true ↔ barB a b w = true ∧ ∀ v, v + 2 ≤ w → barB a b v = true := setR_has (bar_far a b) w
theorem imp_all (a b : Rung) : (impR a b).all = true ↔ ∀ w, a.has w = true → b.has w = true := by
  have hb : ∀ w, barB a b w = true ↔ (a.has w = true → b.has w = true) := fun w => by unfold barB; cases a.has w <;> cases b.has w <;> simp
  unfold impR
  rcases setR_cases (p := barB a b) (farN a b) 0 with ⟨h1, h2⟩ | ⟨F, h1, h2, h3, h4, h5⟩
  · rw [h2]
    have := bar_far a b fun v hv => h1 v (by omega) (by omega)
    simp only [true_iff]
    exact fun w => (hb w).1 (this w)
  · rw [h5]
    simp only [Bool.false_eq_true, false_iff]
    intro h
    rw [(hb F).2 (h F)] at h3
    cases h3
/-- a reckoned rung's number is its own -/
theorem ofK_num {p : Nat → Bool} {far : Nat} (h : (setR p far 0).num ≤ 4096) : ofK (setR p far 0).num = some (setR p far 0) := by
  have key : ∀ (F : Nat) (g : Bool), (Rung.mk false F g).num ≤ 4096 → ofK (Rung.mk false F g).num = some ⟨false, F, g⟩ := by
    intro F g h
    cases g with
    | true =>
      simp only [Rung.num, Bool.false_eq_true, if_false, if_true] at h ⊢
      unfold ofK
      rw [if_neg (by omega), if_neg (by omega), if_neg (by omega), if_neg (by omega)]
      simp only [Option.some.injEq, Rung.mk.injEq, true_and, and_true]
      omega
    | false =>
      simp only [Rung.num, Bool.false_eq_true, if_false] at h ⊢
      by_cases hF : F = 0
      · subst hF; rfl
      · rw [if_neg hF] at h ⊢
        unfold ofK
        rw [if_neg (by omega), if_neg (by omega), if_neg (by omega), if_pos (by omega)]
        simp only [Option.some.injEq, Rung.mk.injEq, true_and, and_true]
        omega
  rcases setR_cases (p := p) far 0 with ⟨_, h2⟩ | ⟨F, _, _, _, _, h5⟩
  · rw [h2]; rfl
  · rw [h5] at h ⊢
    exact key _ _ h
end Go.Proofs.Ytobpfhmjdoekfaa

namespace Go.Proofs.Ytobpfhmjdoekfaa
open Go Go.Sym

theorem num_ofK {k : Int} {r : Rung} (e : ofK k = some r) : r.num ≤ 4096 := by
  unfold ofK at e
  repeat' split at e
  all_goals first
    | cases e
    | skip
  all_goals simp [Rung.num, Rung.zero]
  all_goals omega
theorem low_not {r : Rung} (h : r.all = false) : r.has r.low = false := by
  cases e : r.has r.low with
  | false => rfl
  | true =>
    rcases (has_iff r _).1 e with h1 | h1 | ⟨_, h1⟩
    · rw [h] at h1; cases h1
    · omega
    · omega
theorem meet_num {a b : Rung} (ha : a.num ≤ 4096) (hb : b.num ≤ 4096) : (meetR a b).num ≤ 4096 := by
  have one : ∀ (r : Rung) (F : Nat), r.num ≤ 4096 → r.has F = false → (∀ v, v < F → r.has v = true) → F = r.low ∧ r.all = false := by
    intro r F _ h1 h2
    have hall : r.all = false := by
      cases e : r.all with
      | false => rfl
      | true => rw [all_has e] at h1; cases h1
    refine ⟨?_, hall⟩
    have h3 := low_not hall
    rcases Nat.lt_trichotomy F r.low with e | e | e
    · rw [(has_iff r F).2 (.inr (.inl e))] at h1; cases h1
    · exact e
    · rw [h2 _ e] at h3; cases h3
  have fin : ∀ (r : Rung) (F : Nat) (g : Bool), r.num ≤ 4096 → F = r.low → r.all = false → (g = true → r.has (F + 1) = true) → (Rung.mk false F g).num ≤ 4096 := by
    intro r F g h1 h2 h3 h4
    subst h2
    unfold Rung.num at h1 ⊢
    rw [h3] at h1
    simp only [Bool.false_eq_true, if_false] at h1 ⊢
    cases g with
    | true =>
      have := (has_iff r _).1 (h4 rfl)
      rcases this with e | e | ⟨e, _⟩
      · rw [h3] at e; cases e
      · omega
      · rw [e] at h1; simpa using h1
    | false =>
      simp only [Bool.false_eq_true, if_false]
      by_cases hl : r.low = 0
      · rw [if_pos hl]; omega
      · rw [if_neg hl]
        rw [if_neg hl] at h1
        split at h1 <;> omega
  unfold meetR
  rcases setR_cases (p := fun w => a.has w && b.has w) (farN a b) 0 with ⟨_, h2⟩ | ⟨F, _, _, h3, h4, h5⟩
  · rw [h2]; simp [Rung.num]
  · rw [h5]
    have h4' : ∀ v, v < F → a.has v = true ∧ b.has v = true := fun v hv => by simpa using h4 v (by omega) hv
    by_cases e : a.has F = true
    · have e2 : b.has F = false := by rw [e] at h3; simpa using h3
      obtain ⟨x1, x2⟩ := one b F hb e2 fun v hv => (h4' v hv).2
      exact fin b F _ hb x1 x2 fun h => by simp at h; exact h.2
    · obtain ⟨x1, x2⟩ := one a F ha (by simpa using e) fun v hv => (h4' v hv).1
      exact fin a F _ ha x1 x2 fun h => by simp at h; exact h.1

/-- one below another, of rungs -/
def Le (x y : Rung) : Prop := ∀ w, x.has w = true → y.has w = true
theorem heyting (a b c : Rung) : Le (meetR c a) b ↔ Le c (impR a b) := by
  have hb : ∀ w, barB a b w = true ↔ (a.has w = true → b.has w = true) := fun w => by unfold barB; cases a.has w <;> cases b.has w <;> simp
  constructor
  · intro h w hc
    rw [imp_has]
    exact ⟨(hb w).2 fun ha => h w ((meet_has c a w).2 ⟨hc, ha⟩), fun v hv => (hb v).2 fun ha => h v ((meet_has c a v).2 ⟨has_down hc hv, ha⟩)⟩
  · intro h w hm
    obtain ⟨hc, ha⟩ := (meet_has c a w).1 hm
    exact (hb w).1 ((imp_has a b w).1 (h w hc)).1 ha
end Go.Proofs.Ytobpfhmjdoekfaa

namespace Go.Proofs.Ytobpfhmjdoekfaa
open Go Go.Sym Go.Proofs.Try

variable {K : AVal → Heap → Prop} {h : Heap}

theorem eqQ_bool {p q : Bool} {X : Bool → Prop} (hx : X (p == q)) : eqQ prog 4 (.bool p) (.bool q) X := by
  have e : eqT prog 8 4 (.bool p) (.bool q) = some (p == q) := by cases p <;> cases q <;> kernel_rfl
  refine ⟨trivial, ?_⟩
  rw [e]
  exact hx
theorem num26_ok {e : Int} (hk : K (.int .i64 e) h) : ACalls prog 15 [.int .i64 e] h K := by
  refine s15_ok ?_
  unfold s15
  exact retG_of hk
def HeadsOK : Prop := ∀ {h' : Heap} {K : AVal → Heap → Prop}, K (.bool true) h' → ACalls prog 16 [] h' K
theorem headsRet (H : HeadsOK) (hk : ∀ h', K (.bool true) h') : callG prog 16 [] h fun v h' => tBool v fun b => retG (.bool b) h' K :=
  callG_of (H (by rw [tBool_bool]; exact retG_of (hk _)))

theorem heyt_c3 (H : HeadsOK) (hk : ∀ h', K (.bool true) h') {a b c m i j : Int} {X Y Z M I J : Rung} (ea : ofK a = some X) (eb : ofK b = some Y) (ec : ofK c = some Z) (em : ofK m = some M) (ei : ofK i = some I) (ej : ofK j = some J)
    (h1 : (impR M Y).all = (impR Z I).all) (h2 : (impR X J).all = true) (h3 : (impR Y J).all = true) (h4 : (impR J Z).all = ((impR X Z).all && (impR Y Z).all)) (h5 : (impR M X).all = true) (h6 : (impR M Z).all = true) (e0 : Int) (hh : Heap) :
    s5c3 K a b c (impR Y Z).all (impR X Z).all m e0 i j false hh := by
  unfold s5c3
  refine ifT_neg rfl (callG_of (belowP_ok _ _ fun k1 _ => ?_))
  simp only [tTup_tuple, tCons_cons, tInt_int, tNil_nil, tBool_bool]
  refine callG_of (belowP_ok _ _ fun k2 _ => ?_)
  simp only [tTup_tuple, tCons_cons, tInt_int, tNil_nil, tBool_bool]
  refine callG_of (belowP_ok _ _ fun k3 _ => ?_)
  simp only [tTup_tuple, tCons_cons, tInt_int, tNil_nil, tBool_bool]
  refine callG_of (belowP_ok _ _ fun k4 _ => ?_)
  simp only [tTup_tuple, tCons_cons, tInt_int, tNil_nil, tBool_bool]
  refine callG_of (belowP_ok _ _ fun k5 _ => ?_)
  simp only [tTup_tuple, tCons_cons, tInt_int, tNil_nil, tBool_bool]
  refine callG_of (belowP_ok _ _ fun k6 _ => ?_)
  simp only [tTup_tuple, tCons_cons, tInt_int, tNil_nil, tBool_bool]
  refine callG_of (belowP_ok _ _ fun k7 _ => ?_)
  simp only [tTup_tuple, tCons_cons, tInt_int, tNil_nil, tBool_bool]
  simp only [belowV, ea, eb, ec, em, ei, ej]
  rw [h1, h2, h3, h4, h5, h6]
  refine eqQ_bool (ifT_pos (by simp) (ifT_pos rfl (ifT_pos rfl ?_)))
  cases hx : (impR X Z).all with
  | true => exact ifT_pos rfl (eqQ_bool (ifT_pos (by simp) (ifT_pos rfl (ifT_pos rfl (headsRet H hk)))))
  | false => exact ifT_neg rfl (eqQ_bool (ifT_pos (by simp) (ifT_pos rfl (ifT_pos rfl (headsRet H hk)))))

theorem imp_all_eq {x y x' y' : Rung} (e : Le x y ↔ Le x' y') : (impR x y).all = (impR x' y').all := by
  rw [Bool.eq_iff_iff, imp_all, imp_all]
  exact e

theorem ofK_meet {x y : Rung} (h : (meetR x y).num ≤ 4096) : ofK (meetR x y).num = some (meetR x y) := by
  unfold meetR at h ⊢
  exact ofK_num h
theorem ofK_join {x y : Rung} (h : (joinR x y).num ≤ 4096) : ofK (joinR x y).num = some (joinR x y) := by
  unfold joinR at h ⊢
  exact ofK_num h
theorem ofK_imp {x y : Rung} (h : (impR x y).num ≤ 4096) : ofK (impR x y).num = some (impR x y) := by
  unfold impR at h ⊢
  exact ofK_num h
theorem meetP_eq {a b m n : Int} (e : twoV meetR a b = (m, n)) (hk : ∀ h', K (.tuple [.int .i64 m, .int .i64 n]) h') : ACalls prog 9 [.int .i64 a, .int .i64 b] h K :=
  meetP_ok a b fun h' _ => by rw [e]; exact hk h'
theorem joinP_eq {a b m n : Int} (e : twoV joinR a b = (m, n)) (hk : ∀ h', K (.tuple [.int .i64 m, .int .i64 n]) h') : ACalls prog 11 [.int .i64 a, .int .i64 b] h K :=
  joinP_ok a b fun h' _ => by rw [e]; exact hk h'
theorem impP_eq {a b m n : Int} (e : twoV impR a b = (m, n)) (hk : ∀ h', K (.tuple [.int .i64 m, .int .i64 n]) h') : ACalls prog 13 [.int .i64 a, .int .i64 b] h K :=
  impP_ok a b fun h' _ => by rw [e]; exact hk h'
theorem twoV_ok {R : Rung → Rung → Rung} {a b : Int} {X Y : Rung} (ea : ofK a = some X) (eb : ofK b = some Y) (h : (R X Y).num ≤ 4096) : twoV R a b = ((R X Y).num, 0) := by
  unfold twoV
  rw [ea, eb]
  exact if_neg (Int.not_lt.2 h)
theorem twoV_no {R : Rung → Rung → Rung} {a b : Int} {X Y : Rung} (ea : ofK a = some X) (eb : ofK b = some Y) (h : 4096 < (R X Y).num) : twoV R a b = (0, 2) := by
  unfold twoV
  rw [ea, eb]
  exact if_pos h
theorem heyt_out (H : HeadsOK) (hk : ∀ h', K (.bool true) h') {a b c : Int} {p q : Bool} (m i j : Int) (h' : Heap) : s5c3 K a b c p q m 0 i j true h' := by
  unfold s5c3
  refine ifT_pos rfl (callG_of (num26_ok ?_))
  rw [tInt_int]
  exact ifT_pos rfl (headsRet H hk)
/-- the three answers come -/
theorem heyt_mid (H : HeadsOK) (hk : ∀ h', K (.bool true) h') {a b c m i ie j je : Int} {p q : Bool} (em : twoV meetR c a = (m, 0)) (ei : twoV impR a b = (i, ie)) (ej : twoV joinR a b = (j, je)) (hie : ie = 0 ∨ ie = 2) (hje : je = 0 ∨ je = 2)
    (go : ie = 0 → je = 0 → ∀ h', s5c3 K a b c p q m 0 i j false h') (hh : Heap) :
    s5c2 K a b c p q false hh := by
  unfold s5c2
  refine ifT_neg rfl (callG_of (meetP_eq em fun k1 => ?_))
  rw [tTup_tuple, tCons_cons, tInt_int, tCons_cons, tInt_int, tNil_nil]
  refine callG_of (impP_eq ei fun k2 => ?_)
  rw [tTup_tuple, tCons_cons, tInt_int, tCons_cons, tInt_int, tNil_nil]
  refine callG_of (joinP_eq ej fun k3 => ?_)
  rw [tTup_tuple, tCons_cons, tInt_int, tCons_cons, tInt_int, tNil_nil]
  refine callG_of (num26_ok ?_)
  rw [tInt_int]
  refine ifT_neg rfl (callG_of (num26_ok ?_))
  rw [tInt_int]
  rcases hie with rfl | rfl
  · refine ifT_neg rfl (callG_of (num26_ok ?_))
    rw [tInt_int]
    rcases hje with rfl | rfl
    · exact go rfl rfl _
    · exact heyt_out H hk _ _ _ _
  · exact ifT_pos rfl (heyt_out H hk _ _ _ _)
theorem heyt_in (H : HeadsOK) (hk : ∀ h', K (.bool true) h') {a b c : Int} {X Y Z : Rung} (ea : ofK a = some X) (eb : ofK b = some Y) (ec : ofK c = some Z) (nM : (meetR Z X).num ≤ 4096) (nI : (impR X Y).num ≤ 4096) (nJ : (joinR X Y).num ≤ 4096) (hh : Heap) :
    s5c3 K a b c (impR Y Z).all (impR X Z).all (meetR Z X).num 0 (impR X Y).num (joinR X Y).num false hh := by
  refine heyt_c3 H hk ea eb ec (M := meetR Z X) (I := impR X Y) (J := joinR X Y) (ofK_meet nM) (ofK_imp nI) (ofK_join nJ) (imp_all_eq (heyting X Y Z)) ((imp_all _ _).2 fun w hw => (join_has _ _ _).2 (.inl hw)) ((imp_all _ _).2 fun w hw => (join_has _ _ _).2 (.inr hw)) ?_
        ((imp_all _ _).2 fun w hw => ((meet_has _ _ _).1 hw).2) ((imp_all _ _).2 fun w hw => ((meet_has _ _ _).1 hw).1) 0 _
  rw [Bool.eq_iff_iff, Bool.and_eq_true, imp_all, imp_all, imp_all]
  exact ⟨fun hz => ⟨fun w hw => hz w ((join_has _ _ _).2 (.inl hw)), fun w hw => hz w ((join_has _ _ _).2 (.inr hw))⟩, fun hz w hw => ((join_has _ _ _).1 hw).elim (hz.1 w) (hz.2 w)⟩
theorem heyt_c2 (H : HeadsOK) (hk : ∀ h', K (.bool true) h') {a b c : Int} {X Y Z : Rung} (ea : ofK a = some X) (eb : ofK b = some Y) (ec : ofK c = some Z) (hh : Heap) :
    s5c2 K a b c (impR Y Z).all (impR X Z).all false hh := by
  have nM : (meetR Z X).num ≤ 4096 := meet_num (num_ofK ec) (num_ofK ea)
  have eM := twoV_ok (R := meetR) ec ea nM
  by_cases hi : 4096 < (impR X Y).num
  · have eI := twoV_no (R := impR) ea eb hi
    by_cases hj : 4096 < (joinR X Y).num
    · exact heyt_mid H hk eM eI (twoV_no (R := joinR) ea eb hj) (.inr rfl) (.inr rfl) (fun h => by cases h) _
    · exact heyt_mid H hk eM eI (twoV_ok (R := joinR) ea eb (Int.not_lt.1 hj)) (.inr rfl) (.inl rfl) (fun h => by cases h) _
  · have eI := twoV_ok (R := impR) ea eb (Int.not_lt.1 hi)
    by_cases hj : 4096 < (joinR X Y).num
    · exact heyt_mid H hk eM eI (twoV_no (R := joinR) ea eb hj) (.inl rfl) (.inr rfl) (fun _ h => by cases h) _
    · exact heyt_mid H hk eM eI (twoV_ok (R := joinR) ea eb (Int.not_lt.1 hj)) (.inl rfl) (.inl rfl) (fun _ _ h' => heyt_in H hk ea eb ec nM (Int.not_lt.1 hi) (Int.not_lt.1 hj) h') _

theorem heytL_ok (H : HeadsOK) (a b c : Int) (hk : ∀ h', K (.bool true) h') : ACalls prog 5 [.int .i64 a, .int .i64 b, .int .i64 c] h K := by
  refine s5_ok ?_
  unfold s5
  have out : ∀ (ab bc ac : Bool) (h' : Heap), s5c1 K a b c ab bc ac true h' := by
    intro ab bc ac h'
    unfold s5c1
    exact ifT_pos rfl (headsRet H hk)
  refine callG_of (belowP_ok _ _ fun k1 _ => ?_)
  simp only [tTup_tuple, tCons_cons, tInt_int, tNil_nil, tBool_bool]
  refine callG_of (belowP_ok _ _ fun k2 _ => ?_)
  simp only [tTup_tuple, tCons_cons, tInt_int, tNil_nil, tBool_bool]
  refine callG_of (belowP_ok _ _ fun k3 _ => ?_)
  simp only [tTup_tuple, tCons_cons, tInt_int, tNil_nil, tBool_bool]
  refine callG_of (num26_ok ?_)
  rw [tInt_int]
  cases ea : ofK a with
  | none => simp only [belowV, ea]; exact ifT_pos rfl (out _ _ _ _)
  | some X =>
    cases eb : ofK b with
    | none => simp only [belowV, ea, eb]; exact ifT_pos rfl (out _ _ _ _)
    | some Y =>
      cases ec : ofK c with
      | none =>
        simp only [belowV, ea, eb, ec]
        refine ifT_neg rfl (callG_of (num26_ok ?_))
        rw [tInt_int]
        exact ifT_pos rfl (out _ _ _ _)
      | some Z =>
        simp only [belowV, ea, eb, ec]
        refine ifT_neg rfl (callG_of (num26_ok ?_))
        rw [tInt_int]
        refine ifT_neg rfl (callG_of (num26_ok ?_))
        rw [tInt_int]
        show s5c1 K a b c _ _ _ false _
        unfold s5c1
        refine ifT_neg rfl ?_
        have c2 := fun hh => heyt_c2 (K := K) H hk ea eb ec hh
        cases hxy : (impR X Y).all with
        | false => exact ifT_neg rfl (c2 _)
        | true =>
          refine ifT_pos rfl ?_
          cases hyz : (impR Y Z).all with
          | false => exact ifT_neg rfl (hyz ▸ c2 _)
          | true =>
            have hxz : (impR X Z).all = true := (imp_all _ _).2 fun w hw => (imp_all _ _).1 hyz w ((imp_all _ _).1 hxy w hw)
            have := c2 k3
            rw [hyz, hxz] at this
            rw [hxz]
            exact ifT_pos rfl this
end Go.Proofs.Ytobpfhmjdoekfaa

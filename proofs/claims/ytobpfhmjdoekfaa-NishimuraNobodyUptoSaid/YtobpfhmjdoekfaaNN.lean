/- Contracts: a table that no call made. No condition. From a reading to inputs of a law: whole numbers and texts alone; the row's last step. No condition. Printed by lay.py (this repo, wip/tools): where the library's functions stand in the given program. No condition. r26's heads: run by the kernel; the sort is known by its contract; what a table's Below answers is given, and shown on the way in every order. No condition. -/
import Derived.Test.YtobpfhmjdoekfaaM5
import Derived.Test.YtobpfhmjdoekfaaPN0
import Derived.Test.YtobpfhmjdoekfaaRows
import Derived.WalkKit
import Derived.ProofKit
import Derived.OpenShut
import Derived.JoinedCond
import Derived.Below
import Derived.ChangeSame
import Derived.ReadAgain
import Derived.Test.YtobpfhmjdoekfaaProg
import Derived.Shelf.Sort.Plain
import Derived.KernelRfl
import Derived.Test.YtobpfhmjdoekfaaM6

set_option linter.unusedVariables false
set_option linter.unusedSimpArgs false

namespace Go.Proofs.Ytobpfhmjdoekfaa
open Go Go.Sym Go.Proofs.Try

variable {K : AVal → Heap → Prop} {h : Heap} {t : AVal}

/-- a table that no call made -/
def Dead (h : Heap) (t : AVal) : Prop := t = .nilptr ∨ ∃ r, t = .ptr r 0 0 ∧ h r = some (.row 2 [.agg [.nilsl, .nilmap]])
/-- there may be new things -/
def Ext (h h' : Heap) : Prop := ∀ q o, h q = some o → h' q = some o
theorem Ext.refl (h : Heap) : Ext h h := fun _ _ e => e
theorem Ext.trans {a b c : Heap} (x : Ext a b) (y : Ext b c) : Ext a c := fun q o e => y q o (x q o e)
theorem Ext.new {h : Heap} {r : Nat} (hr : h r = none) (o : AObj) : Ext h (h.set r o) := fun q o' e => by
  have : q ≠ r := fun e' => by rw [e', hr] at e; cases e
  rw [Heap.set_other _ _ this]
  exact e
theorem Ext.put {h h' : Heap} {r : Nat} (x : Ext h h') (hr : h r = none) (o : AObj) : Ext h (h'.set r o) := fun q o' e => by
  have : q ≠ r := fun e' => by rw [e', hr] at e; cases e
  rw [Heap.set_other _ _ this]
  exact x q o' e
theorem Dead.ext {h h' : Heap} (x : Ext h h') (d : Dead h t) : Dead h' t := by
  rcases d with d | ⟨r, e, hr⟩
  · exact .inl d
  · exact .inr ⟨r, e, x r _ hr⟩

theorem nilP_nil (X : Bool → Prop) : nilP .nilptr X = X true := rfl
theorem nilP_ptr (r i o : Nat) (X : Bool → Prop) : nilP (.ptr r i o) X = X false := rfl
theorem nilCheckA_ptr (r i o : Nat) (X : AVal → Prop) : nilCheckA (.ptr r i o) X = X (.ptr r i o) := rfl
theorem alive_dead (d : Dead h t) (hk : K (.bool false) h) : ACalls prog 58 [t] h K := by
  refine s58_ok ?_
  unfold s58
  rcases d with rfl | ⟨r, rfl, hr⟩
  · rw [nilP_nil]
    exact ifT_neg rfl (retG_of hk)
  · rw [nilP_ptr]
    refine ifT_pos rfl ?_
    rw [nilCheckA_ptr, addOff_ptr, ld1_fld hr rfl]
    exact retG_of hk
theorem copy_dead (d : Dead h t) (hk : K .nilptr h) : ACalls prog 52 [t] h K := by
  refine s52_ok ?_
  unfold s52
  refine callG_of (alive_dead d ?_)
  rw [tBool_bool]
  exact ifT_pos rfl (retG_of hk)
def zRow : List AVal := [.int .i64 0, .str (ByteArray.mk #[]), .int .i64 0, .int .i64 0]
theorem st_z {H : Heap} {r : Nat} (hr : H r = some (.row 4 [.agg zRow])) {a b c d : AVal} {X : Heap → Prop} (hx : X (H.set r (.row 4 [.agg [a, b, c, d]]))) : st false H (.ptr r 0 0) [a, b, c, d] X := by
  simp only [st, hr, List.getElem?_cons_zero]
  exact chk_iff.2 ⟨rfl, hx⟩
theorem row_dead (d : Dead h t) (i : Int) (hk : ∀ h', Ext h h' → K (.tuple [.agg zRow, .int .i64 1]) h') : ACalls prog 70 [t, .int .i64 i] h K := by
  refine s70_ok ?_
  unfold s70
  refine newRow_in fun r hr => callG_of (copy_dead (d.ext (Ext.new hr _)) ?_)
  rw [nilP_nil]
  refine ifT_pos rfl ?_
  refine st_z (Heap.set_same _ _ _) ?_
  rw [ldN_fld (n := 4) (cs := [.int .i64 0, .str (ByteArray.mk #[]), .int .i64 0, .int .i64 0]) (Heap.set_same _ _ _) rfl]
  exact retG_of (hk _ ((Ext.new hr _).put hr _))
theorem atoms_dead (d : Dead h t) (i : Int) (hk : ∀ h', Ext h h' → K (.tuple [.nilsl, .int .i64 1]) h') : ACalls prog 56 [t, .int .i64 i] h K := by
  refine s56_ok ?_
  unfold s56
  refine callG_of (row_dead d i fun h' x => ?_)
  simp only [tTup_tuple, tCons_cons, tInt_int, tNil_nil, zRow, tAgg_agg, tStr_str]
  refine newRow_in fun r hr => ?_
  refine st_z (Heap.set_same _ _ _) ?_
  exact ifT_pos rfl (retG_of (hk _ (x.trans ((Ext.new hr _).put hr _))))
theorem rung_dead (d : Dead h t) (i : Int) (hk : ∀ h', Ext h h' → K (.tuple [.int .i64 0, .int .i64 1]) h') : ACalls prog 35 [t, .int .i64 i] h K := by
  refine s35_ok ?_
  unfold s35
  refine callG_of (atoms_dead d i fun h' x => ?_)
  simp only [tTup_tuple, tCons_cons, tInt_int, tNil_nil]
  exact ifT_pos rfl (retG_of (hk _ x))
theorem equal_dead (d : Dead h t) (i j : Int) (hk : ∀ h', Ext h h' → K (.tuple [.bool false, .int .i64 1]) h') : ACalls prog 41 [t, .int .i64 i, .int .i64 j] h K := by
  refine s41_ok ?_
  unfold s41
  refine callG_of (rung_dead d i fun h' x => ?_)
  simp only [tTup_tuple, tCons_cons, tInt_int, tNil_nil]
  exact ifT_pos rfl (retG_of (hk _ x))
theorem ladder_dead (d : Dead h t) (s : ByteArray) (k : Int) (hk : K (.tuple [.int .i64 0, .int .i64 1]) h) : ACalls prog 34 [t, .str s, .int .i64 k] h K := by
  refine s34_ok ?_
  unfold s34
  refine callG_of (copy_dead d ?_)
  rw [nilP_nil]
  exact ifT_pos rfl (retG_of hk)
theorem nobody_dead (d : Dead h t) (i k : Int) (hk : ∀ h', Ext h h' → K (.bool true) h') : ACalls prog 20 [t, .int .i64 i, .int .i64 k] h K := by
  refine s20_ok ?_
  unfold s20
  refine callG_of (ladder_dead d _ k ?_)
  simp only [tTup_tuple, tCons_cons, tInt_int, tNil_nil]
  refine callG_of (rung_dead d i fun h1 x1 => ?_)
  simp only [tTup_tuple, tCons_cons, tInt_int, tNil_nil]
  refine callG_of (equal_dead (d.ext x1) i i fun h2 x2 => ?_)
  simp only [tTup_tuple, tCons_cons, tInt_int, tNil_nil, tBool_bool]
  exact ifT_pos rfl (ifT_pos rfl (ifT_pos rfl (ifT_pos rfl (ifT_pos rfl (retG_of (hk _ (x1.trans x2)))))))
theorem nobodyL_ok (heads : ∀ {h' : Heap} {K : AVal → Heap → Prop}, K (.bool true) h' → ACalls prog 16 [] h' K) (i k : Int) (hk : ∀ h', K (.bool true) h') : ACalls prog 6 [.int .i64 i, .int .i64 k] h K := by
  refine s6_ok ?_
  unfold s6
  refine callG_of (nobody_dead (.inl rfl) i k fun h1 x1 => ?_)
  rw [tBool_bool]
  refine ifT_pos rfl (newRow_in fun r hr => callG_of (nobody_dead (.inr ⟨r, rfl, Heap.set_same _ _ _⟩) i k fun h2 x2 => ?_))
  rw [tBool_bool]
  refine ifT_pos rfl (callG_of (heads ?_))
  rw [tBool_bool]
  exact retG_of (hk _)
end Go.Proofs.Ytobpfhmjdoekfaa

namespace Go.Proofs.Ytobpfhmjdoekfaa
open Go Go.Sym Go.Proofs.Try
open Go.ChangeShapes Go.WideShapes Go.ChangeAt Go.RowKit
set_option linter.unusedVariables false
set_option maxRecDepth 4000

/- ---- the measure ---- -/
theorem bulk_one {H : Type} (d : DataW H) : 1 ≤ Rows.uptoBulk d := by
  cases d with
  | lit l => cases l <;> simp [Rows.uptoBulk]
  | nil => simp [Rows.uptoBulk]
  | ptr d => simp [Rows.uptoBulk]
  | slice elems spare => simp [Rows.uptoBulk]
  | agg parts => simp [Rows.uptoBulk]
  | iface t d => simp [Rows.uptoBulk]
  | map entries => simp [Rows.uptoBulk]
  | held h => simp [Rows.uptoBulk]
theorem bulk_mem {H : Type} {d : DataW H} {l : List (DataW H)} (h : d ∈ l) : Rows.uptoBulk d ≤ Rows.uptoBulkAll l := by
  induction l with
  | nil => cases h
  | cons x r ih =>
    simp only [Rows.uptoBulkAll]
    rcases List.mem_cons.1 h with e | e
    · subst e; omega
    · have := ih e; omega
theorem bulk_len {H : Type} (l : List (DataW H)) : l.length ≤ Rows.uptoBulkAll l := by
  induction l with
  | nil => simp
  | cons x r ih =>
    have := bulk_one x
    simp only [Rows.uptoBulkAll, List.length_cons]
    omega
theorem bulkOK {H : Type} : BulkOK (Rows.uptoBulk (H := H)) where
  str l := by simp [Rows.uptoBulk]
  ptr d := by simp [Rows.uptoBulk]
  len l r := by have := bulk_len l; simp only [Rows.uptoBulk]; omega
  elem l r d h := by have := bulk_mem h; simp only [Rows.uptoBulk]; omega
  part l d h := by have := bulk_mem h; simp only [Rows.uptoBulk]; omega

theorem closed_ts : closedT prog [3, 9] = true := by kernel_rfl

section
variable {H : Type} {enc : TypeId × Value → H} {W : World}
theorem arg_got {t : TypeId} {v : Value} {d : DataW H} {ps : List MemPlace} {B : Nat} (ht : t ∈ [3, 9]) (h : DataW.Trod enc prog W 0 (fun _ => true) true t v d ps) (hb : Rows.uptoBulk d ≤ B) :
    ∃ n, Got prog W B n t v.cells.toList := by
  obtain ⟨n, hn⟩ := h
  exact ⟨n, trod_rel bulkOK closed_ts n t _ _ ht hn hb⟩
theorem arg_int {t : TypeId} {v : Value} (hu : prog.underlying t = some (.int .i64)) (hv : Value.okWide prog W .any 0 t v) {B n : Nat} (h : Got prog W B n t v.cells.toList) : ∃ z : Int, RelV (ghost0 W) (.int .i64 z) v := by
  have hc : v.cells.toList = [v] := by
    cases v <;> first | rfl | skip
    simp [Value.okWide, Cell.okWide, Cell.ok, hu] at hv
  rw [hc] at h
  obtain ⟨l, h1, h2, _⟩ := h
  cases h1 with
  | @cons a x l xs ha hb =>
    cases hb
    cases n with
    | zero => exact h2.elim
    | succ n =>
      simp only [ShV, hu] at h2
      obtain ⟨z, e, _⟩ := h2
      obtain rfl : a = .int .i64 z := by simpa using e
      exact ⟨z, ha⟩

/- ---- what a law leaves ---- -/
theorem law_calls {f : FuncId} {avs : List AVal} {args : Array Value} (hr : RelVs (ghost0 W) avs args.toList) (hA : ACalls prog f avs (fun _ => none) (fun v _ => v = .bool true)) :
    Calls prog f args W fun e W' => e = .returned (.bool true) ∧ Below W.heap.size W W' := by
  have := hA.2 (ghost0 W) args.toList W hr (relH0 W)
  simp only [Array.toArray_toList] at this
  refine this.mono ?_
  rintro e w' ⟨v, κ', av, h', rfl, le, H', hv, rfl⟩
  cases hv
  have hb : ∀ k, k < W.heap.size → w'.heap[k]? = W.heap[k]? := fun k hk => by
    have e1 : W.heap[k]? = some W.heap[k] := by simp [hk]
    rw [H'.imm k _ (le.imm k _ e1), e1]
  refine ⟨rfl, H'.os.trans le.os, H'.tape.trans le.tape, H'.output.trans le.output, ?_, hb⟩
  by_cases h0 : W.heap.size = 0
  · omega
  · have e1 := hb (W.heap.size - 1) (by omega)
    have e2 : W.heap[W.heap.size - 1]? = some W.heap[W.heap.size - 1] := by simp
    rw [e2] at e1
    have := (Array.getElem?_eq_some_iff.1 e1).1
    omega
theorem same_at {W' : World} (hb : Below W.heap.size W W') {p : MemPlace} (hp : p.block < W.heap.size) : W.sameAt W' p := by
  have := hb.block p.block hp
  cases p with
  | cell b off =>
    show W'.cell? ⟨b, off, none⟩ = W.cell? ⟨b, off, none⟩
    simp only [MemPlace.block] at this
    unfold World.cell?
    rw [this]
  | map b => exact this
theorem args_again {W' : World} (hb : Below W.heap.size W W') {sp : Nat → Bool} {held : Bool} {base : Nat} : ∀ {ts : List TypeId} {vs : List Value} {ds : List (DataW H)} {ps : List MemPlace}, DataW.TrodAll enc prog W base sp held ts vs ds ps → (∀ p ∈ ps, p.block < W.heap.size) → DataW.TrodAll enc prog W' base sp held ts vs ds ps
  | [], [], [], _, h, _ => h
  | _ :: _, _ :: _, _ :: _, _, ⟨p, q, ⟨n, h1⟩, h2, e⟩, hl => ⟨p, q, ⟨n, DataW.trod_carry n _ _ _ h1 (fun x hx => same_at hb (hl x (by rw [e]; exact List.mem_append_left _ hx)))⟩, args_again hb h2 (fun x hx => hl x (by rw [e]; exact List.mem_append_right _ hx)), e⟩
/-- the row's last step: it answered true, and what was there stands -/
theorem post_true {f : Func} {s : ChangeSpec} {apart fresh handsOn again : Bool} {W' : World} {args : Array Value} {ds : List (DataW H)} {before : List MemPlace} (hf : f.resultTypes = #[4]) (hs : s.vars = [])
    (hfn : s.fn H (ds ++ []) = { results := [.lit (.bool true)], args := ds }) (hT : ∀ t ∈ f.params.toList, t < prog.types.size) (K : Kids prog (· < prog.types.size)) (hz : ∀ t e, t < prog.types.size → prog.underlying t = some (.slice e) → 0 < prog.cellsOf e)
    (hW : DataW.Whole enc prog f.params.toList s.vars apart W args.toList ds [] before) (hb : Below W.heap.size W W') : s.post enc prog f apart fresh handsOn again W args (.bool true) W' := by
  have hlt : ∀ p ∈ before, p.block < W.heap.size := fun p hp => hW.lt p hp
  have hW0 := hW
  obtain ⟨pa, q, hA, hV, hps, hz2, hn⟩ := hW
  rw [hs] at hV
  obtain ⟨_, rfl⟩ := trodVars_none hV
  rw [List.append_nil] at hps
  subst hps
  have hargs : ∀ sp : Nat → Bool, (∀ p ∈ before, sp p.block = true) → DataW.TrodAll enc prog W' 0 sp true f.params.toList args.toList ds before :=
    fun sp hsp => args_again hb (DataW.TrodAll.respare K hz hT hA hsp) hlt
  have hres : ∀ (b : Nat) (sp : Nat → Bool) (hd : Bool), DataW.TrodAll enc prog W' b sp hd f.resultTypes.toList ((Value.bool true).resultList f.resultTypes.size) [.lit (.bool true)] [] := fun b sp hd => by
    rw [hf]
    exact trodAll_cons_mk (shut_bool underlying4 _) trodAll_mk0
  have hold : ∀ p ∈ before, (fun b => decide (b < W.heap.size)) p.block = true := fun p hp => by simpa using hlt p hp
  have hvars : ∀ sp, DataW.TrodVars enc prog W' sp s.vars [] [] := fun sp => by rw [hs]; rfl
  refine ⟨ds, [], before, [], before, [], hW0, by rw [hfn]; exact hres _ _ _, by rw [hfn]; exact hargs _ hold, by rw [hfn]; exact hvars _, World.keptBut_mono (fun p hp => ⟨hp, .inr (by simp [hp])⟩) (hb.frame (· ∈ before)), fun _ => ?_⟩
  refine ⟨ok_one hf rfl (okWide_bool_mk underlying4 _), _, _, [] ++ before ++ [], ⟨[] ++ before, [], trodAll_append (hargs _ (fun _ _ => rfl)) (hres _ _ _), hvars _, rfl, ?_, ?_⟩, ?_⟩
  · intro b off hp
    have hin : MemPlace.cell b off ∈ before := by simpa using hp
    rw [hb.frozen (hlt _ hin)]
    exact hz2 b off hin
  · intro ha
    have := hn ha
    simpa using this
  · intro p hp _
    simpa using hp
end
end Go.Proofs.Ytobpfhmjdoekfaa

namespace Go.Proofs.Ytobpfhmjdoekfaa
open Go Go.Proofs Go.Shelf
def layI_ren : Ren := ⟨fun | 189 => 73 | 125 => 77 | 257 => 78 | 128 => 89 | 129 => 90 | 294 => 91 | 295 => 92 | 296 => 93 | 297 => 94 | 298 => 95 | 299 => 96 | 216 => 97 | 300 => 98 | 301 => 99 | 328 => 106 | 329 => 101 | 330 => 102 | 331 => 107 | 332 => 108 | 215 => 109 | 343 => 111 | n => n, fun | 28 => 69 | 3 => 3 | 46 => 103 | 0 => 0 | 51 => 115 | 53 => 117 | 4 => 4 | 183 => 108 | 182 => 107 | 131 => 79 | 5 => 5 | 9 => 9 | 218 => 123 | 222 => 127 | 228 => 131 | 229 => 29 | n => n, fun n => n⟩
set_option maxRecDepth 100000 in
theorem layI : Lays.n189 Try.prog layI_ren := {
  mixed := by kernel_rfl,
  f125 := Try.func77.trans (congrArg some (by kernel_rfl)),
  f128 := Try.func89.trans (congrArg some (by kernel_rfl)),
  f129 := Try.func90.trans (congrArg some (by kernel_rfl)),
  f189 := Try.func73.trans (congrArg some (by kernel_rfl)),
  f215 := Try.func109.trans (congrArg some (by kernel_rfl)),
  f216 := Try.func97.trans (congrArg some (by kernel_rfl)),
  f257 := Try.func78.trans (congrArg some (by kernel_rfl)),
  f294 := Try.func91.trans (congrArg some (by kernel_rfl)),
  f295 := Try.func92.trans (congrArg some (by kernel_rfl)),
  f296 := Try.func93.trans (congrArg some (by kernel_rfl)),
  f297 := Try.func94.trans (congrArg some (by kernel_rfl)),
  f298 := Try.func95.trans (congrArg some (by kernel_rfl)),
  f299 := Try.func96.trans (congrArg some (by kernel_rfl)),
  f300 := Try.func98.trans (congrArg some (by kernel_rfl)),
  f301 := Try.func99.trans (congrArg some (by kernel_rfl)),
  f328 := Try.func106.trans (congrArg some (by kernel_rfl)),
  f329 := Try.func101.trans (congrArg some (by kernel_rfl)),
  f330 := Try.func102.trans (congrArg some (by kernel_rfl)),
  f331 := Try.func107.trans (congrArg some (by kernel_rfl)),
  f332 := Try.func108.trans (congrArg some (by kernel_rfl)),
  f343 := Try.func111.trans (congrArg some (by kernel_rfl)),
  t0 := Try.underlying0,
  a0 := Try.isAgg0,
  z0 := Try.sizeOf0,
  v0 := Try.zeroValue0,
  t3 := Try.underlying3,
  a3 := Try.isAgg3,
  z3 := Try.sizeOf3,
  v3 := Try.zeroValue3,
  t4 := Try.underlying4,
  a4 := Try.isAgg4,
  z4 := Try.sizeOf4,
  v4 := Try.zeroValue4,
  t5 := Try.underlying5,
  a5 := Try.isAgg5,
  z5 := Try.sizeOf5,
  v5 := Try.zeroValue5,
  t9 := Try.underlying9,
  a9 := Try.isAgg9,
  z9 := Try.sizeOf9,
  v9 := Try.zeroValue9,
  t28 := Try.underlying69,
  a28 := Try.isAgg69,
  z28 := Try.sizeOf69,
  v28 := Try.zeroValue69,
  t46 := Try.underlying103,
  a46 := Try.isAgg103,
  z46 := Try.sizeOf103,
  v46 := Try.zeroValue103,
  t51 := Try.underlying115,
  a51 := Try.isAgg115,
  z51 := Try.sizeOf115,
  v51 := Try.zeroValue115,
  t53 := Try.underlying117,
  a53 := Try.isAgg117,
  z53 := Try.sizeOf117,
  v53 := Try.zeroValue117,
  t131 := Try.underlying79,
  a131 := Try.isAgg79,
  z131 := Try.sizeOf79,
  v131 := Try.zeroValue79,
  t182 := Try.underlying107,
  a182 := Try.isAgg107,
  z182 := Try.sizeOf107,
  v182 := Try.zeroValue107,
  t183 := Try.underlying108,
  a183 := Try.isAgg108,
  z183 := Try.sizeOf108,
  v183 := Try.zeroValue108,
  t218 := Try.underlying123,
  a218 := Try.isAgg123,
  z218 := Try.sizeOf123,
  v218 := Try.zeroValue123,
  t222 := Try.underlying127,
  a222 := Try.isAgg127,
  z222 := Try.sizeOf127,
  v222 := Try.zeroValue127,
  t228 := Try.underlying131,
  a228 := Try.isAgg131,
  z228 := Try.sizeOf131,
  v228 := Try.zeroValue131,
  t229 := Try.underlying29,
  a229 := Try.isAgg29,
  z229 := Try.sizeOf29,
  v229 := Try.zeroValue29 }
end Go.Proofs.Ytobpfhmjdoekfaa

namespace Go.Proofs.Ytobpfhmjdoekfaa
open Go Go.Sym Go.Proofs Go.Proofs.Try
def isSort (f : FuncId) : Bool := Nat.beq f 73
theorem runSort_ok : CalleeOK prog (xcallS prog isSort sortX 20000 60) := xcallS_ok (fun f args n m K hf wf h => by
  have hf : f = 73 := Nat.eq_of_beq_eq_true hf
  subst hf
  exact sortX_ok (g := 73) layI (by kernel_rfl) wf h) 60
def isBelow (f : FuncId) : Bool := Nat.beq f 57
def ansBelow (_ : FuncId) (args : List AVal) : Option (List AVal) := match args with
  | [_, .int _ i] => match Int.toNat i with
    | 4 => some [.lsl 1 [.int .i64 0, .int .i64 1, .int .i64 2, .int .i64 3, .int .i64 4], .int .i64 0]
    | _ => none
  | _ => none
theorem runHeads_ok : CalleeOK prog (xcallS prog isBelow (givenB (xcallS prog isSort sortX 20000 60) ansBelow) 20000 60) :=
  xcallS_ok (fun f args n m K _ wf h => givenB_ok runSort_ok f args n m K wf h) 60
set_option maxRecDepth 1000000 in
theorem heads26 : xcallS prog isBelow (givenB (xcallS prog isSort sortX 20000 60) ansBelow) 20000 60 16 [] 0 .leaf isTrueA = true := by kernel_rfl
/-- r26's heads answer true and leave all as it was -/
theorem heads_at {h : Heap} {K : AVal → Heap → Prop} (hk : K (.bool true) h) : ACalls prog 16 [] h K := heads_okC runHeads_ok heads26 hk
end Go.Proofs.Ytobpfhmjdoekfaa

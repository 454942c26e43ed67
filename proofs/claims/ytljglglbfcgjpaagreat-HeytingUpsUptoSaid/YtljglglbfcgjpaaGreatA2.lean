/- Printed by layg.py (this repo, wip/tools): where the library's functions stand in the given program. No condition. Contracts: sets of worlds as texts of bytes 0 and 1: joined, compare, the sort. No condition. Contracts: the program's up-sets of a model. No condition. Contracts: copies of an algebra; the same algebra. No condition. Contracts: the program's Ups and Chain. No condition. Contracts: the document's Chain; a number that makes no chain. No condition. Words for contracts: sets of numbers as sixteen words of sixty-four bits. No condition. Plain: BIRKHOFF: an element of an algebra is known by the primes below it; each set of primes that is closed downwards is such. No condition. Plain: what is next above each world. No condition. Contracts: what is next above each world, by the program; copies. No condition. Plain law: tidying keeps the order; the parts of a glued model. No condition; no program. Contracts: the program's Primes. No condition. Contracts: how a law of this layer ends. No condition. r23's heads answer true. No condition. Plain: sets of worlds as words of sixty-four bits, and as rows of truths. No condition. -/
import Derived.Shelf.SlSortCmp.NoneTotal
import Derived.Test.YtljglglbfcgjpaaGreatProg
import Derived.KernelRfl
import Derived.Test.YtljglglbfcgjpaaGreatA1
import Derived.Test.YtljglglbfcgjpaaGreatM7
import Derived.Test.YtljglglbfcgjpaaGreatM5

set_option linter.unusedVariables false
set_option linter.unusedSimpArgs false

namespace Go.Proofs.YtljglglbfcgjpaaGreat
open Go Go.Proofs Go.Shelf
def layF_ren : Ren := ⟨fun | 6 => 61 | 15 => 67 | 14 => 102 | 28 => 113 | 29 => 114 | 20 => 123 | 21 => 124 | 22 => 125 | 23 => 126 | 24 => 127 | 25 => 128 | 26 => 129 | 27 => 130 | 46 => 153 | 47 => 134 | 48 => 135 | 49 => 154 | 50 => 155 | 57 => 164 | n => n, fun | 22 => 77 | 24 => 80 | 25 => 143 | 3 => 3 | 39 => 89 | 0 => 0 | 53 => 187 | 55 => 88 | 4 => 4 | 46 => 180 | 45 => 179 | 50 => 105 | 5 => 5 | 9 => 9 | 66 => 205 | 70 => 209 | 76 => 219 | 77 => 62 | n => n, fun n => n⟩
set_option maxRecDepth 100000 in
theorem layF : SlLaysF.n6 Tryz.prog layF_ren := {
  mixed := by kernel_rfl,
  f6 := ⟨Tryz.f61.name, by kernel_rfl, Tryz.func61.trans (congrArg some (by kernel_rfl))⟩,
  f14 := ⟨Tryz.f102.name, by kernel_rfl, Tryz.func102.trans (congrArg some (by kernel_rfl))⟩,
  f15 := Tryz.func67.trans (congrArg some (by kernel_rfl)),
  f20 := ⟨Tryz.f123.name, by kernel_rfl, Tryz.func123.trans (congrArg some (by kernel_rfl))⟩,
  f21 := ⟨Tryz.f124.name, by kernel_rfl, Tryz.func124.trans (congrArg some (by kernel_rfl))⟩,
  f22 := ⟨Tryz.f125.name, by kernel_rfl, Tryz.func125.trans (congrArg some (by kernel_rfl))⟩,
  f23 := ⟨Tryz.f126.name, by kernel_rfl, Tryz.func126.trans (congrArg some (by kernel_rfl))⟩,
  f24 := ⟨Tryz.f127.name, by kernel_rfl, Tryz.func127.trans (congrArg some (by kernel_rfl))⟩,
  f25 := ⟨Tryz.f128.name, by kernel_rfl, Tryz.func128.trans (congrArg some (by kernel_rfl))⟩,
  f26 := ⟨Tryz.f129.name, by kernel_rfl, Tryz.func129.trans (congrArg some (by kernel_rfl))⟩,
  f27 := ⟨Tryz.f130.name, by kernel_rfl, Tryz.func130.trans (congrArg some (by kernel_rfl))⟩,
  f28 := Tryz.func113.trans (congrArg some (by kernel_rfl)),
  f29 := Tryz.func114.trans (congrArg some (by kernel_rfl)),
  f46 := ⟨Tryz.f153.name, by kernel_rfl, Tryz.func153.trans (congrArg some (by kernel_rfl))⟩,
  f47 := Tryz.func134.trans (congrArg some (by kernel_rfl)),
  f48 := Tryz.func135.trans (congrArg some (by kernel_rfl)),
  f49 := ⟨Tryz.f154.name, by kernel_rfl, Tryz.func154.trans (congrArg some (by kernel_rfl))⟩,
  f50 := ⟨Tryz.f155.name, by kernel_rfl, Tryz.func155.trans (congrArg some (by kernel_rfl))⟩,
  f57 := ⟨Tryz.f164.name, by kernel_rfl, Tryz.func164.trans (congrArg some (by kernel_rfl))⟩,
  t0 := Tryz.underlying0,
  a0 := Tryz.isAgg0,
  z0 := Tryz.sizeOf0,
  v0 := Tryz.zeroValue0,
  t3 := Tryz.underlying3,
  a3 := Tryz.isAgg3,
  z3 := Tryz.sizeOf3,
  v3 := Tryz.zeroValue3,
  t4 := Tryz.underlying4,
  a4 := Tryz.isAgg4,
  z4 := Tryz.sizeOf4,
  v4 := Tryz.zeroValue4,
  t5 := Tryz.underlying5,
  a5 := Tryz.isAgg5,
  z5 := Tryz.sizeOf5,
  v5 := Tryz.zeroValue5,
  t9 := Tryz.underlying9,
  a9 := Tryz.isAgg9,
  z9 := Tryz.sizeOf9,
  v9 := Tryz.zeroValue9,
  t22 := Tryz.underlying77,
  a22 := Tryz.isAgg77,
  z22 := Tryz.sizeOf77,
  v22 := Tryz.zeroValue77,
  a24 := Tryz.isAgg80,
  z24 := Tryz.sizeOf80,
  t25 := Tryz.underlying143,
  a25 := Tryz.isAgg143,
  z25 := Tryz.sizeOf143,
  v25 := Tryz.zeroValue143,
  t39 := Tryz.underlying89,
  a39 := Tryz.isAgg89,
  z39 := Tryz.sizeOf89,
  v39 := Tryz.zeroValue89,
  t45 := Tryz.underlying179,
  a45 := Tryz.isAgg179,
  z45 := Tryz.sizeOf179,
  v45 := Tryz.zeroValue179,
  t46 := Tryz.underlying180,
  a46 := Tryz.isAgg180,
  z46 := Tryz.sizeOf180,
  v46 := Tryz.zeroValue180,
  t50 := Tryz.underlying105,
  a50 := Tryz.isAgg105,
  z50 := Tryz.sizeOf105,
  v50 := Tryz.zeroValue105,
  t53 := Tryz.underlying187,
  a53 := Tryz.isAgg187,
  z53 := Tryz.sizeOf187,
  v53 := Tryz.zeroValue187,
  t55 := Tryz.underlying88,
  a55 := Tryz.isAgg88,
  z55 := Tryz.sizeOf88,
  v55 := Tryz.zeroValue88,
  t66 := Tryz.underlying205,
  a66 := Tryz.isAgg205,
  z66 := Tryz.sizeOf205,
  v66 := Tryz.zeroValue205,
  t70 := Tryz.underlying209,
  a70 := Tryz.isAgg209,
  z70 := Tryz.sizeOf209,
  v70 := Tryz.zeroValue209,
  t76 := Tryz.underlying219,
  a76 := Tryz.isAgg219,
  z76 := Tryz.sizeOf219,
  v76 := Tryz.zeroValue219,
  t77 := Tryz.underlying62,
  a77 := Tryz.isAgg62,
  z77 := Tryz.sizeOf62,
  v77 := Tryz.zeroValue62 }
end Go.Proofs.YtljglglbfcgjpaaGreat

namespace Go.Proofs.YtljglglbfcgjpaaGreat
open Go Go.Sym Go.Proofs.Tryz
variable {K : AVal → Heap → Prop} {h h0 hb : Heap} {n : Nat}
/- ---------------- texts ---------------- -/
def u8 (l : List Bool) : List UInt8 := l.map fun b => if b then 1 else 0
def bsS (l : List Bool) : ByteArray := ⟨(u8 l).toArray⟩
def bV (l : List Bool) : List AVal := l.map fun b => .int .u8 (if b then 1 else 0)
theorem bsS_size (l : List Bool) : (bsS l).size = l.length := by simp [bsS, u8, ByteArray.size]
theorem bytesV_bsS (l : List Bool) : bytesV (bsS l) = bV l := by
  show (u8 l).map (fun b => AVal.int .u8 (b.toNat : Int)) = _
  unfold bV u8
  rw [List.map_map]
  refine List.map_congr_left fun b _ => ?_
  cases b <;> rfl
theorem btA_bsS (l : List Bool) (i : Nat) : btA (bsS l) (i : Int) = if l.getD i false then 1 else 0 := by
  unfold btA
  rw [Int.toNat_natCast]
  have e : (bsS l)[i]? = (u8 l)[i]? := by
    have hz : (u8 l).length = l.length := by simp [u8]
    by_cases hi : i < (u8 l).length
    · rw [getElem?_pos (bsS l) i (by show i < (bsS l).size; rw [bsS_size]; omega), getElem?_pos (u8 l) i hi]
      rfl
    · rw [getElem?_neg (bsS l) i (by show ¬ i < (bsS l).size; rw [bsS_size]; omega), getElem?_neg (u8 l) i hi]
  rw [e]
  unfold u8
  rw [List.getElem?_map, List.getD_eq_getElem?_getD]
  cases l[i]? with
  | none => rfl
  | some b => cases b <;> rfl
theorem u8_inj : ∀ {a b : List Bool}, u8 a = u8 b → a = b
  | [], [], _ => rfl
  | [], y :: b, h => by simp [u8] at h
  | x :: a, [], h => by simp [u8] at h
  | x :: a, y :: b, h => by
    simp only [u8, List.map_cons, List.cons.injEq] at h
    rw [u8_inj (a := a) (b := b) h.2]
    cases x <;> cases y <;> first | rfl | (exact absurd h.1 (by decide))
theorem bsS_inj {a b : List Bool} (h : bsS a = bsS b) : a = b := by
  unfold bsS at h
  have : u8 a = u8 b := congrArg (fun x : ByteArray => x.data.toList) h
  exact u8_inj this
theorem bytesOf_bV : ∀ l : List Bool, bytesOf (bV l) = some ((u8 l).map fun b => (b.toNat : Int))
  | [] => rfl
  | b :: l => by
    have ih := bytesOf_bV l
    show bytesOf (.int .u8 _ :: bV l) = _
    unfold bytesOf
    rw [ih]
    cases b <;> rfl
theorem bStr_row {h : Heap} {r : Nat} {l : List Bool} (hr : h r = some (.row 1 (bV l))) (X : ByteArray → Prop) : bStr h (.sl r 1 0 l.length) X = X (bsS l) := by
  have e : bStrR h (.sl r 1 0 l.length) = some (bsS l) := by
    unfold bStrR elemsA
    have hl : (bV l).length = l.length := by simp [bV]
    simp only [hr, if_true, Nat.zero_add, List.drop_zero]
    rw [if_pos (by omega), List.take_of_length_le (by omega)]
    simp only [bytesOf_bV]
    unfold strBs
    rw [Go.foldl_push_byteCells, show ByteArray.empty.data = #[] from rfl, Array.empty_append]
    rfl
  unfold bStr
  rw [e]
/- ---------------- joined ---------------- -/
def joinS (l : List Bool) (ws : List Nat) : List Bool := ws.foldl (fun l w => l.set w true) l
theorem joinS_len : ∀ (ws : List Nat) (l : List Bool), (joinS l ws).length = l.length
  | [], l => rfl
  | w :: ws, l => by
    show (joinS (l.set w true) ws).length = _
    rw [joinS_len ws, List.length_set]
theorem joinS_get : ∀ (ws : List Nat) (l : List Bool) (i : Nat), i < l.length → (joinS l ws).getD i false = (l.getD i false || decide (i ∈ ws))
  | [], l, i, _ => by simp [joinS]
  | w :: ws, l, i, hi => by
    show (joinS (l.set w true) ws).getD i false = _
    rw [joinS_get ws _ i (by simpa using hi)]
    have : (l.set w true).getD i false = (l.getD i false || decide (i = w)) := by
      rw [List.getD_eq_getElem?_getD, List.getD_eq_getElem?_getD, List.getElem?_set]
      by_cases e : w = i
      · subst e; simp [hi]
      · simp [e, Ne.symm e]
    rw [this, Bool.or_assoc]
    congr 1
    simp [Bool.decide_or]
theorem joinS_snoc (l : List Bool) (ws : List Nat) (w : Nat) : joinS l (ws ++ [w]) = (joinS l ws).set w true := by
  unfold joinS
  rw [List.foldl_append]
  rfl
theorem ext_getD {a b : List Bool} (hl : a.length = b.length) (h : ∀ i, i < a.length → a.getD i false = b.getD i false) : a = b := by
  refine List.ext_getElem hl fun i h1 h2 => ?_
  have := h i h1
  rw [List.getD_eq_getElem?_getD, List.getD_eq_getElem?_getD, List.getElem?_eq_getElem h1, List.getElem?_eq_getElem h2] at this
  exact this
theorem joined_l1 {l : List Bool} {ws : List Nat} {v : AVal} (hv : Ints v (natI ws)) (hr : ∀ w ∈ ws, w < l.length) (hw : ws.length ≤ 1048576) {r : Nat} (hn : h0 r = none) (hk : K (.str (bsS (joinS l ws))) h0) :
    ∀ d i : Nat, i + d = ws.length → ∀ h, Own h0 [.cell r (.row 1 (bV (joinS l (ws.take i))))] h → s28l1 K (d + 1) (.sl r 1 0 l.length) v (ws.length : Int) (i : Int) h
  | 0, i, hd, h, W => by
    unfold s28l1
    refine ifT_neg (by simp; omega) ?_
    rw [List.take_of_length_le (by omega)] at W
    have e : l.length = (joinS l ws).length := (joinS_len ws l).symm
    rw [e, bStr_row (W.get 0 _ r rfl rfl)]
    exact retG_drop W.old hk
  | d + 1, i, hd, h, W => by
    have hi : i < ws.length := by omega
    have hwl := hr _ (List.getElem_mem hi)
    unfold s28l1
    refine ifT_pos (by simp; omega) ?_
    rw [hv.ix (i := i) (by simpa [natI] using hi), ld1_lptr]
    rw [show (natI ws)[i]'(by simpa [natI] using hi) = ((ws[i] : Nat) : Int) by simp [natI], tInt_int]
    refine ixS_sl0 hwl ?_
    have hl : ws[i] < (joinS l (ws.take i)).length := by rw [joinS_len]; exact hwl
    refine st_elem (W.get 0 _ r rfl rfl) (e := .int .u8 (if (joinS l (ws.take i))[ws[i]] then 1 else 0)) (by unfold bV; rw [List.getElem?_map, List.getElem?_eq_getElem hl]; rfl) rfl ?_
    have e : (bV (joinS l (ws.take i))).set ws[i] (.int .u8 1) = bV (joinS l (ws.take (i + 1))) := by
      rw [List.take_succ_eq_append_getElem hi, joinS_snoc]
      unfold bV
      rw [List.map_set]
      rfl
    rw [e]
    exact rg_of (by omega) (by omega) (s28l1_go (joined_l1 hv hr hw hn hk d (i + 1) (by omega) _ (W.put (i := 0) rfl _)))
theorem joined_ok {l : List Bool} {ws : List Nat} {v : AVal} (hv : Ints v (natI ws)) (hr : ∀ w ∈ ws, w < l.length) (hl : l.length ≤ 1048576) (hw : ws.length ≤ 1048576) (hk : K (.str (bsS (joinS l ws))) h) : ACalls prog 28 [.str (bsS l), v] h K := by
  refine s28_ok ?_
  unfold s28
  show _ ∧ _
  refine ⟨by rw [bsS_size]; omega, newRow_in fun r hr0 => ?_⟩
  dsimp only
  rw [hv.len, bsS_size, bytesV_bsS]
  have W := (Own.start h).newC hr0 (.row 1 (bV l))
  have e : ((natI ws).length : Int) = (ws.length : Int) := by simp [natI]
  rw [e]
  exact s28l1_in (ws.length + 1) (joined_l1 hv hr hw hr0 hk ws.length 0 (by omega) _ W)
/- ---------------- compare ---------------- -/
def cmpD (a b : List Bool) : Nat → Int
  | 0 => 0
  | d + 1 => if a.getD d false = b.getD d false then cmpD a b d else if a.getD d false then 1 else -1
theorem cmpD_swap (a b : List Bool) : ∀ d, cmpD b a d = - cmpD a b d
  | 0 => rfl
  | d + 1 => by
    unfold cmpD
    rw [cmpD_swap a b d]
    cases e1 : a.getD d false <;> cases e2 : b.getD d false <;> simp
theorem cmpD_zero {a b : List Bool} : ∀ {d}, cmpD a b d = 0 → ∀ i, i < d → a.getD i false = b.getD i false
  | 0, _, i, hi => by omega
  | d + 1, h, i, hi => by
    unfold cmpD at h
    split at h
    · rename_i e
      by_cases e2 : i = d
      · rw [e2]; exact e
      · exact cmpD_zero h i (by omega)
    · split at h <;> cases h
theorem cmpD_trans (a b c : List Bool) : ∀ d, cmpD a b d ≤ 0 → cmpD b c d ≤ 0 → cmpD a c d ≤ 0 ∧ (cmpD a b d < 0 → cmpD a c d < 0) ∧ (cmpD b c d < 0 → cmpD a c d < 0)
  | 0, _, _ => by simp [cmpD]
  | d + 1, h1, h2 => by
    unfold cmpD at h1 h2 ⊢
    cases e1 : a.getD d false <;> cases e2 : b.getD d false <;> cases e3 : c.getD d false <;> rw [e1, e2] at h1 <;> rw [e2, e3] at h2 <;> simp only [reduceIte, Bool.false_eq_true, Bool.true_eq_false, reduceCtorEq] at h1 h2 ⊢ <;> first | (exfalso; omega) | exact cmpD_trans a b c d h1 h2 | (refine ⟨by decide, fun _ => by decide, fun _ => by decide⟩)
theorem compare_l1 {a b : List Bool} {n : Nat} (hn : n ≤ 1048576) (ha : a.length = n) (hb : b.length = n) : ∀ d : Nat, d ≤ n → K (.int .i64 (cmpD a b d)) h → s62l1 K (d + 1) (bsS a) (bsS b) ((d : Int) - 1) h
  | 0, _, hk => by
    unfold s62l1
    exact ifT_neg (by simp) (retG_of hk)
  | d + 1, hd, hk => by
    unfold s62l1
    have e : ((d + 1 : Nat) : Int) - 1 = (d : Int) := by omega
    rw [e, btA_bsS, btA_bsS, bsS_size, bsS_size, ha, hb]
    refine ifT_pos (by simp) ⟨⟨by omega, by omega⟩, ⟨by omega, by omega⟩, ?_⟩
    unfold cmpD at hk
    by_cases e1 : a.getD d false = b.getD d false
    · rw [if_pos e1] at hk
      refine ifT_neg (by rw [e1]; simp) (rg_of (by omega) (by omega) (s62l1_go (compare_l1 hn ha hb d (by omega) hk)))
    · rw [if_neg e1] at hk
      cases ea : a.getD d false <;> cases eb : b.getD d false <;> (rw [ea, eb] at e1) <;> first | (exact absurd rfl e1) | skip
      · rw [ea] at hk
        exact ifT_pos rfl ⟨⟨by omega, by omega⟩, rg_of (by decide) (by decide) ⟨⟨by omega, by omega⟩, rg_of (by decide) (by decide) (rg_of (by decide) (by decide) (retG_of hk))⟩⟩
      · rw [ea] at hk
        exact ifT_pos rfl ⟨⟨by omega, by omega⟩, rg_of (by decide) (by decide) ⟨⟨by omega, by omega⟩, rg_of (by decide) (by decide) (rg_of (by decide) (by decide) (retG_of hk))⟩⟩
theorem compare_ok {a b : List Bool} {n : Nat} (hn : n ≤ 1048576) (ha : a.length = n) (hb : b.length = n) (hk : K (.int .i64 (cmpD a b n)) h) : ACalls prog 62 [.str (bsS a), .str (bsS b)] h K := by
  refine s62_ok ?_
  unfold s62
  rw [bsS_size, ha]
  exact rg_of (by omega) (by omega) (s62l1_in (n + 1) (compare_l1 hn ha hb n (by omega) hk))
/- ---------------- the sort ---------------- -/
abbrev SetN (n : Nat) : Type := { l : List Bool // l.length = n }
instance (n : Nat) : Inhabited (SetN n) := ⟨⟨List.replicate n false, by simp⟩⟩
def cfN (n : Nat) (a b : SetN n) : Int := cmpD a.1 b.1 n
open Go.Proofs in
theorem cfN_swo (n : Nat) : Go.Sort.SWO (ltOf (cfN n)) where
  irrefl x := by
    unfold ltOf cfN
    have := cmpD_swap x.1 x.1 n
    simp
    omega
  trans x y z h1 h2 := by
    unfold ltOf cfN at *
    have h1 := of_decide_eq_true h1
    have h2 := of_decide_eq_true h2
    exact decide_eq_true ((cmpD_trans x.1 y.1 z.1 n (by omega) (by omega)).2.1 h1)
  ntrans x y z h1 h2 := by
    unfold ltOf cfN at *
    have h1 := of_decide_eq_false h1
    have h2 := of_decide_eq_false h2
    refine decide_eq_false ?_
    have e1 := cmpD_swap x.1 y.1 n
    have e2 := cmpD_swap y.1 z.1 n
    have e3 := cmpD_swap x.1 z.1 n
    have := (cmpD_trans z.1 y.1 x.1 n (by omega) (by omega)).1
    omega
theorem cfN_total (n : Nat) (x y : SetN n) (h1 : Go.Proofs.ltOf (cfN n) x y = false) (h2 : Go.Proofs.ltOf (cfN n) y x = false) : x = y := by
  unfold Go.Proofs.ltOf cfN at *
  have h1 := of_decide_eq_false h1
  have h2 := of_decide_eq_false h2
  have e := cmpD_swap x.1 y.1 n
  have hz : cmpD x.1 y.1 n = 0 := by omega
  exact Subtype.ext (ext_getD (x.2.trans y.2.symm) fun i hi => cmpD_zero hz i (by rw [x.2] at hi; exact hi))
def Rising (n : Nat) (V : List (List Bool)) : Prop := V.Pairwise fun a b => cmpD a b n < 0
theorem sortSets_ok {q : Nat} {U : List (List Bool)} (hn : n ≤ 1048576) (hU : ∀ l ∈ U, l.length = n) (hnd : U.Nodup) (hl : 0 < U.length) (hsz : U.length ≤ 1048576) (hq : h q = some (.row 1 (U.map fun x => .str (bsS x))))
    (hk : ∀ V : List (List Bool), V.Perm U → Rising n V → K (.tuple []) (h.set q (.row 1 (V.map fun x => .str (bsS x))))) : ACalls prog 61 [.sl q 1 0 U.length, .func (.func 62) [] []] h K := by
  let U' : List (SetN n) := U.pmap Subtype.mk hU
  have e1 : U'.map (·.1) = U := by simp [U', List.map_pmap]
  have e2 : U'.length = U.length := by simp [U']
  have hmap : ∀ W : List (SetN n), W.map (fun x => AVal.str (bsS x.1)) = (W.map (·.1)).map fun x => .str (bsS x) := fun W => by rw [List.map_map]; rfl
  have hq' : h q = some (.row 1 (U'.map fun x => .str (bsS x.1))) := by rw [hmap, e1]; exact hq
  have hlays := fun blk off m w => lays_of (P := prog) (enc := fun x : SetN n => bsS x.1) (cf := cfN n) (g := 62) (fun x y h K hk => compare_ok hn x.2 y.2 hk) blk off m w
  have := sortF_ok (P := prog) (ρ := layF_ren) layF (by kernel_rfl) (cfN_swo n) (cfN_total n) (g := 62) (Go.Proofs.enters_of func62 (by kernel_rfl) rfl) hlays (q := q) (l := U') (K := K) (h := h) (by omega) (by omega) hq' (by
    rw [hmap]
    have hp : (sortL (cfN n) U').Perm U' := List.mergeSort_perm _ _
    refine hk _ (by rw [← e1]; exact hp.map _) ?_
    have hO := cfN_swo n
    have hs : (sortL (cfN n) U').Pairwise fun x y => !(Go.Proofs.ltOf (cfN n)) y x := List.pairwise_mergeSort (fun a b c h1 h2 => by
      have h1 : Go.Proofs.ltOf (cfN n) b a = false := by simpa using h1
      have h2 : Go.Proofs.ltOf (cfN n) c b = false := by simpa using h2
      have := hO.ntrans c b a h2 h1
      simpa using this) (fun a b => by
      cases e : Go.Proofs.ltOf (cfN n) b a with
      | false => simp
      | true =>
        have : Go.Proofs.ltOf (cfN n) a b = false := by
          cases e3 : Go.Proofs.ltOf (cfN n) a b with
          | false => rfl
          | true =>
            have := hO.trans a b a e3 e
            rw [hO.irrefl a] at this
            cases this
        simp [this]) U'
    have hnd' : (sortL (cfN n) U').Nodup := by
      have : U'.Nodup := by
        have : (U'.map (·.1)).Nodup := by rw [e1]; exact hnd
        exact (List.pairwise_map.1 this).imp fun h e => h (by rw [e])
      exact hp.symm.nodup this
    unfold Rising
    rw [List.pairwise_map]
    refine List.Pairwise.imp₂ (fun a b h1 h2 => ?_) hs hnd'
    have h1 : Go.Proofs.ltOf (cfN n) b a = false := by simpa using h1
    cases e : Go.Proofs.ltOf (cfN n) a b with
    | true => exact of_decide_eq_true e
    | false => exact absurd (cfN_total n a b e h1) h2)
  rw [e2] at this
  exact this
end Go.Proofs.YtljglglbfcgjpaaGreat

namespace Go.Proofs.YtljglglbfcgjpaaGreat
open Go Go.Sym Go.Proofs.Tryz
variable {K : AVal → Heap → Prop} {h h0 hb : Heap} {up : List (List Int)} {val : List (List ByteArray)} {mU mV : AVal}
/- ---------------- what is above a world ---------------- -/
noncomputable def cone (up : List (List Int)) (w : Nat) : List Nat := (List.range up.length).filter (rb up w)
theorem cone_lt {w x : Nat} (h : x ∈ cone up w) : x < up.length := List.mem_range.1 (List.mem_filter.1 h).1
theorem aboveW_ok (S : Small up val) (hU : Intss mU up) (hV : Strss mV val) (W : WF up val) {w : Nat} (hw : w < up.length) (hk : ∀ v, Ints v (natI (cone up w)) → K (.tuple [v, .int .i64 0]) h) : ACalls prog 60 [.agg [mU, mV], .int .i64 (w : Int)] h K := by
  refine s60_ok ?_
  unfold s60
  refine callG_of (asked_ok (l := [(w : Int)]) S hU hV (.inl rfl) (by simp) (fun hn => absurd W hn) (fun _ hn => absurd (by intro x hx; simp at hx; omega) hn) fun _ _ f hF => ?_)
  rw [tTup_tuple, tCons_cons, tCons_cons, tInt_int, tNil_nil]
  have hsc : sc f = true := by obtain ⟨o, rfl, _⟩ := hF; rfl
  refine newRow_in fun r hr => chk_iff.2 ⟨hsc, st_elem (Heap.set_same _ _ _) rfl rfl ?_⟩
  rw [Heap.set_set]
  refine ifT_neg rfl ?_
  have hmax := W.max
  refine callG_of (all_ok (p := rb up w) hU (by omega) (fun b hb' h' K' old hk' => ?_) fun v hv => retG_drop (Heap.set_sub hr) (hk v hv))
  show callG prog 101 ([] ++ [.int .i64 (b : Int)] ++ [.ptr r 0 0, .lptr [.int .i64 (w : Int)]]) h' K'
  refine callG_of (s101_ok ?_)
  unfold s101
  have hfa : f.isAgg = false := by obtain ⟨o, rfl, _⟩ := hF; rfl
  rw [ld1_one (old r _ (Heap.set_same _ _ _)) hfa, ld1_lptr, tInt_int]
  refine leq_call hF hw hb' ?_
  rw [tBool_bool]
  exact retG_of hk'
/- ---------------- plain: up-sets ---------------- -/
structure ClosedU (up : List (List Int)) (l : List Bool) : Prop where
  len : l.length = up.length
  cl : ∀ a b, a < up.length → b < up.length → rb up a b = true → l.getD a false = true → l.getD b false = true
theorem rb_refl {a : Nat} : rb up a a = true := rb_iff.2 .refl
theorem rb_trans {a b c : Nat} (h1 : rb up a b = true) (h2 : rb up b c = true) : rb up a c = true := rb_iff.2 ((rb_iff.1 h1).trans (rb_iff.1 h2))
theorem mem_cone {w x : Nat} : x ∈ cone up w ↔ x < up.length ∧ rb up w x = true := by
  unfold cone
  rw [List.mem_filter, List.mem_range]
theorem closed_join {l : List Bool} (C : ClosedU up l) (w : Nat) : ClosedU up (joinS l (cone up w)) := by
  refine ⟨by rw [joinS_len, C.len], fun a b ha hb hab h => ?_⟩
  rw [joinS_get _ _ _ (by rw [C.len]; exact ha), Bool.or_eq_true, decide_eq_true_eq] at h
  rw [joinS_get _ _ _ (by rw [C.len]; exact hb), Bool.or_eq_true, decide_eq_true_eq]
  rcases h with h | h
  · exact .inl (C.cl a b ha hb hab h)
  · exact .inr (mem_cone.2 ⟨hb, rb_trans (mem_cone.1 h).2 hab⟩)
theorem getD_rep (n i : Nat) : (List.replicate n false).getD i false = false := by
  rw [List.getD_eq_getElem?_getD, List.getElem?_replicate]
  split <;> rfl
theorem closed_none : ClosedU up (List.replicate up.length false) := ⟨by simp, fun a b _ _ _ h => by rw [getD_rep] at h; cases h⟩
theorem all_closed {U : List (List Bool)} (h0 : List.replicate up.length false ∈ U) (hj : ∀ u ∈ U, ∀ c, c < up.length → joinS u (cone up c) ∈ U) {s : List Bool} (C : ClosedU up s) : s ∈ U := by
  have key : ∀ (ws : List Nat), (∀ w ∈ ws, w < up.length ∧ s.getD w false = true) → ∃ u ∈ U, u.length = up.length ∧ (∀ i, i < up.length → u.getD i false = true → s.getD i false = true) ∧ ∀ w ∈ ws, u.getD w false = true := by
    intro ws
    induction ws with
    | nil => exact fun _ => ⟨_, h0, by simp, fun i _ h => (by rw [getD_rep] at h; cases h), fun w hw => by cases hw⟩
    | cons w ws ih =>
      intro hw
      obtain ⟨u, hu, hl, h1, h2⟩ := ih fun x hx => hw x (List.mem_cons_of_mem _ hx)
      obtain ⟨hwl, hws⟩ := hw w List.mem_cons_self
      refine ⟨_, hj u hu w hwl, by rw [joinS_len, hl], fun i hi h => ?_, fun x hx => ?_⟩
      · rw [joinS_get _ _ _ (by rw [hl]; exact hi), Bool.or_eq_true, decide_eq_true_eq] at h
        rcases h with h | h
        · exact h1 i hi h
        · exact C.cl w i hwl hi (mem_cone.1 h).2 hws
      · have hxl : x < up.length := (hw x hx).1
        rw [joinS_get _ _ _ (by rw [hl]; exact hxl), Bool.or_eq_true, decide_eq_true_eq]
        rcases List.mem_cons.1 hx with rfl | hx
        · exact .inr (mem_cone.2 ⟨hxl, rb_refl⟩)
        · exact .inl (h2 x hx)
  obtain ⟨u, hu, hl, h1, h2⟩ := key ((List.range up.length).filter fun w => s.getD w false) fun w hw => by
    rw [List.mem_filter, List.mem_range] at hw
    exact hw
  have : s = u := ext_getD (by rw [C.len, hl]) fun i hi => by
    have hi' : i < up.length := by rw [← C.len]; exact hi
    rw [Bool.eq_iff_iff]
    exact ⟨fun h => h2 i (List.mem_filter.2 ⟨List.mem_range.2 hi', h⟩), h1 i hi'⟩
  rw [this]
  exact hu
structure IsUps (up : List (List Int)) (V : List (List Bool)) : Prop where
  rise : Rising up.length V
  mem : ∀ s, s ∈ V ↔ ClosedU up s
def Many (up : List (List Int)) : Prop := ∃ V : List (List Bool), V.Nodup ∧ V.length = 65 ∧ ∀ s ∈ V, ClosedU up s
/- ---------------- a map whose keys are sets ---------------- -/
def mapQ (U : List (List Bool)) : List (AVal × AVal) := U.map fun l => (.str (bsS l), .int .i64 1)
theorem findQ_in {l : List Bool} : ∀ (U : List (List Bool)) (i : Nat), l ∈ U → ∃ j, findM (.str (bsS l)) (mapQ U) i = some (some (j, .int .i64 1))
  | [], _, h => by simp at h
  | x :: U, i, h => by
    show ∃ j, findM (.str (bsS l)) ((.str (bsS x), .int .i64 1) :: mapQ U) i = _
    unfold findM keyEq
    simp only [strEq_dec]
    by_cases e : l = x
    · subst e
      exact ⟨i, by simp⟩
    · rw [show decide (bsS l = bsS x) = false from decide_eq_false fun h' => e (bsS_inj h')]
      exact findQ_in U (i + 1) (by simpa [e] using h)
theorem findQ_out {l : List Bool} : ∀ (U : List (List Bool)) (i : Nat), l ∉ U → findM (.str (bsS l)) (mapQ U) i = some none
  | [], _, _ => rfl
  | x :: U, i, h => by
    show findM (.str (bsS l)) ((.str (bsS x), .int .i64 1) :: mapQ U) i = _
    unfold findM keyEq
    simp only [strEq_dec]
    have h1 : l ≠ x ∧ l ∉ U := by simpa using h
    rw [show decide (bsS l = bsS x) = false from decide_eq_false fun h' => h1.1 (bsS_inj h')]
    exact findQ_out U (i + 1) h1.2
theorem mapQ_in {h : Heap} {rm : Nat} {U : List (List Bool)} (hm : h rm = some (.map (mapQ U))) {l : List Bool} (hl : l ∈ U) {X : AVal → Bool → Prop} (hk : X (.int .i64 1) true) : mapGet (.int .i64 0) h (.mapr rm) (.str (bsS l)) X := by
  obtain ⟨j, e⟩ := findQ_in U 0 hl
  unfold mapGet mapGetR entsA
  simp only [hm, e]
  exact hk
theorem mapQ_out {h : Heap} {rm : Nat} {U : List (List Bool)} (hm : h rm = some (.map (mapQ U))) {l : List Bool} (hl : l ∉ U) {X : AVal → Bool → Prop} (hk : X (.int .i64 0) false) : mapGet (.int .i64 0) h (.mapr rm) (.str (bsS l)) X := by
  unfold mapGet mapGetR entsA
  simp only [hm, findQ_out U 0 hl]
  exact hk
theorem mapQ_put {h : Heap} {rm : Nat} {U : List (List Bool)} (hm : h rm = some (.map (mapQ U))) {l : List Bool} (hl : l ∉ U) {X : Heap → Prop} (hk : X (h.set rm (.map (mapQ (U ++ [l]))))) : mapPut h (.mapr rm) (.str (bsS l)) (.int .i64 1) X := by
  unfold mapPut mapPutR putM
  simp only [hm, findQ_out U 0 hl]
  simpa [mapQ] using hk
/- ---------------- the search ---------------- -/
abbrev strsQ (U : List (List Bool)) : List AVal := U.map fun x => .str (bsS x)
abbrev UM (h0 : Heap) (l_ : AVal) (rm : Nat) (U : List (List Bool)) (h : Heap) : Prop := Own h0 [.slc 1 l_ (strsQ U), .cell rm (.map (mapQ U))] h
structure UInv (up : List (List Int)) (U : List (List Bool)) (i : Nat) : Prop where
  nd : U.Nodup
  few : U.length ≤ 64
  cl : ∀ s ∈ U, ClosedU up s
  zero : List.replicate up.length false ∈ U
  done : ∀ k (hk : k < U.length), k < i → ∀ c, c < up.length → joinS U[k] (cone up c) ∈ U
section
variable (hn : up.length ≤ 512) {cv : AVal} (hC : Intss cv ((List.range up.length).map fun w => natI (cone up w)))
include hn hC
theorem ups_l3 (many : Many up → K (.tuple [.nilsl, .int .i64 231]) h0) {rm i : Nat} {u : List Bool} {L2 : s27l2_T}
    (next : ∀ U l_ h, UInv up U i → U[i]? = some u → (∀ c, c < up.length → joinS u (cone up c) ∈ U) → UM h0 l_ rm U h → L2 cv l_ (.mapr rm) ((i : Int) + 1) h) :
    ∀ d j : Nat, j + d = up.length → ∀ U l_ h, UInv up U i → U[i]? = some u → (∀ c, c < j → joinS u (cone up c) ∈ U) → UM h0 l_ rm U h → s27l3 K L2 (d + 1) cv l_ (.mapr rm) (i : Int) cv up.length (j : Int) h
  | 0, j, hd, U, l_, h, I, hu, hj, W => by
    have hi : i < U.length := (List.getElem?_eq_some_iff.1 hu).1
    have := I.few
    unfold s27l3
    exact ifT_neg (by simp; omega) (rg_of (by omega) (by omega) (next U l_ h I hu (fun c hc => hj c (by omega)) W))
  | d + 1, j, hd, U, l_, h, I, hu, hj, W => by
    have hjn : j < up.length := by omega
    have hi : i < U.length := (List.getElem?_eq_some_iff.1 hu).1
    have hfew := I.few
    have hum : u ∈ U := List.mem_of_getElem? hu
    have hul := (I.cl u hum).len
    obtain ⟨e, he, hix⟩ := hC.ix (i := j) (by simpa using hjn)
    simp only [List.getElem_map, List.getElem_range] at he
    unfold s27l3
    refine ifT_pos (by simp; omega) ?_
    rw [hix, ld1_lptr]
    have hfit := W.fit 0 _ rfl
    have hne : strsQ U ≠ [] := fun e => by
      have := congrArg List.length e
      simp at this
      rw [this] at hi; simp at hi
    obtain ⟨rl, rfl⟩ : ∃ rl, l_ = .sl rl 1 0 (strsQ U).length := by
      rcases hfit with ⟨_, e⟩ | h
      · exact absurd e hne
      · exact h
    have hlen : (strsQ U).length = U.length := by simp
    rw [hlen]
    have W : UM h0 (.sl rl 1 0 U.length) rm U h := by rw [← hlen]; exact W
    have hr := W.get 0 _ rl rfl rfl
    refine ixS_sl0 hi ?_
    rw [ld1_ptr hr (e := .str (bsS u)) (by simp [hu]) rfl, tStr_str]
    refine callG_of (joined_ok (l := u) (ws := cone up j) he (fun w hw => by rw [hul]; exact cone_lt hw) (by omega) (by
      have := List.length_filter_le (rb up j) (List.range up.length)
      unfold cone
      simp at this ⊢
      omega) ?_)
    rw [tStr_str]
    have hc4 : ∀ U' l_' h', UInv up U' i → U'[i]? = some u → (∀ c, c < j + 1 → joinS u (cone up c) ∈ U') → UM h0 l_' rm U' h' → s27c4 K L2 (s27l3_G (s27l3 K L2 (d + 1))) cv l_' (.mapr rm) (i : Int) cv up.length (j : Int) h' := fun U' l_' h' I' hu' hj' W' => by
      unfold s27c4
      exact rg_of (by omega) (by omega) (s27l3_go (ups_l3 many next d (j + 1) (by omega) U' l_' h' I' hu' hj' W'))
    by_cases hin : joinS u (cone up j) ∈ U
    · refine mapQ_in (W.get 1 _ rm rfl rfl) hin ?_
      rw [tInt_int]
      refine ifT_pos rfl (hc4 U _ h I hu (fun c hc => ?_) W)
      by_cases e : c = j
      · rw [e]; exact hin
      · exact hj c (by omega)
    · refine mapQ_out (W.get 1 _ rm rfl rfl) hin ?_
      rw [tInt_int]
      refine ifT_neg rfl ?_
      rw [lenN_sl]
      have ndx : (U ++ [joinS u (cone up j)]).Nodup := by
        rw [List.nodup_append]
        refine ⟨I.nd, by simp, fun a ha b hb => ?_⟩
        rw [List.mem_singleton.1 hb]
        exact fun e => hin (e ▸ ha)
      have clx : ∀ s ∈ U ++ [joinS u (cone up j)], ClosedU up s := fun s hs => by
        rcases List.mem_append.1 hs with hs | hs
        · exact I.cl s hs
        · rw [List.mem_singleton.1 hs]; exact closed_join (I.cl u hum) j
      by_cases h64 : U.length = 64
      · exact ifT_pos (by simp [h64]) (retG_drop W.old (many ⟨_, ndx, by simp [h64], clx⟩))
      · refine ifT_neg (by simp; omega) (mapQ_put (W.get 1 _ rm rfl rfl) hin ?_)
        have W2 := W.put (i := 1) rfl (.map (mapQ (U ++ [joinS u (cone up j)])))
        refine W2.app (i := 0) rfl (by rw [hlen]; omega) (by rw [hlen]; omega) fun v2 h2 W3 => ?_
        have e : strsQ U ++ [.str (bsS (joinS u (cone up j)))] = strsQ (U ++ [joinS u (cone up j)]) := by simp
        have W4 : UM h0 v2 rm (U ++ [joinS u (cone up j)]) h2 := by unfold UM; rw [← e]; exact W3
        refine hc4 _ v2 h2 ⟨ndx, by simp; omega, clx, List.mem_append_left _ I.zero, fun k hk hki c hc => ?_⟩ (by rw [List.getElem?_append_left hi]; exact hu) (fun c hc => ?_) W4
        · have hk' : k < U.length := by omega
          rw [List.getElem_append_left hk']
          exact List.mem_append_left _ (I.done k hk' hki c hc)
        · by_cases e : c = j
          · rw [e]; exact List.mem_append_right _ (List.mem_singleton.2 rfl)
          · exact List.mem_append_left _ (hj c (by omega))
theorem ups_l2 (many : Many up → K (.tuple [.nilsl, .int .i64 231]) h0) (yes : ∀ V v, IsUps up V → V.length ≤ 64 → SlOf 1 v (strsQ V) → K (.tuple [v, .int .i64 0]) h0) {rm : Nat} :
    ∀ d i : Nat, i + d = 64 → ∀ U l_ h, i ≤ U.length → UInv up U i → UM h0 l_ rm U h → s27l2 K (d + 1) cv l_ (.mapr rm) (i : Int) h := by
  have fin : ∀ (d i : Nat) U l_ h, i = U.length → UInv up U i → UM h0 l_ rm U h → s27l2 K (d + 1) cv l_ (.mapr rm) (i : Int) h := by
    intro d i U l_ h hi I W
    subst hi
    have hpos : 0 < U.length := List.length_pos_of_mem I.zero
    have hfew := I.few
    unfold s27l2
    rw [W.len (i := 0) rfl, show ((strsQ U).length : Int) = (U.length : Int) by simp]
    refine ifT_neg (by simp) ?_
    have hlen : (strsQ U).length = U.length := by simp
    obtain ⟨rl, rfl⟩ : ∃ rl, l_ = .sl rl 1 0 (strsQ U).length := by
      rcases W.fit 0 _ rfl with ⟨_, e⟩ | h
      · have := congrArg List.length e
        simp at this
        rw [this] at hpos; simp at hpos
      · exact h
    have hcl : ∀ s, ClosedU up s → s ∈ U := fun s hs => all_closed I.zero (fun u hu c hc => by
      obtain ⟨k, hk, rfl⟩ := List.mem_iff_getElem.1 hu
      exact I.done k hk hk c hc) hs
    have hr := W.get 0 _ rl rfl rfl
    rw [hlen]
    refine callG_of (sortSets_ok (n := up.length) (by omega) (fun l hl => (I.cl l hl).len) I.nd hpos (by omega) hr fun V hp hR => ?_)
    have hVl : V.length = U.length := hp.length_eq
    have W2 := W.putS (i := 0) (r := rl) (es := 1) (l := strsQ U) rfl (l' := strsQ V) (by simp [hVl])
    obtain ⟨v', l1, s1⟩ := W2.lit (i := 0) rfl (S := nameOf (.sl rl 1 0 (strsQ U).length)) (fun k hk => hk) (Lits.refl _)
    rw [hlen] at l1
    refine ⟨_, .tuple [v', .int .i64 0], h0, .tuple (.cons l1 (.cons (.refl _) .nil)), base_step W2 _ (fun k hk => W2.new 0 _ k rfl hk), yes V v' ⟨hR, fun s => ?_⟩ (by omega) s1⟩
    rw [hp.mem_iff]
    exact ⟨I.cl s, hcl s⟩
  intro d
  induction d with
  | zero =>
    intro i hd U l_ h hi I W
    have := I.few
    exact fin 0 i U l_ h (by omega) I W
  | succ d ih =>
    intro i hd U l_ h hi I W
    by_cases hlt : i < U.length
    · have hfew := I.few
      unfold s27l2
      rw [W.len (i := 0) rfl, show ((strsQ U).length : Int) = (U.length : Int) by simp]
      refine ifT_pos (by simp; omega) ?_
      rw [hC.len, show (((List.range up.length).map fun w => natI (cone up w)).length : Int) = (up.length : Int) by simp]
      refine s27l3_in (up.length + 1) (ups_l3 hn hC (u := U[i]) many (fun U' l_' h' I' hu' hj' W' => ?_) up.length 0 (by omega) U l_ h I (List.getElem?_eq_getElem hlt) (fun c hc => by omega) W)
      obtain ⟨hi', eu⟩ := List.getElem?_eq_some_iff.1 hu'
      refine s27l2_go (ih (i + 1) (by omega) U' l_' h' (by omega) ⟨I'.nd, I'.few, I'.cl, I'.zero, fun k hk hki c hc => ?_⟩ W')
      by_cases e : k = i
      · subst e; rw [eu]; exact hj' c hc
      · exact I'.done k hk (by omega) c hc
    · exact fin (d + 1) i U l_ h (by omega) I W
end
section
variable (S : Small up val) (hU : Intss mU up) (hV : Strss mV val) (W : WF up val) (many : Many up → K (.tuple [.nilsl, .int .i64 231]) h0) (yes : ∀ V v, IsUps up V → V.length ≤ 64 → SlOf 1 v (strsQ V) → K (.tuple [v, .int .i64 0]) h0)
include S hU hV W many yes
theorem ups_l1 : ∀ d i : Nat, i + d = up.length → ∀ cones LC h, All2 Ints LC ((List.range i).map fun w => natI (cone up w)) → Own h0 [.slc 1 cones LC] h → s27l1 K (d + 1) (.lptr [mU, mV]) cones up.length (i : Int) h
  | 0, i, hd, cones, LC, h, aC, O => by
    obtain rfl : i = up.length := by omega
    have hmax := W.max
    unfold s27l1
    refine ifT_neg (by simp) ?_
    simp only [addOff_lptr, List.drop_zero, ld1_lptr]
    rw [hU.len]
    refine mkS_own (by omega) (by omega) fun r1 hr1 => ?_
    have O1 := O.newC hr1 (.row 1 (bV (List.replicate up.length false)))
    have e0 : List.replicate up.length (AVal.int .u8 0) = bV (List.replicate up.length false) := by simp [bV]
    rw [e0]
    have el : up.length = (List.replicate up.length false).length := by simp
    have hb := bStr_row (l := List.replicate up.length false) (O1.get 1 _ r1 rfl rfl)
    rw [← el] at hb
    rw [hb]
    refine newRow_in fun r2 hr2 => ?_
    have O2 := O1.newS hr2 (es := 1) [.str (bsS (List.replicate up.length false))]
    intro r3 hr3 _
    have O3 := O2.newC hr3 (.map [])
    refine ixS_sl0 (i := 0) (by decide) ?_
    rw [ld1_ptr (O3.get 2 _ r2 rfl rfl) rfl rfl, tStr_str]
    refine mapQ_put (U := []) (O3.get 3 _ r3 rfl rfl) (by simp) ?_
    have O4' := O3.put (i := 3) rfl (.map (mapQ ([] ++ [List.replicate up.length false])))
    generalize Heap.set _ r3 (AObj.map (mapQ ([] ++ [List.replicate up.length false]))) = hh at O4' ⊢
    have O4 : Own h0 [.slc 1 cones LC, .cell r1 (.row 1 (bV (List.replicate up.length false))), .slc 1 (.sl r2 1 0 1) (strsQ [List.replicate up.length false]), .cell r3 (.map (mapQ [List.replicate up.length false]))] hh := O4'
    have O6 := O4.renum [.slc 1 (.sl r2 1 0 1) (strsQ [List.replicate up.length false]), .cell r3 (.map (mapQ [List.replicate up.length false])), .slc 1 cones LC] (fun j => if j = 0 then 2 else if j = 1 then 3 else 0) (fun j y hj => by
      match j, hj with
      | 0, hj => exact hj
      | 1, hj => exact hj
      | 2, hj => exact hj
      | j + 3, hj => simp at hj) (show ∀ j, j < 3 → ∀ k, k < 3 → _ = _ → j = k by decide)
    obtain ⟨cv, l1, s1⟩ := O6.lit (i := 2) rfl (S := nameOf cones) (fun k hk => hk) (Lits.refl LC)
    obtain ⟨h', g, O5⟩ := O6.step (nameOf cones) [.slc 1 (.sl r2 1 0 1) (strsQ [List.replicate up.length false]), .cell r3 (.map (mapQ [List.replicate up.length false]))] (fun k hk => O6.new 2 _ k rfl hk) (fun j y' hj => by
      match j, hj with
      | 0, hj =>
        cases hj
        exact ⟨_, rfl, O6.fit 0 _ rfl, fun q hq => ⟨hq, fun hs => by have := O6.one 0 2 _ _ q rfl rfl hq hs; omega⟩, .refl _⟩
      | 1, hj =>
        cases hj
        exact ⟨_, rfl, O6.fit 1 _ rfl, fun q hq => ⟨hq, fun hs => by have := O6.one 1 2 _ _ q rfl rfl hq hs; omega⟩, .refl _⟩
      | j + 2, hj => simp at hj)
    have hC : Intss cv ((List.range up.length).map fun w => natI (cone up w)) := ⟨LC, s1, aC⟩
    refine ⟨_, [cv, .sl r2 1 0 1, .mapr r3, .int .i64 0], h', .cons l1 (.cons (.refl _) (.cons (.refl _) (.cons (.refl _) .nil))), g, rfl, 65, ?_⟩
    refine ups_l2 (by omega) hC many yes 64 0 (by omega) [List.replicate up.length false] _ h' (by simp) ⟨by simp, by simp, fun s hs => ?_, by simp, fun k hk hk0 => by omega⟩ O5
    rw [List.mem_singleton.1 hs]
    exact closed_none
  | d + 1, i, hd, cones, LC, h, aC, O => by
    have hi : i < up.length := by omega
    have hmax := W.max
    have hLC : LC.length = i := by have := aC.length; simpa using this
    unfold s27l1
    refine ifT_pos (by simp; omega) ?_
    rw [ldN_agg2, tCons_cons, tCons_cons, tNil_nil]
    refine callG_of (aboveW_ok S hU hV W hi fun v hv => ?_)
    rw [tTup_tuple, tCons_cons, tCons_cons, tInt_int, tNil_nil]
    refine chk_iff.2 ⟨hv.notAgg.2, O.app (i := 0) rfl (by omega) (by omega) fun v2 h2 O2 => rg_of (by omega) (by omega) (s27l1_go (ups_l1 d (i + 1) (by omega) v2 _ h2 ?_ O2))⟩
    rw [List.range_succ, List.map_append]
    exact aC.append (.cons hv .nil)
end
theorem upsets_ok (S : Small up val) (hU : Intss mU up) (hV : Strss mV val) (bad : ¬ WF up val → K (.tuple [.nilsl, .int .i64 170]) h) (many : WF up val → Many up → K (.tuple [.nilsl, .int .i64 231]) h)
    (yes : WF up val → ∀ V v, IsUps up V → V.length ≤ 64 → SlOf 1 v (strsQ V) → K (.tuple [v, .int .i64 0]) h) : ACalls prog 27 [.agg [mU, mV]] h K := by
  refine s27_ok ?_
  unfold s27
  refine callG_of (check_ok S hU hV (fun hW => ?_) fun hW => ?_)
  · rw [tInt_int]
    exact ifT_pos rfl (retG_of (bad hW))
  · rw [tInt_int]
    refine ifT_neg rfl ?_
    rw [hU.len]
    exact s27l1_in (up.length + 1) (ups_l1 S hU hV hW (many hW) (yes hW) up.length 0 (by omega) .nilsl [] h .nil ((Own.start h).newN 1))
end Go.Proofs.YtljglglbfcgjpaaGreat

namespace Go.Proofs.YtljglglbfcgjpaaGreat
open Go Go.Sym Go.Proofs.Tryz
variable {K : AVal → Heap → Prop} {h h0 hb : Heap} {n : Nat} {r : Nat → Nat → Bool} {f : AVal}
theorem nilCk_lptr (l : List AVal) (X : AVal → Prop) : nilCheckA (.lptr l) X = X (.lptr l) := rfl
theorem eqQ_boolR {p q : Bool} {X : Bool → Prop} (hx : X (p == q)) : eqQ prog 4 (.bool p) (.bool q) X := by
  have e : eqT prog 8 4 (.bool p) (.bool q) = some (p == q) := by cases p <;> cases q <;> kernel_rfl
  refine ⟨trivial, ?_⟩
  rw [e]
  exact hx
theorem ldN1_lptr (h : Heap) (a : AVal) (K : List AVal → Prop) : ldN 1 h (.lptr [a]) K = K [a] := rfl
theorem sameA_l2 {a b : AVal} {L : List (List Bool)} (A : AlgV a L) (B : AlgV b L) {x : Nat} (hx : x < L.length) {L1 : s8l1_T} (hL : L1 (.lptr [a]) (.lptr [b]) ((x : Int) + 1) h) :
    ∀ d y : Nat, y + d = L[x].length → s8l2 K L1 (d + 1) (.lptr [a]) (.lptr [b]) (x : Int) (y : Int) h
  | 0, y, hd => by
    obtain ⟨e, he, hix⟩ := A.v.ix hx
    have hl := A.len
    unfold s8l2
    simp only [addOff_lptr, List.drop_zero, ld1_lptr]
    rw [hix, ld1_lptr, he.len]
    exact ifT_neg (by simp; omega) (rg_of (by omega) (by omega) hL)
  | d + 1, y, hd => by
    obtain ⟨e, he, hix⟩ := A.v.ix hx
    obtain ⟨e', he', hix'⟩ := B.v.ix hx
    have hy : y < L[x].length := by omega
    have hr := A.row _ (List.getElem_mem hx)
    unfold s8l2
    simp only [addOff_lptr, List.drop_zero, ld1_lptr]
    rw [hix, ld1_lptr, he.len]
    refine ifT_pos (by simp; omega) ?_
    rw [hix, ld1_lptr, he.ix hy, ld1_lptr, tBool_bool, hix', ld1_lptr, he'.ix hy, ld1_lptr, tBool_bool]
    refine eqQ_boolR ?_
    refine ifT_neg (by simp) (rg_of (by omega) (by omega) (s8l2_go (sameA_l2 A B hx hL d (y + 1) (by omega))))
theorem sameA_l1 {a b : AVal} {L : List (List Bool)} (A : AlgV a L) (B : AlgV b L) (hk : K (.bool true) h) : ∀ d x : Nat, x + d = L.length → s8l1 K (d + 1) (.lptr [a]) (.lptr [b]) (x : Int) h
  | 0, x, hd => by
    unfold s8l1
    simp only [addOff_lptr, List.drop_zero, ld1_lptr]
    rw [A.v.len]
    exact ifT_neg (by simp; omega) (retG_of hk)
  | d + 1, x, hd => by
    have hx : x < L.length := by omega
    obtain ⟨e, he, hix⟩ := A.v.ix hx
    obtain ⟨e', he', hix'⟩ := B.v.ix hx
    unfold s8l1
    simp only [addOff_lptr, List.drop_zero, ld1_lptr]
    rw [A.v.len]
    refine ifT_pos (by simp; omega) ?_
    rw [hix, ld1_lptr, he.len, hix', ld1_lptr, he'.len]
    exact ifT_neg (by simp) (s8l2_in (L[x].length + 1) (sameA_l2 A B hx (s8l1_go (sameA_l1 A B hk d (x + 1) (by omega))) L[x].length 0 (by omega)))
theorem sameA_ok {a b : AVal} {L : List (List Bool)} (A : AlgV a L) (B : AlgV b L) (hk : K (.bool true) h) : ACalls prog 8 [.agg [a], .agg [b]] h K := by
  refine s8_ok ?_
  unfold s8
  rw [A.v.len, B.v.len]
  exact ifT_neg (by simp) (s8l1_in (L.length + 1) (sameA_l1 A B hk L.length 0 (by omega)))
end Go.Proofs.YtljglglbfcgjpaaGreat

namespace Go.Proofs.YtljglglbfcgjpaaGreat
open Go Go.Sym Go.Proofs.Tryz
variable {K : AVal → Heap → Prop} {h h0 hb : Heap} {up : List (List Int)} {val : List (List ByteArray)} {mU mV : AVal}
theorem Own.frzL {os : List Ow} {es : Nat} {v : AVal} {l : List AVal} (W : Own hb (os ++ [.slc es v l]) h) : ∃ S h' v', Go.Sym.Lit h S v v' ∧ SlOf es v' l ∧ Go.Sym.GStep h h' S ∧ Own hb os h' := by
  have hl : (os ++ [Ow.slc es v l])[os.length]? = some (.slc es v l) := by simp
  obtain ⟨v', hv, hs⟩ := W.lit hl (S := nameOf v) (fun _ h => h) (Lits.refl l)
  obtain ⟨h', g, W'⟩ := W.step (nameOf v) os (fun n hn => W.new _ _ n hl hn) (fun j y hj => by
    have hj2 := (List.getElem?_eq_some_iff.1 hj).1
    have hj' : (os ++ [Ow.slc es v l])[j]? = some y := by rw [List.getElem?_append_left hj2]; exact hj
    exact ⟨y, hj', W.fit _ _ hj', fun n hn => ⟨hn, fun hm => by
      have := W.one j os.length y _ n hj' hl hn hm
      omega⟩, .refl _⟩)
  exact ⟨_, h', v', hv, hs, g, W'⟩
def idxL (l : List Bool) : List Nat := (List.range l.length).filter fun w => l.getD w false
def subB (x y : List Bool) : Bool := decide (joinS y (idxL x) = y)
def leqT (V : List (List Bool)) : List (List Bool) := V.map fun x => V.map fun y => subB x y
theorem mem_idx {l : List Bool} {w : Nat} : w ∈ idxL l ↔ w < l.length ∧ l.getD w false = true := by
  unfold idxL
  rw [List.mem_filter, List.mem_range]
theorem subB_iff {n : Nat} {x y : List Bool} (hx : x.length = n) (hy : y.length = n) : subB x y = true ↔ ∀ w, w < n → x.getD w false = true → y.getD w false = true := by
  unfold subB
  rw [decide_eq_true_eq]
  constructor
  · intro h w hw h1
    rw [← h, joinS_get _ _ _ (by omega), Bool.or_eq_true, decide_eq_true_eq]
    exact .inr (mem_idx.2 ⟨by omega, h1⟩)
  · intro h
    refine ext_getD (joinS_len _ _) fun i hi => ?_
    rw [joinS_len] at hi
    rw [joinS_get _ _ _ hi]
    cases e : y.getD i false with
    | true => rfl
    | false =>
      rw [Bool.false_or, decide_eq_false_iff_not, mem_idx]
      rintro ⟨h1, h2⟩
      rw [h i (by omega) h2] at e
      cases e
theorem idxL_inj {n : Nat} {a b : List Bool} (ha : a.length = n) (hb : b.length = n) (h : idxL a = idxL b) : a = b := by
  refine ext_getD (by omega) fun i hi => ?_
  have h1 : i ∈ idxL a ↔ i ∈ idxL b := by rw [h]
  rw [mem_idx, mem_idx] at h1
  rw [Bool.eq_iff_iff]
  exact ⟨fun e => (h1.1 ⟨hi, e⟩).2, fun e => (h1.2 ⟨by omega, e⟩).2⟩
section
variable {n : Nat} (hn : n ≤ 512) {V : List (List Bool)} (hV : ∀ l ∈ V, l.length = n) (hl : V.length ≤ 64) {v : AVal} (hv : SlOf 1 v (strsQ V))
include hn hV hl hv
theorem upsP_l4 {rt ra : Nat} {X va sets in_ : AVal} {LA LS : List AVal} (hLA : LA.length ≤ 64) (hLS : LS.length ≤ 64) {x : List Bool} (hx : x ∈ V) {L1 : s6l1_T} {k : Nat} (hk : k ≤ 64) (hin : Ints in_ (natI (idxL x)))
    (next : ∀ va' sets' row h', Bools row (V.map (subB x)) → Own h0 [.cell rt (.row 1 [.agg [X]]), .cell ra (.row 1 [.agg [va']]), .slc 1 va' (LA ++ [row]), .slc 1 sets' (LS ++ [in_])] h' → L1 (.ptr rt 0 0) v (.ptr ra 0 0) sets' v V.length ((k : Int) + 1) h') :
    ∀ d j : Nat, j + d = V.length → ∀ row h, Own h0 [.cell rt (.row 1 [.agg [X]]), .cell ra (.row 1 [.agg [va]]), .slc 1 va LA, .slc 1 sets LS, .slc 1 row (((V.take j).map (subB x)).map .bool)] h →
      s6l4 K (s6l1_G L1) (d + 1) (.ptr rt 0 0) v (.ptr ra 0 0) sets in_ row v V.length (k : Int) v V.length (j : Int) h
  | 0, j, hd, row, h, W => by
    unfold s6l4
    refine ifT_neg (by simp; omega) (chk_iff.2 ⟨hin.notAgg.2, W.app (i := 3) rfl (by omega) (by omega) fun v2 h2 W2 => ?_⟩)
    rw [addOff_ptr, ld1_fld (W2.get 1 _ ra rfl rfl) rfl]
    refine chk_iff.2 ⟨(W2.sc (i := 4) rfl).1, W2.app (i := 2) rfl (by omega) (by omega) fun v3 h3 W3 => ?_⟩
    rw [addOff_ptr]
    refine chk_iff.2 ⟨(W3.sc (i := 2) rfl).1, st_fld (W3.get 1 _ ra rfl rfl) (by simp) (rg_of (by omega) (by omega) ?_)⟩
    have W4 : Own h0 ([.cell rt (.row 1 [.agg [X]]), .cell ra (.row 1 [.agg [v3]]), .slc 1 v3 (LA ++ [row]), .slc 1 v2 (LS ++ [in_])] ++ [.slc 1 row (((V.take j).map (subB x)).map .bool)]) _ := W3.put (i := 1) rfl (.row 1 [.agg [v3]])
    obtain ⟨S, h', row', s1, g, W5⟩ := W4.settleL (i := 2) rfl
    rw [List.take_of_length_le (by omega)] at s1
    exact ⟨S, _, h', Lits.refl _, g, rfl, next v3 v2 row' h' s1 W5⟩
  | d + 1, j, hd, row, h, W => by
    have hj : j < V.length := by omega
    have hyl := hV _ (List.getElem_mem hj)
    have hxl := hV _ hx
    unfold s6l4
    refine ifT_pos (by simp; omega) ?_
    rw [ixS_nat hv (e := .str (bsS V[j])) (by simp [hj]), show cellsOf (.str (bsS V[j])) = [.str (bsS V[j])] from rfl, ld1_lptr, tStr_str]
    refine callG_of (joined_ok (l := V[j]) (ws := idxL x) hin (fun w hw => by have := (mem_idx.1 hw).1; omega) (by omega) (by
      have := List.length_filter_le (fun w => x.getD w false) (List.range x.length)
      unfold idxL
      simp only [List.length_range] at this
      omega) ?_)
    rw [tStr_str]
    have e : strEq (bsS (joinS V[j] (idxL x))) (bsS V[j]) = subB x V[j] := by
      rw [strEq_dec]
      unfold subB
      rw [Bool.eq_iff_iff, decide_eq_true_eq, decide_eq_true_eq]
      exact ⟨bsS_inj, fun h => by rw [h]⟩
    rw [e]
    refine W.app (i := 4) rfl (by simp; omega) (by simp; omega) fun v2 h2 W2 => rg_of (by omega) (by omega) (s6l4_go (upsP_l4 (va := va) hLA hLS hx hk hin next d (j + 1) (by omega) v2 h2 ?_))
    rw [List.take_succ_eq_append_getElem hj, List.map_append, List.map_append]
    exact W2
theorem upsP_l2 {rt ra : Nat} {X va sets : AVal} {LA LS : List AVal} (hLA : LA.length ≤ 64) (hLS : LS.length ≤ 64) {x : List Bool} (hx : x ∈ V) {L1 : s6l1_T} {k : Nat} (hk : k ≤ 64)
    (next : ∀ va' sets' row in_ h', Bools row (V.map (subB x)) → Ints in_ (natI (idxL x)) → Own h0 [.cell rt (.row 1 [.agg [X]]), .cell ra (.row 1 [.agg [va']]), .slc 1 va' (LA ++ [row]), .slc 1 sets' (LS ++ [in_])] h' → L1 (.ptr rt 0 0) v (.ptr ra 0 0) sets' v V.length ((k : Int) + 1) h') :
    ∀ d w : Nat, w + d = n → ∀ in_ h, Own h0 [.cell rt (.row 1 [.agg [X]]), .cell ra (.row 1 [.agg [va]]), .slc 1 va LA, .slc 1 sets LS, .slc 1 in_ ((natI ((List.range w).filter fun w => x.getD w false)).map (.int .i64))] h →
      s6l2 K (s6l1_G L1) (d + 1) (.ptr rt 0 0) v (.ptr ra 0 0) sets (bsS x) in_ v V.length (k : Int) (n : Int) (w : Int) h
  | 0, w, hd, in_, h, W => by
    obtain rfl : w = n := by omega
    have hxl := hV _ hx
    unfold s6l2
    refine ifT_neg (by simp) ?_
    rw [lenN_of hv, show ((strsQ V).length : Int) = (V.length : Int) by simp]
    have W' : Own h0 ([.cell rt (.row 1 [.agg [X]]), .cell ra (.row 1 [.agg [va]]), .slc 1 va LA, .slc 1 sets LS] ++ [.slc 1 in_ ((natI ((List.range w).filter fun w => x.getD w false)).map (.int .i64))]) h := W
    obtain ⟨S, h', in', l1, s1, g, W2⟩ := Own.frzL W'
    have hin : Ints in' (natI (idxL x)) := by unfold idxL; rw [hxl]; exact s1
    refine ⟨S, [.ptr rt 0 0, v, .ptr ra 0 0, sets, in', .nilsl, v, .int .i64 V.length, .int .i64 k, v, .int .i64 V.length, .int .i64 0], h', .cons (.refl _) (.cons (.refl _) (.cons (.refl _) (.cons (.refl _) (.cons l1 (Lits.refl _))))), g, ?_, V.length + 1, ?_⟩
    · rfl
    · exact upsP_l4 (va := va) hn hV hl hv hLA hLS hx hk hin (fun va' sets' row h'' hb W3 => next va' sets' row in' h'' hb hin W3) V.length 0 (by omega) .nilsl h' (W2.newN 1)
  | d + 1, w, hd, in_, h, W => by
    have hw : w < n := by omega
    have hxl := hV _ hx
    have hle := List.length_filter_le (fun w => x.getD w false) (List.range w)
    simp only [List.length_range] at hle
    have hs := range_filter_succ (fun w => x.getD w false) w
    have hlen : ((natI ((List.range w).filter fun w => x.getD w false)).map (AVal.int .i64)).length ≤ w := by
      rw [List.length_map]
      unfold natI
      rw [List.length_map]
      exact hle
    unfold s6l2
    refine ifT_pos (by simp; omega) ⟨by rw [bsS_size, hxl]; omega, ?_⟩
    rw [btA_bsS]
    cases e : x.getD w false with
    | true =>
      rw [e, if_pos rfl] at hs
      refine ifT_pos rfl (W.app (i := 4) rfl (by omega) (by omega) fun v2 h2 W2 => ?_)
      unfold s6c3
      refine rg_of (by omega) (by omega) (s6l2_go (upsP_l2 (va := va) hLA hLS hx hk next d (w + 1) (by omega) v2 h2 ?_))
      have e2 : (natI ((List.range (w + 1)).filter fun w => x.getD w false)).map (AVal.int .i64) = (natI ((List.range w).filter fun w => x.getD w false)).map (.int .i64) ++ [.int .i64 (w : Int)] := by rw [hs]; simp [natI]
      rw [e2]
      exact W2
    | false =>
      rw [e, if_neg (by decide), List.append_nil] at hs
      refine ifT_neg rfl ?_
      unfold s6c3
      refine rg_of (by omega) (by omega) (s6l2_go (upsP_l2 (va := va) hLA hLS hx hk next d (w + 1) (by omega) in_ h ?_))
      rw [hs]
      exact W
theorem upsP_l1 {rt ra : Nat} {X : AVal} (good : ∀ a sets, Boolss a (leqT V) → Intss sets (V.map fun l => natI (idxL l)) → K (.tuple [.agg [a], sets, .int .i64 0]) h0) :
    ∀ d k : Nat, k + d = V.length → ∀ va sets LA LS h, All2 Bools LA ((leqT V).take k) → All2 Ints LS ((V.map fun l => natI (idxL l)).take k) → Own h0 [.cell rt (.row 1 [.agg [X]]), .cell ra (.row 1 [.agg [va]]), .slc 1 va LA, .slc 1 sets LS] h →
      s6l1 K (d + 1) (.ptr rt 0 0) v (.ptr ra 0 0) sets v V.length (k : Int) h
  | 0, k, hd, va, sets, LA, LS, h, aA, aS, W => by
    obtain rfl : k = V.length := by omega
    rw [List.take_of_length_le (by simp [leqT])] at aA
    rw [List.take_of_length_le (by simp)] at aS
    unfold s6l1
    refine ifT_neg (by simp) ?_
    rw [ldN_fld (n := 1) (W.get 1 _ ra rfl rfl) rfl, tCons_cons, tNil_nil]
    refine st_all (W.get 0 _ rt rfl rfl) rfl ?_
    have W2 := W.put (i := 0) rfl (.row 1 [.agg [va]])
    rw [ldN_fld (n := 1) (W2.get 0 _ rt rfl rfl) rfl, tCons_cons, tNil_nil]
    let Sg : Nat → Prop := fun q => nameOf va q ∨ nameOf sets q
    obtain ⟨a', l1, s1⟩ := W2.lit (i := 2) rfl (S := Sg) (fun q hq => .inl hq) (Lits.refl LA)
    obtain ⟨b', l2, s2⟩ := W2.lit (i := 3) rfl (S := Sg) (fun q hq => .inr hq) (Lits.refl LS)
    refine ⟨Sg, .tuple [.agg [a'], b', .int .i64 0], h0, .tuple (.cons (.agg (.cons l1 .nil)) (.cons l2 (.cons (.refl _) .nil))), base_step W2 Sg fun q hq => ?_, good a' b' ⟨_, s1, aA⟩ ⟨_, s2, aS⟩⟩
    rcases hq with hq | hq
    · exact W2.new 2 _ q rfl hq
    · exact W2.new 3 _ q rfl hq
  | d + 1, k, hd, va, sets, LA, LS, h, aA, aS, W => by
    have hk : k < V.length := by omega
    have hxl := hV _ (List.getElem_mem hk)
    have lA : LA.length ≤ 64 := by have := aA.length; rw [List.length_take] at this; omega
    have lS : LS.length ≤ 64 := by have := aS.length; rw [List.length_take] at this; omega
    unfold s6l1
    refine ifT_pos (by simp; omega) ?_
    rw [ixS_nat hv (e := .str (bsS V[k])) (by simp [hk]), show cellsOf (.str (bsS V[k])) = [.str (bsS V[k])] from rfl, ld1_lptr, tStr_str, bsS_size, hxl]
    refine s6l2_in (n + 1) (upsP_l2 (va := va) hn hV hl hv lA lS (List.getElem_mem hk) (by omega) (fun va' sets' row in_ h' hb hi W2 => ?_) n 0 (by omega) .nilsl h (W.newN 1))
    refine upsP_l1 good d (k + 1) (by omega) va' sets' _ _ h' ?_ ?_ W2
    · rw [List.take_add_one, show (leqT V)[k]? = some (V.map (subB V[k])) by simp [leqT, hk]]
      exact aA.append (.cons hb .nil)
    · rw [List.take_add_one, show (V.map fun l => natI (idxL l))[k]? = some (natI (idxL V[k])) by simp [hk]]
      exact aS.append (.cons hi .nil)
end
theorem upsP_ok (S : Small up val) (hU : Intss mU up) (hV : Strss mV val) (bad : ¬ WF up val → K (.tuple [.agg [.nilsl], .nilsl, .int .i64 170]) h) (many : WF up val → Many up → K (.tuple [.agg [.nilsl], .nilsl, .int .i64 231]) h)
    (yes : WF up val → ∀ V, IsUps up V → V.length ≤ 64 → ∀ a sets, Boolss a (leqT V) → Intss sets (V.map fun l => natI (idxL l)) → K (.tuple [.agg [a], sets, .int .i64 0]) h) : ACalls prog 6 [.agg [mU, mV]] h K := by
  refine s6_ok ?_
  unfold s6
  refine newRow_in fun rt hrt => ?_
  have W0 := (Own.start h).newC hrt (.row 1 [.agg [.nilsl]])
  have err : ∀ e : Int, K (.tuple [.agg [.nilsl], .nilsl, .int .i64 e]) h → st false (h.set rt (.row 1 [.agg [.nilsl]])) (.ptr rt 0 0) [.nilsl] fun h_2 => ldN 1 h_2 (.ptr rt 0 0) fun l_3 => tCons l_3 fun v4 l_4 => tNil l_4 (retG (.tuple [(.agg [v4]), .nilsl, (.int .i64 e)]) h_2 K) := fun e hk => by
    refine st_all (W0.get 0 _ rt rfl rfl) rfl ?_
    have W2 := W0.put (i := 0) rfl (.row 1 [.agg [.nilsl]])
    rw [ldN_fld (n := 1) (W2.get 0 _ rt rfl rfl) rfl, tCons_cons, tNil_nil]
    exact retG_drop W2.old hk
  refine callG_of (upsets_ok S hU hV (fun hW => ?_) (fun hW hm => ?_) fun hW V v hV' hl hv => ?_)
  · rw [tTup_tuple, tCons_cons, tCons_cons, tInt_int, tNil_nil]
    exact ifT_pos rfl (err 170 (bad hW))
  · rw [tTup_tuple, tCons_cons, tCons_cons, tInt_int, tNil_nil]
    exact ifT_pos rfl (err 231 (many hW hm))
  · rw [tTup_tuple, tCons_cons, tCons_cons, tInt_int, tNil_nil]
    refine ifT_neg rfl (newRow_in fun ra hra => ?_)
    rw [lenN_of hv, show ((strsQ V).length : Int) = (V.length : Int) by simp]
    have W2 := ((W0.newC hra (.row 1 [.agg [.nilsl]])).newN 1).newN 1
    have hmax := hW.max
    exact s6l1_in (V.length + 1) (upsP_l1 (n := up.length) hmax (fun l hl => ((hV'.mem l).1 hl).len) hl hv (yes hW V hV' hl) V.length 0 (by omega) .nilsl .nilsl [] [] _ .nil .nil W2)
/- ---------------- Chain ---------------- -/
def chainL (n : Nat) : List (List Bool) := (List.range n).map fun x => (List.range n).map fun y => decide (x ≤ y)
section
variable {n : Nat} (hn : n ≤ 64)
include hn
theorem chain_l3 {rt ra : Nat} {X va : AVal} {LA : List AVal} (hLA : LA.length ≤ 64) {x : Nat} (hx : x < n) {L2 : s15l2_T}
    (next : ∀ va' row h', Bools row ((List.range n).map fun y => decide (x ≤ y)) → Own h0 [.cell rt (.row 1 [.agg [X]]), .cell ra (.row 1 [.agg [va']]), .slc 1 va' (LA ++ [row])] h' → L2 n (.ptr rt 0 0) (.ptr ra 0 0) n ((x : Int) + 1) h') {rr : Nat} :
    ∀ d y : Nat, y + d = n → x ≤ y → ∀ h, Own h0 [.cell rt (.row 1 [.agg [X]]), .cell ra (.row 1 [.agg [va]]), .slc 1 va LA, .slc 1 (.sl rr 1 0 n) (((List.range n).map fun z => decide (x ≤ z ∧ z < y)).map .bool)] h →
      s15l3 K (s15l2_G L2) (d + 1) n (.ptr rt 0 0) (.ptr ra 0 0) (.sl rr 1 0 n) (y : Int) n (x : Int) h
  | 0, y, hd, hxy, h, W => by
    obtain rfl : y = n := by omega
    unfold s15l3
    refine ifT_neg (by simp) ?_
    rw [addOff_ptr, ld1_fld (W.get 1 _ ra rfl rfl) rfl]
    refine chk_iff.2 ⟨(W.sc (i := 3) rfl).1, W.app (i := 2) rfl (by omega) (by omega) fun v2 h2 W2 => ?_⟩
    rw [addOff_ptr]
    refine chk_iff.2 ⟨(W2.sc (i := 2) rfl).1, st_fld (W2.get 1 _ ra rfl rfl) (by simp) (rg_of (by omega) (by omega) ?_)⟩
    have W4 : Own h0 ([.cell rt (.row 1 [.agg [X]]), .cell ra (.row 1 [.agg [v2]]), .slc 1 v2 (LA ++ [.sl rr 1 0 y])] ++ [.slc 1 (.sl rr 1 0 y) (((List.range y).map fun z => decide (x ≤ z ∧ z < y)).map .bool)]) _ := W2.put (i := 1) rfl (.row 1 [.agg [v2]])
    obtain ⟨S, h', row', s1, g, W5⟩ := W4.settleL (i := 2) rfl
    have e : (List.range y).map (fun z => decide (x ≤ z ∧ z < y)) = (List.range y).map fun z => decide (x ≤ z) := List.map_congr_left fun z hz => by
      have := List.mem_range.1 hz
      rw [decide_eq_decide]
      omega
    rw [e] at s1
    exact ⟨S, _, h', Lits.refl _, g, rfl, next v2 row' h' s1 W5⟩
  | d + 1, y, hd, hxy, h, W => by
    have hy : y < n := by omega
    unfold s15l3
    refine ifT_pos (by simp; omega) (ixS_sl0 hy ?_)
    refine st_elem (W.get 3 _ rr rfl rfl) (e := .bool (decide (x ≤ y ∧ y < y))) (by simp [hy]) rfl (rg_of (by omega) (by omega) (s15l3_go ?_))
    have hlen : (((List.range n).map fun z => decide (x ≤ z ∧ z < y)).map AVal.bool).length = n := by simp
    have W2 := W.putS (i := 3) (r := rr) (es := 1) (l := ((List.range n).map fun z => decide (x ≤ z ∧ z < y)).map AVal.bool) (by rw [hlen]; rfl) (l' := (((List.range n).map fun z => decide (x ≤ z ∧ z < y)).map AVal.bool).set y (.bool true)) (by simp)
    have e : (((List.range n).map fun z => decide (x ≤ z ∧ z < y)).map AVal.bool).set y (.bool true) = ((List.range n).map fun z => decide (x ≤ z ∧ z < y + 1)).map .bool := by
      rw [List.map_map, List.map_map, map_set]
      refine List.map_congr_left fun z _ => ?_
      by_cases ez : z = y
      · subst ez
        rw [if_pos rfl]
        show _ = AVal.bool (decide (x ≤ z ∧ z < z + 1))
        rw [decide_eq_true (by omega)]
      · rw [if_neg ez]
        show AVal.bool (decide (x ≤ z ∧ z < y)) = AVal.bool (decide (x ≤ z ∧ z < y + 1))
        congr 1
        rw [decide_eq_decide]
        omega
    rw [e] at W2 ⊢
    rw [hlen] at W2
    exact chain_l3 (va := va) hLA hx next d (y + 1) (by omega) (by omega) _ W2
theorem chain_l2 {rt ra : Nat} {X : AVal} (good : ∀ a, Boolss a (chainL n) → K (.tuple [.agg [a], .int .i64 0]) h0) : ∀ d x : Nat, x + d = n → ∀ va LA h, All2 Bools LA ((chainL n).take x) → Own h0 [.cell rt (.row 1 [.agg [X]]), .cell ra (.row 1 [.agg [va]]), .slc 1 va LA] h →
    s15l2 K (d + 1) n (.ptr rt 0 0) (.ptr ra 0 0) n (x : Int) h
  | 0, x, hd, va, LA, h, aA, W => by
    obtain rfl : x = n := by omega
    rw [List.take_of_length_le (by simp [chainL])] at aA
    unfold s15l2
    refine ifT_neg (by simp) ?_
    rw [ldN_fld (n := 1) (W.get 1 _ ra rfl rfl) rfl, tCons_cons, tNil_nil]
    refine st_all (W.get 0 _ rt rfl rfl) rfl ?_
    have W2 := W.put (i := 0) rfl (.row 1 [.agg [va]])
    rw [ldN_fld (n := 1) (W2.get 0 _ rt rfl rfl) rfl, tCons_cons, tNil_nil]
    obtain ⟨a', l1, s1⟩ := W2.lit (i := 2) rfl (S := nameOf va) (fun q hq => hq) (Lits.refl LA)
    exact ⟨_, .tuple [.agg [a'], .int .i64 0], h0, .tuple (.cons (.agg (.cons l1 .nil)) (.cons (.refl _) .nil)), base_step W2 _ (fun q hq => W2.new 2 _ q rfl hq), good a' ⟨_, s1, aA⟩⟩
  | d + 1, x, hd, va, LA, h, aA, W => by
    have hx : x < n := by omega
    have lA : LA.length ≤ 64 := by have := aA.length; rw [List.length_take] at this; omega
    unfold s15l2
    refine ifT_pos (by simp; omega) (mkS_own (by omega) (by omega) fun rr hrr => ?_)
    have W2 := W.newS hrr (es := 1) (List.replicate n (.bool false))
    have e : List.replicate n (AVal.bool false) = ((List.range n).map fun z => decide (x ≤ z ∧ z < x)).map .bool := by
      refine List.ext_getElem (by simp) fun i h1 h2 => ?_
      simp
    rw [List.length_replicate, e] at W2
    rw [e]
    refine s15l3_in (n - x + 1) (chain_l3 (va := va) hn lA hx (fun va' row h' hb W3 => ?_) (n - x) x (by omega) (Nat.le_refl _) _ W2)
    refine chain_l2 good d (x + 1) (by omega) va' _ h' ?_ W3
    rw [List.take_add_one, show (chainL n)[x]? = some ((List.range n).map fun y => decide (x ≤ y)) by simp [chainL, hx]]
    exact aA.append (.cons hb .nil)
theorem chainP_ok (h1 : 1 ≤ n) (good : ∀ a, Boolss a (chainL n) → K (.tuple [.agg [a], .int .i64 0]) h) : ACalls prog 15 [.int .i64 (n : Int)] h K := by
  refine s15_ok ?_
  unfold s15
  refine newRow_in fun rt hrt => ifT_neg (by simp; omega) ?_
  rw [decide_eq_false (show ¬ (64 : Int) < n by omega)]
  unfold s15c1
  have W0 := (Own.start h).newC hrt (.row 1 [.agg [.nilsl]])
  refine ifT_neg rfl (newRow_in fun ra hra => ?_)
  have W2 := (W0.newC hra (.row 1 [.agg [.nilsl]])).newN 1
  exact s15l2_in (n + 1) (chain_l2 hn good n 0 (by omega) .nilsl [] _ .nil W2)
end
end Go.Proofs.YtljglglbfcgjpaaGreat

namespace Go.Proofs.YtljglglbfcgjpaaGreat
open Go Go.Sym Go.Proofs.Tryz
variable {K : AVal → Heap → Prop} {h h0 hb : Heap}
theorem chainP_bad {n : Int} (hn : ¬ (1 ≤ n ∧ n ≤ 64)) (hk : K (.tuple [.agg [.nilsl], .int .i64 2]) h) : ACalls prog 15 [.int .i64 n] h K := by
  refine s15_ok ?_
  unfold s15
  refine newRow_in fun rt hrt => ?_
  have W0 := (Own.start h).newC hrt (.row 1 [.agg [.nilsl]])
  have err : s15c1 K n (.ptr rt 0 0) true (h.set rt (.row 1 [.agg [.nilsl]])) := by
    unfold s15c1
    refine ifT_pos rfl (st_all (W0.get 0 _ rt rfl rfl) rfl ?_)
    have W2 := W0.put (i := 0) rfl (.row 1 [.agg [.nilsl]])
    rw [ldN_fld (n := 1) (W2.get 0 _ rt rfl rfl) rfl, tCons_cons, tNil_nil]
    exact retG_drop W2.old hk
  by_cases h1 : n < 1
  · exact ifT_pos (decide_eq_true h1) err
  · refine ifT_neg (decide_eq_false h1) ?_
    rw [decide_eq_true (show (64 : Int) < n by omega)]
    exact err
theorem chainD_bad {n : Int} (hn : ¬ (1 ≤ n ∧ n ≤ 64)) (hk : K (.tuple [.agg [.nilsl], .int .i64 2]) h) : ACalls prog 16 [.int .i64 n] h K := by
  refine s16_ok ?_
  unfold s16
  refine newRow_in fun rt hrt => ?_
  have W0 := (Own.start h).newC hrt (.row 1 [.agg [.nilsl]])
  have err : s16c1 K n (.ptr rt 0 0) true (h.set rt (.row 1 [.agg [.nilsl]])) := by
    unfold s16c1
    refine ifT_pos rfl (st_all (W0.get 0 _ rt rfl rfl) rfl ?_)
    have W2 := W0.put (i := 0) rfl (.row 1 [.agg [.nilsl]])
    rw [ldN_fld (n := 1) (W2.get 0 _ rt rfl rfl) rfl, tCons_cons, tNil_nil]
    exact retG_drop W2.old hk
  by_cases h1 : n < 1
  · exact ifT_pos (decide_eq_true h1) err
  · refine ifT_neg (decide_eq_false h1) ?_
    rw [decide_eq_true (show (64 : Int) < n by omega)]
    exact err
section
variable {n : Nat} (hn : n ≤ 64)
include hn
theorem chainD_l3 {rt ra : Nat} {X va : AVal} {LA : List AVal} (hLA : LA.length ≤ 64) {x : Nat} (hx : x < n) {L2 : s16l2_T}
    (next : ∀ va' row h', Bools row ((List.range n).map fun y => decide (x ≤ y)) → Own h0 [.cell rt (.row 1 [.agg [X]]), .cell ra (.row 1 [.agg [va']]), .slc 1 va' (LA ++ [row])] h' → L2 n (.ptr rt 0 0) (.ptr ra 0 0) ((x : Int) + 1) h') :
    ∀ d y : Nat, y + d = n → ∀ row h, Own h0 [.cell rt (.row 1 [.agg [X]]), .cell ra (.row 1 [.agg [va]]), .slc 1 va LA, .slc 1 row (((List.range y).map fun z => decide (x ≤ z)).map .bool)] h →
      s16l3 K (s16l2_G L2) (d + 1) n (.ptr rt 0 0) (.ptr ra 0 0) (x : Int) row (y : Int) h
  | 0, y, hd, row, h, W => by
    obtain rfl : y = n := by omega
    unfold s16l3
    refine ifT_neg (by simp) ?_
    rw [addOff_ptr, ld1_fld (W.get 1 _ ra rfl rfl) rfl]
    refine chk_iff.2 ⟨(W.sc (i := 3) rfl).1, W.app (i := 2) rfl (by omega) (by omega) fun v2 h2 W2 => ?_⟩
    rw [addOff_ptr]
    refine chk_iff.2 ⟨(W2.sc (i := 2) rfl).1, st_fld (W2.get 1 _ ra rfl rfl) (by simp) (rg_of (by omega) (by omega) ?_)⟩
    have W4 : Own h0 ([.cell rt (.row 1 [.agg [X]]), .cell ra (.row 1 [.agg [v2]]), .slc 1 v2 (LA ++ [row])] ++ [.slc 1 row (((List.range y).map fun z => decide (x ≤ z)).map .bool)]) _ := W2.put (i := 1) rfl (.row 1 [.agg [v2]])
    obtain ⟨S, h', row', s1, g, W5⟩ := W4.settleL (i := 2) rfl
    exact ⟨S, _, h', Lits.refl _, g, rfl, next v2 row' h' s1 W5⟩
  | d + 1, y, hd, row, h, W => by
    have hy : y < n := by omega
    unfold s16l3
    refine ifT_pos (by simp; omega) ?_
    refine W.app (i := 3) rfl (by simp; omega) (by simp; omega) fun v2 h2 W2 => rg_of (by omega) (by omega) (s16l3_go (chainD_l3 (va := va) hLA hx next d (y + 1) (by omega) v2 h2 ?_))
    have e : ((List.range (y + 1)).map fun z => decide (x ≤ z)).map AVal.bool = ((List.range y).map fun z => decide (x ≤ z)).map AVal.bool ++ [.bool (decide ((x : Int) ≤ (y : Int)))] := by
      rw [List.range_succ, List.map_append, List.map_append]
      simp
    rw [e]
    exact W2
theorem chainD_l2 {rt ra : Nat} {X : AVal} (good : ∀ a, Boolss a (chainL n) → K (.tuple [.agg [a], .int .i64 0]) h0) : ∀ d x : Nat, x + d = n → ∀ va LA h, All2 Bools LA ((chainL n).take x) → Own h0 [.cell rt (.row 1 [.agg [X]]), .cell ra (.row 1 [.agg [va]]), .slc 1 va LA] h →
    s16l2 K (d + 1) n (.ptr rt 0 0) (.ptr ra 0 0) (x : Int) h
  | 0, x, hd, va, LA, h, aA, W => by
    obtain rfl : x = n := by omega
    rw [List.take_of_length_le (by simp [chainL])] at aA
    unfold s16l2
    refine ifT_neg (by simp) ?_
    rw [ldN_fld (n := 1) (W.get 1 _ ra rfl rfl) rfl, tCons_cons, tNil_nil]
    refine st_all (W.get 0 _ rt rfl rfl) rfl ?_
    have W2 := W.put (i := 0) rfl (.row 1 [.agg [va]])
    rw [ldN_fld (n := 1) (W2.get 0 _ rt rfl rfl) rfl, tCons_cons, tNil_nil]
    obtain ⟨a', l1, s1⟩ := W2.lit (i := 2) rfl (S := nameOf va) (fun q hq => hq) (Lits.refl LA)
    exact ⟨_, .tuple [.agg [a'], .int .i64 0], h0, .tuple (.cons (.agg (.cons l1 .nil)) (.cons (.refl _) .nil)), base_step W2 _ (fun q hq => W2.new 2 _ q rfl hq), good a' ⟨_, s1, aA⟩⟩
  | d + 1, x, hd, va, LA, h, aA, W => by
    have hx : x < n := by omega
    have lA : LA.length ≤ 64 := by have := aA.length; rw [List.length_take] at this; omega
    unfold s16l2
    refine ifT_pos (by simp; omega) ?_
    refine s16l3_in (n + 1) (chainD_l3 (va := va) hn lA hx (fun va' row h' hb W3 => ?_) n 0 (by omega) .nilsl h (W.newN 1))
    refine chainD_l2 good d (x + 1) (by omega) va' _ h' ?_ W3
    rw [List.take_add_one, show (chainL n)[x]? = some ((List.range n).map fun y => decide (x ≤ y)) by simp [chainL, hx]]
    exact aA.append (.cons hb .nil)
theorem chainD_ok (h1 : 1 ≤ n) (good : ∀ a, Boolss a (chainL n) → K (.tuple [.agg [a], .int .i64 0]) h) : ACalls prog 16 [.int .i64 (n : Int)] h K := by
  refine s16_ok ?_
  unfold s16
  refine newRow_in fun rt hrt => ifT_neg (by simp; omega) ?_
  rw [decide_eq_false (show ¬ (64 : Int) < n by omega)]
  unfold s16c1
  have W0 := (Own.start h).newC hrt (.row 1 [.agg [.nilsl]])
  refine ifT_neg rfl (newRow_in fun ra hra => ?_)
  have W1 := W0.newC hra (.row 1 [.agg [.nilsl]])
  refine st_all (W1.get 1 _ ra rfl rfl) rfl ?_
  have W2 := (W1.put (i := 1) rfl (.row 1 [.agg [.nilsl]])).newN 1
  exact s16l2_in (n + 1) (chainD_l2 hn good n 0 (by omega) .nilsl [] _ .nil W2)
end
end Go.Proofs.YtljglglbfcgjpaaGreat

namespace Go.Proofs.YtljglglbfcgjpaaGreat
open Go Go.Sym Go.Proofs.Tryz
/- ---- a word ---- -/
def wV (x : BitVec 64) : AVal := .int .u64 ((x.toNat : Nat) : Int)
theorem w_ofInt (x : BitVec 64) : BitVec.ofInt 64 ((x.toNat : Nat) : Int) = x := by
  apply BitVec.eq_of_toNat_eq
  simp
theorem w_wrap (n : Nat) : IntKind.u64.wrap (n : Int) = ((n % 18446744073709551616 : Nat) : Int) := by
  unfold IntKind.wrap
  simp only [IntKind.bits, IntKind.signed]
  simp
theorem w_wrapT (x : BitVec 64) : IntKind.u64.wrap ((x.toNat : Nat) : Int) = ((x.toNat : Nat) : Int) := by
  rw [w_wrap, Nat.mod_eq_of_lt x.isLt]
theorem w_and (x y : BitVec 64) : bitsI .and .u64 ((x.toNat : Nat) : Int) ((y.toNat : Nat) : Int) = (((x &&& y).toNat : Nat) : Int) := by
  show IntKind.u64.wrap (((BitVec.ofInt 64 ((x.toNat : Nat) : Int) &&& BitVec.ofInt 64 ((y.toNat : Nat) : Int)).toNat : Nat) : Int) = _
  rw [w_ofInt, w_ofInt, w_wrapT]
theorem w_or (x y : BitVec 64) : bitsI .or .u64 ((x.toNat : Nat) : Int) ((y.toNat : Nat) : Int) = (((x ||| y).toNat : Nat) : Int) := by
  show IntKind.u64.wrap (((BitVec.ofInt 64 ((x.toNat : Nat) : Int) ||| BitVec.ofInt 64 ((y.toNat : Nat) : Int)).toNat : Nat) : Int) = _
  rw [w_ofInt, w_ofInt, w_wrapT]
theorem w_andNot (x y : BitVec 64) : bitsI .andNot .u64 ((x.toNat : Nat) : Int) ((y.toNat : Nat) : Int) = (((x &&& ~~~y).toNat : Nat) : Int) := by
  show IntKind.u64.wrap (((BitVec.ofInt 64 ((x.toNat : Nat) : Int) &&& ~~~BitVec.ofInt 64 ((y.toNat : Nat) : Int)).toNat : Nat) : Int) = _
  rw [w_ofInt, w_ofInt, w_wrapT]
theorem w_shl (x : BitVec 64) {k : Nat} (hk : k < 64) : IntKind.u64.wrap (((x.toNat : Nat) : Int) * 2 ^ (min (Int.toNat (k : Int)) IntKind.u64.bits)) = (((x <<< k).toNat : Nat) : Int) := by
  have e : min (Int.toNat (k : Int)) IntKind.u64.bits = k := by
    show min (Int.toNat (k : Int)) 64 = k
    rw [Int.toNat_natCast]; omega
  rw [e, show (((x.toNat : Nat) : Int) * 2 ^ k) = ((x.toNat * 2 ^ k : Nat) : Int) by push_cast; rfl, w_wrap, BitVec.toNat_shiftLeft, Nat.shiftLeft_eq]
theorem w_shr (x : BitVec 64) {k : Nat} (hk : k < 64) : Int.fdiv ((x.toNat : Nat) : Int) (2 ^ (min (Int.toNat (k : Int)) IntKind.u64.bits)) = (((x >>> k).toNat : Nat) : Int) := by
  have e : min (Int.toNat (k : Int)) IntKind.u64.bits = k := by
    show min (Int.toNat (k : Int)) 64 = k
    rw [Int.toNat_natCast]; omega
  rw [e, BitVec.toNat_ushiftRight, Nat.shiftRight_eq_div_pow, show (2 : Int) ^ k = ((2 ^ k : Nat) : Int) by push_cast; rfl, Int.fdiv_eq_ediv_of_nonneg _ (Int.natCast_nonneg _)]
  rfl
theorem w_one : ((1 : Int)) = (((1#64).toNat : Nat) : Int) := rfl
theorem w_eq (x y : BitVec 64) : ((((x.toNat : Nat) : Int)) == ((y.toNat : Nat) : Int)) = decide (x = y) := by
  rw [Bool.eq_iff_iff]
  simp only [beq_iff_eq, decide_eq_true_eq, Int.natCast_inj]
  exact ⟨fun h => BitVec.eq_of_toNat_eq h, fun h => by rw [h]⟩
theorem w_bit (x : BitVec 64) (k : Nat) : (bitsI .and .u64 (((x >>> k).toNat : Nat) : Int) 1 == 1) = x.getLsbD k := by
  rw [w_one, w_and, w_eq]
  rw [Bool.eq_iff_iff, decide_eq_true_eq]
  constructor
  · intro h
    have := congrArg (fun y => BitVec.getLsbD y 0) h
    simpa using this
  · intro h
    apply BitVec.eq_of_getLsbD_eq
    intro i hi
    simp only [BitVec.getLsbD_and, BitVec.getLsbD_ushiftRight, BitVec.getLsbD_one]
    by_cases h0 : i = 0
    · subst h0; simpa using h
    · simp [h0]
end Go.Proofs.YtljglglbfcgjpaaGreat

namespace Go.Proofs.YtljglglbfcgjpaaGreat
open Go Go.Sym
def splitB (n : Nat) (r : Nat → Nat → Bool) (x : Nat) : Bool := (List.range n).any fun y => (List.range n).any fun z => jn n r y z == x && (y != x && z != x)
def primeB (n : Nat) (r : Nat → Nat → Bool) (x : Nat) : Bool := (x != lowP n r) && !splitB n r x
def primesL (n : Nat) (r : Nat → Nat → Bool) : List Nat := (List.range n).filter (primeB n r)
section
variable {n : Nat} {r : Nat → Nat → Bool} (A : Lat n r)
include A
omit A in
theorem lat_split {x : Nat} (h : splitB n r x = true) : ∃ y z, y < n ∧ z < n ∧ jn n r y z = x ∧ y ≠ x ∧ z ≠ x := by
  unfold splitB at h
  rw [List.any_eq_true] at h
  obtain ⟨y, hy, h⟩ := h
  rw [List.any_eq_true] at h
  obtain ⟨z, hz, h⟩ := h
  simp only [Bool.and_eq_true, beq_iff_eq, bne_iff_ne] at h
  exact ⟨y, z, List.mem_range.1 hy, List.mem_range.1 hz, h.1, h.2.1, h.2.2⟩
omit A in
theorem lat_nosplit {x y z : Nat} (h : splitB n r x = false) (hy : y < n) (hz : z < n) (e : jn n r y z = x) : y = x ∨ z = x := by
  unfold splitB at h
  rw [List.any_eq_false] at h
  have h1 := h y (List.mem_range.2 hy)
  rw [Bool.not_eq_true, List.any_eq_false] at h1
  have h2 := h1 z (List.mem_range.2 hz)
  simp only [Bool.and_eq_true, beq_iff_eq, bne_iff_ne, ne_eq, not_and] at h2
  by_cases h3 : y = x
  · exact .inl h3
  · exact .inr (Classical.byContradiction fun h4 => h2 e h3 h4)
omit A in
theorem prime_at {w : Nat} (hw : w < (primesL n r).length) : (primesL n r)[w] < n ∧ primeB n r (primesL n r)[w] = true := by
  have := List.getElem_mem hw
  unfold primesL at this
  rw [List.mem_filter] at this
  exact ⟨List.mem_range.1 this.1, this.2⟩
end
end Go.Proofs.YtljglglbfcgjpaaGreat

namespace Go.Proofs.YtljglglbfcgjpaaGreat
open Go Go.Sym Go.Proofs.Tryz
variable {K : AVal → Heap → Prop} {h : Heap} {up : List (List Int)} {val : List (List ByteArray)} {mU mV : AVal}
noncomputable def okc (up : List (List Int)) (a b c : Nat) : Bool := (c == a) || ((c == b) || (!rb up a c || !rb up c b))
noncomputable def startB (up : List (List Int)) (a b : Nat) : Bool := (a != b) && rb up a b
noncomputable def coverB (up : List (List Int)) (a b : Nat) : Bool := startB up a b && (List.range up.length).all (okc up a b)
noncomputable def tidyRow (up : List (List Int)) (a : Nat) : List Nat := (List.range up.length).filter (coverB up a)
noncomputable def tidyUp (up : List (List Int)) : List (List Int) := (List.range up.length).map fun a => natI (tidyRow up a)
end Go.Proofs.YtljglglbfcgjpaaGreat

namespace Go.Proofs.YtljglglbfcgjpaaGreat
open Go Go.Sym Go.Proofs.Tryz
variable {K : AVal → Heap → Prop} {h : Heap} {up : List (List Int)} {val : List (List ByteArray)} {mU mV : AVal}
theorem cloneS_ok {v : AVal} {l : List ByteArray} (hv : Strs v l) (hm : l.length ≤ 1073741824) (hk : ∀ v', Strs v' l → K v' h) : ACalls prog 85 [v] h K := by
  refine s85_ok ?_
  unfold s85
  refine nilS_of hv (fun he hv' => ?_) fun hv' => ?_
  · exact ifT_pos rfl (retG_of (hk _ (by rw [hv'] at hv; exact hv)))
  · refine ifT_neg rfl (newRow_in fun r hr => appC_copy hr (elemsA_of hv) (by simp; omega) (by simp; omega) fun v' h' g => ?_)
    obtain ⟨S, v2, h1, h2, h3⟩ := g.freeze
    exact ⟨S, v2, h, h1, h3, hk v2 h2⟩
noncomputable def overL (up : List (List Int)) (a : Nat) : List Nat := (List.range up.length).filter (startB up a)
noncomputable def nextB (up : List (List Int)) (a b : Nat) : Bool := !((natI (overL up a)).any fun c => (c != (b : Int)) && rb up c.toNat b)
theorem cover_next {a b : Nat} : coverB up a b = (startB up a b && nextB up a b) := by
  unfold coverB nextB
  cases startB up a b with
  | false => rfl
  | true =>
    rw [Bool.true_and, Bool.true_and, Bool.eq_iff_iff, List.all_eq_true]
    constructor
    · intro hall
      rw [Bool.not_eq_true', List.any_eq_false]
      intro x hx
      obtain ⟨c, hc, rfl⟩ := mem_natI.1 hx
      obtain ⟨h1, h2⟩ := List.mem_filter.1 hc
      have h3 := hall c h1
      unfold okc at h3
      unfold startB at h2
      simp only [Int.toNat_natCast, Bool.and_eq_true, bne_iff_ne, ne_eq] at h2 ⊢
      rintro ⟨h4, h5⟩
      rw [show (c == a) = false by simp; omega, show (c == b) = false by simp; omega, h2.2, h5] at h3
      cases h3
    · intro hno c hc
      rw [Bool.not_eq_true', List.any_eq_false] at hno
      unfold okc
      cases e1 : (c == a) with
      | true => rfl
      | false =>
        cases e2 : (c == b) with
        | true => rfl
        | false =>
          cases e3 : rb up a c with
          | false => rfl
          | true =>
            cases e4 : rb up c b with
            | false => rfl
            | true =>
              exfalso
              refine hno (c : Int) (mem_natI.2 ⟨c, List.mem_filter.2 ⟨hc, ?_⟩, rfl⟩) ?_
              · unfold startB; simp at e1; simp [e3]; omega
              · simp at e2; simp [e4]; omega
theorem tidyRow_next (a : Nat) : tidyRow up a = (overL up a).filter (nextB up a) := by
  unfold tidyRow overL
  rw [List.filter_filter]
  congr 1
  funext b
  rw [cover_next, Bool.and_comm]
theorem over_call {f : AVal} (hF : LeqF f up) {c0 : AVal} {a b : Nat} (ha : a < up.length) (hb : b < up.length) {h : Heap} (h0 : ∀ K : AVal → Prop, ld1 h c0 K = K (.int .i64 (a : Int)))
    {K : AVal → Heap → Prop} (hk : K (.bool (startB up a b)) h) : callV prog (.func (.func 81) [] [c0, .lptr [f]]) [.int .i64 (b : Int)] h K := by
  show callG prog 81 ([] ++ [.int .i64 (b : Int)] ++ [c0, .lptr [f]]) h K
  refine callG_of (s81_ok ?_)
  unfold s81
  unfold startB at hk
  rw [h0, tInt_int]
  by_cases hab : a = b
  · exact ifT_neg (by simp [hab]) (retG_of (by simpa [hab] using hk))
  · refine ifT_pos (by simp; omega) ?_
    rw [ld1_lptr, h0, tInt_int]
    refine leq_call hF ha hb ?_
    rw [tBool_bool]
    exact retG_of (by rwa [show (a != b) = true by simpa using hab, Bool.true_and] at hk)
theorem above_call {f : AVal} (hF : LeqF f up) {b c : Nat} (hb : b < up.length) (hc : c < up.length) {h : Heap} {K : AVal → Heap → Prop} (hk : K (.bool (((c : Int) != (b : Int)) && rb up c b)) h) :
    callV prog (.func (.func 84) [] [.lptr [.int .i64 (b : Int)], .lptr [f]]) [.int .i64 (c : Int)] h K := by
  show callG prog 84 ([] ++ [.int .i64 (c : Int)] ++ [.lptr [.int .i64 (b : Int)], .lptr [f]]) h K
  refine callG_of (s84_ok ?_)
  unfold s84
  rw [ld1_lptr, tInt_int]
  by_cases hab : (c : Int) = (b : Int)
  · exact ifT_neg (by simp [hab]) (retG_of (by simpa [hab] using hk))
  · refine ifT_pos (by simpa using hab) ?_
    rw [ld1_lptr, ld1_lptr, tInt_int]
    refine leq_call hF hc hb ?_
    rw [tBool_bool]
    exact retG_of (by rwa [show ((c : Int) != (b : Int)) = true by simpa using hab, Bool.true_and] at hk)
theorem next_call {f ov : AVal} (hF : LeqF f up) (hn : up.length ≤ 512) {a b : Nat} (hov : Ints ov (natI (overL up a))) (hb : b < up.length) {h : Heap} {K : AVal → Heap → Prop} (hk : K (.bool (nextB up a b)) h) :
    callV prog (.func (.func 82) [] [.lptr [ov], .lptr [f]]) [.int .i64 (b : Int)] h K := by
  show callG prog 82 ([] ++ [.int .i64 (b : Int)] ++ [.lptr [ov], .lptr [f]]) h K
  refine callG_of (s82_ok ?_)
  unfold s82
  rw [ld1_lptr]
  have hle : (natI (overL up a)).length ≤ 512 := by
    have := List.length_filter_le (startB up a) (List.range up.length)
    simp [natI, overL] at this ⊢
    omega
  refine callG_of (containsFI_ok (p := fun c => (c != (b : Int)) && rb up c.toNat b) hov (by omega) (fun x hx K' hk' => ?_) ?_)
  · obtain ⟨c, hc, rfl⟩ := mem_natI.1 hx
    have hcn : c < up.length := List.mem_range.1 (List.mem_filter.1 hc).1
    exact above_call hF hb hcn (by simpa using hk')
  · rw [tBool_bool]
    exact retG_of hk
theorem tidy_l2 (hn : up.length ≤ 512) {f ov : AVal} (hF : LeqF f up) {a : Nat} (ha : a < up.length) (hl : val.length = up.length) (S : Small up val) (hV : Strss mV val) (hov : Ints ov (natI (overL up a)))
    {L1 : AVal → AVal → AVal → AVal → Int → Int → Heap → Prop} {t2 : AVal} {hb : Heap} {ro : Nat} {vU vV : AVal} {LU LV : List AVal} (hLU : LU.length ≤ 512) (hLV : LV.length ≤ 512) {t24 : Int}
    (hL : ∀ vU' vV' row cp h' hb', Grow 1 hb row (natV (tidyRow up a)) hb' → Strs cp (val[a]'(by omega)) → MB hb' ro vU' vV' (LU ++ [row]) (LV ++ [cp]) h' → L1 (.lptr [mU, mV]) t2 (.lptr [f]) (.ptr ro 0 0) t24 (a + 1) h') :
    ∀ d i : Nat, i + d = (overL up a).length → ∀ row h hM, MB hb ro vU vV LU LV hM → Grow 1 hM row (natV (((overL up a).take i).filter (nextB up a))) h →
      s38l2 K L1 (d + 1) (.lptr [mU, mV]) t2 (.lptr [f]) (.ptr ro 0 0) (.lptr [.int .i64 (a : Int)]) (.func (.func 82) [] [.lptr [ov], .lptr [f]]) row t24 a ov (overL up a).length (i : Int) h
  | 0, i, hd, row, h, hM, M, g => by
    have ha' : a < val.length := by omega
    rw [List.take_of_length_le (by omega), ← tidyRow_next] at g
    obtain ⟨hb', g1, M1⟩ := M.swap g
    unfold s38l2
    refine ifT_neg (by simp; omega) ?_
    rw [addOff_ptr, M1.ldU]
    refine chk_iff.2 ⟨g.sc.1, M1.appU (by omega) (by omega) fun v1 h1 M2 => ?_⟩
    rw [addOff_ptr]
    refine chk_iff.2 ⟨M2.sc.1.1, M2.stU fun h2 M3 => ?_⟩
    rw [addOff_ptr, M3.ldV, addOff_lptr]
    simp only [List.drop_succ_cons, List.drop_zero, ld1_lptr, tInt_int]
    obtain ⟨ev, hev, hix⟩ := hV.ix ha'
    rw [hix, ld1_lptr]
    have hSn := S.names _ (List.getElem_mem ha')
    refine callG_of (cloneS_ok hev (by omega) fun cp hcp => ?_)
    refine ⟨by rw [M3.ldV], chk_iff.2 ⟨hcp.notAgg.2, ⟨by rw [M3.ldV], ?_⟩⟩⟩
    refine M3.appV (by omega) (by omega) fun v2 h4 M5 => ?_
    rw [addOff_ptr]
    refine chk_iff.2 ⟨M5.sc.2.1, M5.stV fun h5 M6 => rg_of (by omega) (by omega) ?_⟩
    exact hL v1 v2 row cp h5 hb' g1 hcp M6
  | d + 1, i, hd, row, h, hM, M, g => by
    have hi : i < (overL up a).length := by omega
    have hlen : (overL up a).length ≤ 512 := by
      have := List.length_filter_le (startB up a) (List.range up.length)
      simp [overL] at this ⊢
      omega
    have hbn : (overL up a)[i] < up.length := List.mem_range.1 (List.mem_filter.1 (List.getElem_mem hi)).1
    unfold s38l2
    refine ifT_pos (by simp; omega) ?_
    have hix : (natI (overL up a))[i]'(by simpa [natI] using hi) = ((overL up a)[i] : Int) := by simp [natI]
    rw [hov.ix (i := i) (by simpa [natI] using hi), ld1_lptr, hix, tInt_int]
    refine next_call hF hn hov hbn ?_
    rw [tBool_bool]
    have hs : ((overL up a).take (i + 1)).filter (nextB up a) = ((overL up a).take i).filter (nextB up a) ++ if nextB up a (overL up a)[i] then [(overL up a)[i]] else [] := by
      rw [List.take_succ_eq_append_getElem hi, List.filter_append, List.filter_cons]; rfl
    have hle : (natV (((overL up a).take i).filter (nextB up a))).length ≤ i := by
      rw [natV_len]
      have := List.length_filter_le (nextB up a) ((overL up a).take i)
      simp at this
      omega
    cases hnx : nextB up a (overL up a)[i] with
    | true =>
      rw [hnx, if_pos rfl] at hs
      refine ifT_pos rfl (appC_one g (by omega) (by omega) fun v' h' g' => rg_of (by omega) (by omega) (s38l2_go (tidy_l2 hn hF ha hl S hV hov hLU hLV hL d (i + 1) (by omega) v' h' hM M ?_)))
      rw [hs, natV_app]
      exact g'
    | false =>
      rw [hnx] at hs
      refine ifT_neg rfl (rg_of (by omega) (by omega) (s38l2_go (tidy_l2 hn hF ha hl S hV hov hLU hLV hL d (i + 1) (by omega) row h hM M ?_)))
      rw [hs]
      simpa using g
theorem tidy_l1 (hn : up.length ≤ 512) {f : AVal} (hF : LeqF f up) (hU : Intss mU up) (hl : val.length = up.length) (S : Small up val) (hV : Strss mV val) {hb : Heap} {ro rt : Nat} {X : AVal} (hrt : hb rt = some (.row 2 [.agg [.nilsl, X]])) {h0 : Heap} (hsub : ∀ q o, h0 q = some o → q ≠ rt ∧ hb q = some o)
    (good : ∀ vU vV, Intss vU (tidyUp up) → Strss vV val → K (.tuple [.agg [vU, vV], .int .i64 0]) h0) :
    ∀ d a : Nat, a + d = up.length → ∀ vU vV LU LV h, MB hb ro vU vV LU LV h → All2 Ints LU ((tidyUp up).take a) → All2 Strs LV (val.take a) → s38l1 K (d + 1) (.lptr [mU, mV]) (.ptr rt 0 0) (.lptr [f]) (.ptr ro 0 0) up.length (a : Int) h
  | 0, a, hd, vU, vV, LU, LV, h, M, aU, aV => by
    obtain rfl : a = up.length := by omega
    unfold s38l1
    refine ifT_neg (by simp) ?_
    rw [M.ld, tCons_cons, tCons_cons, tNil_nil]
    have M1 := M.upd (x := .row 2 [.agg [vU, vV]]) hrt
    refine st_all (M.old hrt) rfl ?_
    rw [ldN2 (Heap.set_same _ _ _), tCons_cons, tCons_cons, tNil_nil]
    obtain ⟨Sn, vU', vV', l1, l2, s1, s2, hS, hold⟩ := M1.freeze
    have hlen : (tidyUp up).length = up.length := by simp [tidyUp]
    rw [List.take_of_length_le (by omega)] at aU
    rw [List.take_of_length_le (by omega)] at aV
    refine ⟨Sn, _, h0, .tuple (.cons (.agg (.cons l1 (.cons l2 .nil))) (.cons (.refl _) .nil)), ⟨fun _ _ => trivial, fun q o hq => ⟨o, ?_, ?_, .refl o⟩⟩, good vU' vV' ⟨LU, s1, aU⟩ ⟨LV, s2, aV⟩⟩
    · obtain ⟨h1, h2⟩ := hsub q o hq
      exact hold q o (by rw [Heap.set_ne _ _ h1]; exact h2)
    · intro hs
      have h3 := hS q hs
      obtain ⟨h1, h2⟩ := hsub q o hq
      rw [Heap.set_ne _ _ h1, h2] at h3
      cases h3
  | d + 1, a, hd, vU, vV, LU, LV, h, M, aU, aV => by
    have ha : a < up.length := by omega
    have hlen : (tidyUp up).length = up.length := by simp [tidyUp]
    have hLU : LU.length ≤ 512 := by have := aU.length; simp at this; omega
    have hLV : LV.length ≤ 512 := by have := aV.length; simp at this; omega
    unfold s38l1
    refine ifT_pos (by simp; omega) (newRow_in fun r3 hr3 => st_elem (Heap.set_same _ _ _) rfl rfl ?_)
    rw [show [AVal.int .i64 0].set 0 (.int .i64 (a : Int)) = [.int .i64 (a : Int)] from rfl, Heap.set_set, ldN_agg2, tCons_cons, tCons_cons, tNil_nil]
    refine callG_of (all_ok (p := startB up a) hU (by omega) (fun b hb h' K' hs hk' => over_call hF ha hb (fun K => ld1_one (hs _ _ (Heap.set_same _ _ _)) rfl K) hk') fun ov hov => ?_)
    refine newRow_in fun r4 hr4 => chk_iff.2 ⟨hov.notAgg.2, st_elem (Heap.set_same _ _ _) rfl rfl ?_⟩
    have hova : ov.isAgg = false := by rcases hov with rfl | ⟨rfl, _⟩ <;> rfl
    rw [show [AVal.nilsl].set 0 ov = [ov] from rfl, Heap.set_set, ld1_one (Heap.set_same _ _ _) hova, hov.len]
    have hne : r4 ≠ r3 := fun e => by rw [e, Heap.set_same] at hr4; cases hr4
    have hr4' : h r4 = none := by rwa [Heap.set_ne _ _ hne] at hr4
    have hlo : (natI (overL up a)).length = (overL up a).length := by simp [natI]
    have hlo2 : (natI ((List.range up.length).filter (startB up a))).length = (overL up a).length := hlo
    rw [hlo2]
    refine ⟨fun q => q = r3 ∨ q = r4, [.lptr [mU, mV], .ptr rt 0 0, .lptr [f], .ptr ro 0 0, .lptr [.int .i64 (a : Int)], .func (.func 82) [] [.lptr [ov], .lptr [f]], .nilsl, .int .i64 up.length, .int .i64 (a : Int), ov, .int .i64 (overL up a).length, .int .i64 0], h, ?_, ?_, rfl, (overL up a).length + 1, ?_⟩
    · have h3 : ((h.set r3 (.row 1 [.int .i64 (a : Int)])).set r4 (.row 1 [ov])) r3 = some (.row 1 [.int .i64 (a : Int)]) := by rw [Heap.set_ne _ _ hne.symm, Heap.set_same]
      refine .cons (.refl _) (.cons (.refl _) (.cons (.refl _) (.cons (.refl _) (.cons (.ptr (.inl rfl) h3 rfl (Lits.refl _)) (.cons (.func .nil (.cons (.ptr (.inr rfl) (Heap.set_same _ _ _) rfl ?_) (Lits.refl _))) (Lits.refl _))))))
      rw [List.drop_zero, cells_of_notAgg hova]
      exact Lits.refl _
    · refine ⟨fun _ _ => trivial, fun q o hq => ⟨o, ?_, ?_, .refl o⟩⟩
      · exact Heap.set_sub hr4 q o (Heap.set_sub hr3 q o hq)
      · rintro (e | e)
        · rw [e, hr3] at hq; cases hq
        · rw [e, hr4'] at hq; cases hq
    · have := tidy_l2 hn hF ha hl S hV hov (L1 := s38l1_G (s38l1 K (d + 1))) (t2 := .ptr rt 0 0) (t24 := up.length) (hb := hb) (ro := ro) (mU := mU) (K := K) hLU hLV (fun vU' vV' row cp h' hb' g1 hcp M' => ?_) (overL up a).length 0 (by omega) .nilsl h h M .nil
      · exact this
      · obtain ⟨Sg, h2, row', s1, M2, hg⟩ := M'.settle1 g1
        refine ⟨Sg, _, h2, Lits.refl _, hg, rfl, ?_⟩
        have := tidy_l1 hn hF hU hl S hV hrt hsub good d (a + 1) (by omega) vU' vV' _ _ h2 M2 ?_ ?_
        · exact this
        · rw [List.take_succ_eq_append_getElem (by omega)]
          refine aU.append (.cons ?_ .nil)
          have hga : (tidyUp up)[a]'(by omega) = natI (tidyRow up a) := by simp [tidyUp]
          rw [hga]
          unfold Ints
          rwa [← natV_eq]
        · rw [List.take_succ_eq_append_getElem (by omega)]
          exact aV.append (.cons hcp .nil)
theorem tidy_ok (S : Small up val) (hU : Intss mU up) (hV : Strss mV val) (bad : ¬ WF up val → K (.tuple [.agg [.nilsl, .nilsl], .int .i64 170]) h) (good : WF up val → ∀ vU vV, Intss vU (tidyUp up) → Strss vV val → K (.tuple [.agg [vU, vV], .int .i64 0]) h) :
    ACalls prog 38 [.agg [mU, mV]] h K := by
  refine s38_ok ?_
  unfold s38
  refine newRow_in fun rt hrt => callG_of (asked_ok (l := []) S hU hV (.inr ⟨rfl, rfl⟩) (by simp) (fun hW => ?_) (fun _ hW => absurd (by simp) hW) fun hW _ f hF => ?_)
  · simp only [tTup_tuple, tCons_cons, tInt_int, tNil_nil]
    refine newRow_in fun r hr => chk_iff.2 ⟨rfl, st_elem (Heap.set_same _ _ _) rfl rfl (ifT_pos rfl ?_)⟩
    rw [Heap.set_set]
    have hne : r ≠ rt := fun e => by rw [e, Heap.set_same] at hr; cases hr
    have hr' : h r = none := by rwa [Heap.set_ne _ _ hne] at hr
    refine st_all (cs := [.nilsl, .nilsl]) (es := 2) (by rw [Heap.set_ne _ _ hne.symm, Heap.set_same]) rfl ?_
    rw [ldN2 (Heap.set_same _ _ _), tCons_cons, tCons_cons, tNil_nil]
    refine retG_drop (fun q o hq => ?_) (bad hW)
    have h1 : q ≠ rt := fun e => by rw [e, hrt] at hq; cases hq
    have h2 : q ≠ r := fun e => by rw [e, hr'] at hq; cases hq
    rw [Heap.set_ne _ _ h1, Heap.set_ne _ _ h2, Heap.set_ne _ _ h1]
    exact hq
  · simp only [tTup_tuple, tCons_cons, tInt_int, tNil_nil]
    have hFc : Go.Sym.sc f = true ∧ f.isAgg = false := by obtain ⟨o, rfl, _⟩ := hF; exact ⟨rfl, rfl⟩
    refine newRow_in fun r hr => chk_iff.2 ⟨hFc.1, st_elem (Heap.set_same _ _ _) rfl rfl (ifT_neg rfl (newRow_in fun ro hro => ?_))⟩
    rw [Heap.set_set] at hro ⊢
    rw [hU.len]
    have hne : r ≠ rt := fun e => by rw [e, Heap.set_same] at hr; cases hr
    have hr' : h r = none := by rwa [Heap.set_ne _ _ hne] at hr
    have hne2 : ro ≠ r := fun e => by rw [e, Heap.set_same] at hro; cases hro
    have hro' : (h.set rt (.row 2 [.agg [.nilsl, .nilsl]])) ro = none := by rwa [Heap.set_ne _ _ hne2] at hro
    refine ⟨fun q => q = r, [.lptr [mU, mV], .ptr rt 0 0, .lptr [f], .ptr ro 0 0, .int .i64 up.length, .int .i64 0], (h.set rt (.row 2 [.agg [.nilsl, .nilsl]])).set ro (.row 2 [.agg [.nilsl, .nilsl]]), ?_, ?_, rfl, up.length + 1, ?_⟩
    · refine .cons (.refl _) (.cons (.refl _) (.cons (.ptr rfl (by rw [Heap.set_ne _ _ hne2.symm]; exact Heap.set_same _ _ _) rfl ?_) (Lits.refl _)))
      rw [List.drop_zero]
      show Lits _ _ (cellsOf f) [f]
      rw [cells_of_notAgg hFc.2]
      exact Lits.refl _
    · refine ⟨fun _ _ => trivial, fun q o hq => ?_⟩
      rw [Heap.set_get] at hq
      split at hq
      · rename_i e
        subst e
        cases hq
        exact ⟨_, Heap.set_same _ _ _, hne2, .refl _⟩
      · rename_i e
        refine ⟨o, ?_, (fun e' => by rw [e', hr] at hq; cases hq), .refl _⟩
        rw [Heap.set_ne _ _ e, Heap.set_ne _ _ (fun e' => by rw [e', hr] at hq; cases hq)]
        exact hq
    · have := tidy_l1 hW.max hF hU hW.len S hV (Heap.set_same _ _ _) (fun q o hq => ⟨(fun e => by rw [e, hrt] at hq; cases hq), Heap.set_sub hrt q o hq⟩) (good hW) up.length 0 (by omega) .nilsl .nilsl [] [] _ (MBs.start hro') .nil .nil
      exact this
end Go.Proofs.YtljglglbfcgjpaaGreat

namespace Go.Proofs.YtljglglbfcgjpaaGreat
open Go Go.Sym Go.Proofs.Tryz
variable {up : List (List Int)} {val : List (List ByteArray)}
end Go.Proofs.YtljglglbfcgjpaaGreat

namespace Go.Proofs.YtljglglbfcgjpaaGreat
open Go Go.Sym Go.Proofs.Tryz
variable {K : AVal → Heap → Prop} {h h0 hb : Heap} {n : Nat} {r : Nat → Nat → Bool} {f : AVal}
/- ---------------- a number is put into a set ---------------- -/
theorem find_at {v : Nat} : ∀ (V : List Nat) (i : Nat), v ∈ V → ∃ j, findM (.int .i64 (v : Int)) (mapV V) i = some (some (i + j, .int .i64 1)) ∧ (mapV V)[j]? = some (.int .i64 (v : Int), .int .i64 1)
  | [], _, h => by simp at h
  | x :: V, i, h => by
    by_cases e : v = x
    · subst e
      refine ⟨0, ?_, rfl⟩
      show findM (.int .i64 (v : Int)) ((.int .i64 (v : Int), .int .i64 1) :: mapV V) i = _
      unfold findM keyEq
      simp
    · obtain ⟨j, h1, h2⟩ := find_at V (i + 1) (by simpa [e] using h)
      refine ⟨j + 1, ?_, ?_⟩
      · show findM (.int .i64 (v : Int)) ((.int .i64 (x : Int), .int .i64 1) :: mapV V) i = _
        unfold findM keyEq
        simp only [decide_true]
        rw [show ((v : Int) == (x : Int)) = false by rw [beq_eq_false_iff_ne]; omega]
        rw [show i + (j + 1) = i + 1 + j by omega]
        exact h1
      · exact h2
def insN (V : List Nat) (v : Nat) : List Nat := if v ∈ V then V else V ++ [v]
theorem mem_insN {V : List Nat} {v x : Nat} : x ∈ insN V v ↔ x ∈ V ∨ x = v := by
  unfold insN
  split
  · rename_i h
    exact ⟨.inl, fun e => e.elim id fun e => e ▸ h⟩
  · simp
theorem mapPut_ins {h : Heap} {rm : Nat} {V : List Nat} (hm : h rm = some (.map (mapV V))) {v : Nat} {X : Heap → Prop} (hk : X (h.set rm (.map (mapV (insN V v))))) : mapPut h (.mapr rm) (.int .i64 (v : Int)) (.int .i64 1) X := by
  by_cases hv : v ∈ V
  · unfold insN at hk
    rw [if_pos hv] at hk
    obtain ⟨j, h1, h2⟩ := find_at V 0 hv
    unfold mapPut mapPutR putM
    simp only [hm, h1]
    have : (mapV V).set (0 + j) (.int .i64 (v : Int), .int .i64 1) = mapV V := by
      rw [Nat.zero_add]
      refine List.ext_getElem? fun i => ?_
      rw [List.getElem?_set]
      split
      · rename_i e
        subst e
        rw [if_pos (List.getElem?_eq_some_iff.1 h2).1, h2]
      · rfl
    rw [this]
    exact hk
  · unfold insN at hk
    rw [if_neg hv] at hk
    exact mapPut_out hm hv hk
/- ---------------- the model of the primes ---------------- -/
def pRow (n : Nat) (r : Nat → Nat → Bool) (w : Nat) : List Nat := (List.range (primesL n r).length).filter fun v => (v != w) && r ((primesL n r).getD v 0) ((primesL n r).getD w 0)
def pUp (n : Nat) (r : Nat → Nat → Bool) : List (List Int) := (List.range (primesL n r).length).map fun w => natI (pRow n r w)
def pVal (n : Nat) (r : Nat → Nat → Bool) : List (List ByteArray) := List.replicate (primesL n r).length []
theorem pL_get {w : Nat} (hw : w < (primesL n r).length) : (primesL n r).getD w 0 = (primesL n r)[w] := by rw [List.getD_eq_getElem?_getD, List.getElem?_eq_getElem hw]; rfl
theorem pUp_len : (pUp n r).length = (primesL n r).length := by simp [pUp]
theorem pStep {a b : Nat} : Step (pUp n r) a b ↔ a < (primesL n r).length ∧ b < (primesL n r).length ∧ b ≠ a ∧ r ((primesL n r).getD b 0) ((primesL n r).getD a 0) = true := by
  unfold Step
  constructor
  · rintro ⟨row, h1, h2⟩
    have ha : a < (primesL n r).length := by have := (List.getElem?_eq_some_iff.1 h1).1; rwa [pUp_len] at this
    unfold pUp at h1
    rw [range_get _ ha] at h1
    cases h1
    obtain ⟨c, hc, e⟩ := mem_natI.1 h2
    have : b = c := by omega
    subst this
    unfold pRow at hc
    rw [List.mem_filter, List.mem_range, Bool.and_eq_true, bne_iff_ne] at hc
    exact ⟨ha, hc.1, hc.2.1, hc.2.2⟩
  · rintro ⟨ha, hb, hne, hr⟩
    refine ⟨natI (pRow n r a), range_get _ ha, mem_natI.2 ⟨b, ?_, rfl⟩⟩
    unfold pRow
    rw [List.mem_filter, List.mem_range, Bool.and_eq_true, bne_iff_ne]
    exact ⟨hb, hne, hr⟩
section
variable (A : Lat n r)
include A
theorem pReach {a b : Nat} (ha : a < (primesL n r).length) : Reach (pUp n r) a b ↔ b < (primesL n r).length ∧ r ((primesL n r).getD b 0) ((primesL n r).getD a 0) = true := by
  have lt : ∀ {x}, (hx : x < (primesL n r).length) → (primesL n r).getD x 0 < n := fun hx => by rw [pL_get hx]; exact (prime_at hx).1
  constructor
  · intro h
    induction h with
    | refl => exact ⟨ha, A.po.refl _ (lt ha)⟩
    | tail _ hs ih =>
      obtain ⟨h1, h2, _, h4⟩ := pStep.1 hs
      exact ⟨h2, A.po.trans _ _ _ (lt h2) (lt h1) (lt ha) h4 ih.2⟩
  · rintro ⟨hb, h⟩
    by_cases e : b = a
    · subst e; exact .refl
    · exact .tail .refl (pStep.2 ⟨ha, hb, e, h⟩)
theorem primes_nodup_inj {a b : Nat} (ha : a < (primesL n r).length) (hb : b < (primesL n r).length) (h : (primesL n r).getD a 0 = (primesL n r).getD b 0) : a = b := by
  have _ := A
  have hnd : (primesL n r).Nodup := List.Pairwise.filter _ List.nodup_range
  rw [pL_get ha, pL_get hb] at h
  exact (List.getElem_inj hnd).1 h
theorem pWF (hn : n ≤ 64) (h1 : (primesL n r).length ≠ 0) : WF (pUp n r) (pVal n r) where
  pos := by rw [pUp_len]; omega
  max := by
    rw [pUp_len]
    have := List.length_filter_le (primeB n r) (List.range n)
    unfold primesL
    simp at this
    omega
  len := by rw [pUp_len]; simp [pVal]
  inR := fun row hr b hb => by
    obtain ⟨i, hi, rfl⟩ := List.mem_iff_getElem.1 hr
    have hi' : i < (primesL n r).length := by rwa [pUp_len] at hi
    have e : (pUp n r)[i] = natI (pRow n r i) := by simp [pUp]
    rw [e] at hb
    obtain ⟨c, hc, rfl⟩ := mem_natI.1 hb
    unfold pRow at hc
    rw [List.mem_filter, List.mem_range] at hc
    rw [pUp_len]
    omega
  fine := fun l hl => by
    unfold pVal at hl
    rw [(List.mem_replicate.1 hl).2]
    rfl
  cond a b ha hb := by
    rw [pUp_len] at ha hb
    intro h hne
    refine ⟨fun h' => hne ?_, fun s hs => ?_⟩
    · have e1 := ((pReach A ha).1 h).2
      have e2 := ((pReach A hb).1 h').2
      have lt : ∀ {x}, (hx : x < (primesL n r).length) → (primesL n r).getD x 0 < n := fun hx => by rw [pL_get hx]; exact (prime_at hx).1
      exact primes_nodup_inj A ha hb (A.po.anti _ _ (lt ha) (lt hb) e2 e1)
    · unfold pVal at hs
      rw [List.getD_eq_getElem?_getD, List.getElem?_replicate] at hs
      split at hs <;> simp at hs
end
theorem pSmall (hn : n ≤ 64) : Small (pUp n r) (pVal n r) := by
  have hl : (primesL n r).length ≤ 64 := by
    have := List.length_filter_le (primeB n r) (List.range n)
    unfold primesL
    simp at this
    omega
  refine ⟨by rw [pUp_len]; omega, by simp [pVal]; omega, fun row hr => ?_, fun l hl' => ?_⟩
  · obtain ⟨i, hi, rfl⟩ := List.mem_iff_getElem.1 hr
    have e : (pUp n r)[i] = natI (pRow n r i) := by simp [pUp]
    rw [e]
    have := List.length_filter_le (fun v => (v != i) && r ((primesL n r).getD v 0) ((primesL n r).getD i 0)) (List.range (primesL n r).length)
    simp only [List.length_range] at this
    unfold natI pRow
    rw [List.length_map]
    omega
  · unfold pVal at hl'
    rw [(List.mem_replicate.1 hl').2]
    exact ⟨⟨by simp, by simp⟩, by simp⟩
/- ---------------- which elements split ---------------- -/
structure Spl (n : Nat) (r : Nat → Nat → Bool) (V : List Nat) (x y : Nat) : Prop where
  to : ∀ z, z ∈ V → z = lowP n r ∨ splitB n r z = true
  low : lowP n r ∈ V
  of : ∀ a b, a < n → b < n → (a < x ∨ a = x ∧ b < y) → jn n r a b ≠ a → jn n r a b ≠ b → jn n r a b ∈ V
theorem Spl.row {V : List Nat} {x : Nat} (S : Spl n r V x n) : Spl n r V (x + 1) 0 := ⟨S.to, S.low, fun a b ha hb h => S.of a b ha hb (by omega)⟩
theorem Spl.prime {V : List Nat} (S : Spl n r V n 0) {x : Nat} : x ∈ V ↔ primeB n r x = false := by
  unfold primeB
  constructor
  · intro h
    rcases S.to x h with e | e
    · simp [e]
    · simp [e]
  · intro h
    rw [Bool.and_eq_false_iff] at h
    rcases h with h | h
    · have : x = lowP n r := by simpa using h
      rw [this]; exact S.low
    · have h : splitB n r x = true := by simpa using h
      obtain ⟨y, z, hy, hz, e, h1, h2⟩ := lat_split h
      rw [← e]
      exact S.of y z hy hz (.inl hy) (fun e3 => h1 (e3 ▸ e)) (fun e3 => h2 (e3 ▸ e))
theorem split_of {y z : Nat} (hy : y < n) (hz : z < n) (h1 : jn n r y z ≠ y) (h2 : jn n r y z ≠ z) : splitB n r (jn n r y z) = true := by
  unfold splitB
  rw [List.any_eq_true]
  refine ⟨y, List.mem_range.2 hy, ?_⟩
  rw [List.any_eq_true]
  refine ⟨z, List.mem_range.2 hz, ?_⟩
  simp only [Bool.and_eq_true, beq_iff_eq, bne_iff_ne]
  exact ⟨trivial, fun e => h1 e.symm, fun e => h2 e.symm⟩
abbrev PM0 (h0 : Heap) (rt r1 rm n : Nat) (f X Y : AVal) (V : List Nat) (os : List Ow) (h : Heap) : Prop := Own h0 ([.cell rt (.row 2 [.agg [X, Y]]), .cell r1 (.row 2 [.agg (latC n f)]), .cell rm (.map (mapV V))] ++ os) h
section
variable {rt r1 rm : Nat} {X Y : AVal} (hf : T2 f n r) (hn : n ≤ 64) (hp : 1 ≤ n)
include hf hn hp
theorem primes_l2 {x : Nat} (hx : x < n) {L1 : s13l1_T} (next : ∀ V h, Spl n r V (x + 1) 0 → PM0 h0 rt r1 rm n f X Y V [] h → L1 (.ptr rt 0 0) (.ptr r1 0 0) (.mapr rm) n ((x : Int) + 1) h) :
    ∀ d y : Nat, y + d = n → ∀ V h, Spl n r V x y → PM0 h0 rt r1 rm n f X Y V [] h → s13l2 K L1 (d + 1) (.ptr rt 0 0) (.ptr r1 0 0) (.mapr rm) (x : Int) n (x : Int) n (y : Int) h
  | 0, y, hd, V, h, S, W => by
    obtain rfl : y = n := by omega
    unfold s13l2
    exact ifT_neg (by simp) (rg_of (by omega) (by omega) (next V h S.row W))
  | d + 1, y, hd, V, h, S, W => by
    have hy : y < n := by omega
    unfold s13l2
    refine ifT_pos (by simp; omega) ?_
    rw [ldN2 (W.get 1 _ r1 rfl rfl), tCons_cons, tInt_int, tCons_cons, tNil_nil]
    refine callG_of (joinH_ok hf (by omega) hx hy ?_)
    unfold bestV
    rw [tTup_tuple, tCons_cons, tInt_int, tCons_cons, tBool_bool, tNil_nil]
    show ifT (((jn n r x y : Nat) : Int) != (x : Int)) _ _
    have c3 : ∀ V' h', Spl n r V' x (y + 1) → PM0 h0 rt r1 rm n f X Y V' [] h' → s13c3 K L1 (s13l2_G (s13l2 K L1 (d + 1))) (.ptr rt 0 0) (.ptr r1 0 0) (.mapr rm) (x : Int) n (x : Int) n (y : Int) h' := fun V' h' S' W' => by
      unfold s13c3
      exact rg_of (by omega) (by omega) (s13l2_go (primes_l2 hx next d (y + 1) (by omega) V' h' S' W'))
    have keep : (jn n r x y = x ∨ jn n r x y = y) → Spl n r V x (y + 1) := fun e => ⟨S.to, S.low, fun a b ha hb hab h1 h2 => by
      by_cases e2 : a = x ∧ b = y
      · obtain ⟨rfl, rfl⟩ := e2
        rcases e with e | e
        · exact absurd e h1
        · exact absurd e h2
      · exact S.of a b ha hb (by omega) h1 h2⟩
    have c4f : (jn n r x y = x ∨ jn n r x y = y) → s13c4 K L1 (s13l2_G (s13l2 K L1 (d + 1))) (.ptr rt 0 0) (.ptr r1 0 0) (.mapr rm) (x : Int) ((jn n r x y : Nat) : Int) n (x : Int) n (y : Int) false h := fun e => by
      unfold s13c4
      exact ifT_neg rfl (c3 V h (keep e) W)
    by_cases e1 : jn n r x y = x
    · exact ifT_neg (by simp [e1]) (c4f (.inl e1))
    · refine ifT_pos (by simp; omega) ?_
      show s13c4 K L1 _ (.ptr rt 0 0) (.ptr r1 0 0) (.mapr rm) (x : Int) ((jn n r x y : Nat) : Int) n (x : Int) n (y : Int) (((jn n r x y : Nat) : Int) != (y : Int)) h
      by_cases e2 : jn n r x y = y
      · rw [show (((jn n r x y : Nat) : Int) != (y : Int)) = false by rw [e2]; simp]
        exact c4f (.inr e2)
      · rw [show (((jn n r x y : Nat) : Int) != (y : Int)) = true by simp; omega]
        unfold s13c4
        refine ifT_pos rfl (mapPut_ins (W.get 2 _ rm rfl rfl) ?_)
        have W2 := W.put (i := 2) rfl (.map (mapV (insN V (jn n r x y))))
        refine c3 _ _ ⟨fun z hz => ?_, mem_insN.2 (.inl S.low), fun a b ha hb hab h1 h2 => ?_⟩ W2
        · rcases mem_insN.1 hz with hz | hz
          · exact S.to z hz
          · rw [hz]; exact .inr (split_of hx hy e1 e2)
        · by_cases e3 : a = x ∧ b = y
          · obtain ⟨rfl, rfl⟩ := e3
            exact mem_insN.2 (.inr rfl)
          · exact mem_insN.2 (.inl (S.of a b ha hb (by omega) h1 h2))
theorem primes_l1 (next : ∀ V h, Spl n r V n 0 → PM0 h0 rt r1 rm n f X Y V [] h → s13l5_E (s13l5 K) (.ptr rt 0 0) (.ptr r1 0 0) (.mapr rm) .nilsl n 0 h) :
    ∀ d x : Nat, x + d = n → ∀ V h, Spl n r V x 0 → PM0 h0 rt r1 rm n f X Y V [] h → s13l1 K (d + 1) (.ptr rt 0 0) (.ptr r1 0 0) (.mapr rm) n (x : Int) h
  | 0, x, hd, V, h, S, W => by
    obtain rfl : x = n := by omega
    unfold s13l1
    refine ifT_neg (by simp) ?_
    rw [addOff_ptr, ld1_fld (W.get 1 _ r1 rfl rfl) rfl, tInt_int]
    exact next V h S W
  | d + 1, x, hd, V, h, S, W => by
    unfold s13l1
    refine ifT_pos (by simp; omega) ?_
    rw [addOff_ptr, ld1_fld (W.get 1 _ r1 rfl rfl) rfl, tInt_int]
    exact s13l2_in (n + 1) (primes_l2 hf hn hp (by omega) (fun V' h' S' W' => s13l1_go (primes_l1 next d (x + 1) (by omega) V' h' S' W')) n 0 (by omega) V h S W)
omit hf hn hp in
theorem primes_le : (primesL n r).length ≤ n := by
  have := List.length_filter_le (primeB n r) (List.range n)
  unfold primesL
  simpa using this
theorem primes_l8 {ev : AVal} (he : Ints ev (natI (primesL n r))) {w : Nat} (hw : w < (primesL n r).length) {V : List Nat} {r3 : Nat} {vU vV : AVal} {LU LV : List AVal} (hLU : LU.length ≤ 64) (hLV : LV.length ≤ 64) {L7 : s13l7_T}
    (next : ∀ vU' vV' row h', Ints row (natI (pRow n r w)) → PM0 h0 rt r1 rm n f X Y V [.cell r3 (.row 2 [.agg [vU', vV']]), .slc 1 vU' (LU ++ [row]), .slc 1 vV' (LV ++ [.nilsl])] h' → L7 (.ptr rt 0 0) (.ptr r1 0 0) ev (.ptr r3 0 0) ev (primesL n r).length ((w : Int) + 1) h') :
    ∀ d v : Nat, v + d = (primesL n r).length → ∀ row h, PM0 h0 rt r1 rm n f X Y V [.cell r3 (.row 2 [.agg [vU, vV]]), .slc 1 vU LU, .slc 1 vV LV, .slc 1 row ((natI ((List.range v).filter fun v => (v != w) && r ((primesL n r).getD v 0) ((primesL n r).getD w 0))).map (.int .i64))] h →
      s13l8 K (s13l7_G L7) (d + 1) (.ptr rt 0 0) (.ptr r1 0 0) ev (.ptr r3 0 0) (w : Int) (((primesL n r)[w] : Nat) : Int) row ev (primesL n r).length (w : Int) ev (primesL n r).length (v : Int) h
  | 0, v, hd, row, h, W => by
    obtain rfl : v = (primesL n r).length := by omega
    have hle := primes_le (n := n) (r := r)
    unfold s13l8
    refine ifT_neg (by simp) ?_
    rw [addOff_ptr, ld1_fld (W.get 3 _ r3 rfl rfl) rfl]
    refine chk_iff.2 ⟨(W.sc (i := 6) rfl).1, W.app (i := 4) rfl (by omega) (by omega) fun v2 h2 W2 => ?_⟩
    rw [addOff_ptr]
    refine chk_iff.2 ⟨(W2.sc (i := 4) rfl).1, st_fst (W2.get 3 _ r3 rfl rfl) ?_⟩
    have W3 := W2.put (i := 3) rfl (.row 2 [.agg [v2, vV]])
    rw [addOff_ptr, ld1_fld (W3.get 3 _ r3 rfl rfl) rfl]
    refine W3.app (i := 5) rfl (by omega) (by omega) fun v3 h3 W4 => ?_
    rw [addOff_ptr]
    refine chk_iff.2 ⟨(W4.sc (i := 5) rfl).1, st_snd (W4.get 3 _ r3 rfl rfl) (rg_of (by omega) (by omega) ?_)⟩
    have W5 : Own h0 (([.cell rt (.row 2 [.agg [X, Y]]), .cell r1 (.row 2 [.agg (latC n f)]), .cell rm (.map (mapV V))] ++ [.cell r3 (.row 2 [.agg [v2, v3]]), .slc 1 v2 (LU ++ [row]), .slc 1 v3 (LV ++ [.nilsl])]) ++ [.slc 1 row ((natI (pRow n r w)).map (.int .i64))]) _ := W4.put (i := 3) rfl (.row 2 [.agg [v2, v3]])
    obtain ⟨S, h', row', s1, g, W6⟩ := W5.settleL (i := 4) rfl
    exact ⟨S, _, h', Lits.refl _, g, rfl, next v2 v3 row' h' s1 W6⟩
  | d + 1, v, hd, row, h, W => by
    have hv : v < (primesL n r).length := by omega
    have hle := primes_le (n := n) (r := r)
    have hs := range_filter_succ (fun v => (v != w) && r ((primesL n r).getD v 0) ((primesL n r).getD w 0)) v
    have hlen : ((natI ((List.range v).filter fun v => (v != w) && r ((primesL n r).getD v 0) ((primesL n r).getD w 0))).map (AVal.int .i64)).length ≤ v := by
      rw [List.length_map]
      unfold natI
      rw [List.length_map]
      have := List.length_filter_le (fun v => (v != w) && r ((primesL n r).getD v 0) ((primesL n r).getD w 0)) (List.range v)
      simpa using this
    unfold s13l8
    refine ifT_pos (by simp; omega) ?_
    rw [he.ix (i := v) (by simpa [natI] using hv), ld1_lptr]
    rw [show (natI (primesL n r))[v]'(by simpa [natI] using hv) = (((primesL n r)[v] : Nat) : Int) by simp [natI], tInt_int]
    have c10 : ∀ b, ((v != w) && r ((primesL n r).getD v 0) ((primesL n r).getD w 0)) = b → s13c10 K (s13l7_G L7) (s13l8_G (s13l8 K (s13l7_G L7) (d + 1))) (.ptr rt 0 0) (.ptr r1 0 0) ev (.ptr r3 0 0) (w : Int) (((primesL n r)[w] : Nat) : Int) row (v : Int) ev (primesL n r).length (w : Int) ev (primesL n r).length (v : Int) b h := fun b e => by
      rw [e] at hs
      unfold s13c10
      cases b with
      | true =>
        rw [if_pos rfl] at hs
        refine ifT_pos rfl (W.app (i := 6) rfl (by omega) (by omega) fun v2 h2 W2 => ?_)
        unfold s13c9
        refine rg_of (by omega) (by omega) (s13l8_go (primes_l8 (vU := vU) (vV := vV) he hw hLU hLV next d (v + 1) (by omega) v2 h2 ?_))
        have e2 : (natI ((List.range (v + 1)).filter fun v => (v != w) && r ((primesL n r).getD v 0) ((primesL n r).getD w 0))).map (AVal.int .i64) = (natI ((List.range v).filter fun v => (v != w) && r ((primesL n r).getD v 0) ((primesL n r).getD w 0))).map (.int .i64) ++ [.int .i64 (v : Int)] := by rw [hs]; simp [natI]
        rw [e2]
        exact W2
      | false =>
        rw [if_neg (by decide), List.append_nil] at hs
        refine ifT_neg rfl ?_
        unfold s13c9
        refine rg_of (by omega) (by omega) (s13l8_go (primes_l8 (vU := vU) (vV := vV) he hw hLU hLV next d (v + 1) (by omega) row h ?_))
        rw [hs]
        exact W
    by_cases e1 : v = w
    · exact ifT_neg (by simp [e1]) (c10 false (by simp [e1]))
    · refine ifT_pos (by simp; omega) ?_
      rw [addOff_ptr, ld1_fld (W.get 1 _ r1 rfl rfl) rfl]
      refine hf _ _ h _ (prime_at hv).1 (prime_at hw).1 ?_
      rw [tBool_bool]
      refine c10 _ ?_
      rw [pL_get hv, pL_get hw, show (v != w) = true by simpa using e1, Bool.true_and]
theorem primes_l7 (A : Lat n r) (h1 : (primesL n r).length ≠ 0) {ev : AVal} (he : Ints ev (natI (primesL n r))) {V : List Nat} {r3 : Nat} (good : ∀ vU vV, Intss vU (tidyUp (pUp n r)) → Strss vV (pVal n r) → K (.tuple [.agg [vU, vV], ev, .int .i64 0]) h0) :
    ∀ d w : Nat, w + d = (primesL n r).length → ∀ vU vV LU LV h, All2 Ints LU ((pUp n r).take w) → All2 Strs LV ((pVal n r).take w) → PM0 h0 rt r1 rm n f X Y V [.cell r3 (.row 2 [.agg [vU, vV]]), .slc 1 vU LU, .slc 1 vV LV] h →
      s13l7 K (d + 1) (.ptr rt 0 0) (.ptr r1 0 0) ev (.ptr r3 0 0) ev (primesL n r).length (w : Int) h
  | 0, w, hd, vU, vV, LU, LV, h, aU, aV, W => by
    obtain rfl : w = (primesL n r).length := by omega
    rw [List.take_of_length_le (by rw [pUp_len]; omega)] at aU
    rw [List.take_of_length_le (by simp [pVal])] at aV
    unfold s13l7
    refine ifT_neg (by simp) ?_
    rw [ldN2 (W.get 3 _ r3 rfl rfl), tCons_cons, tCons_cons, tNil_nil]
    let Sg : Nat → Prop := fun q => nameOf vU q ∨ nameOf vV q
    obtain ⟨u', l1, s1⟩ := W.lit (i := 4) rfl (S := Sg) (fun q hq => .inl hq) (Lits.refl LU)
    obtain ⟨v', l2, s2⟩ := W.lit (i := 5) rfl (S := Sg) (fun q hq => .inr hq) (Lits.refl LV)
    have no : ∀ (j : Nat) (y : Ow), j < 4 → ([.cell rt (.row 2 [.agg [X, Y]]), .cell r1 (.row 2 [.agg (latC n f)]), .cell rm (.map (mapV V)), .cell r3 (.row 2 [.agg [vU, vV]]), .slc 1 vU LU, .slc 1 vV LV] : List Ow)[j]? = some y → ∀ q, y.nm q → ¬ Sg q := fun j y hj hy q hq hs => by
      rcases hs with hs | hs
      · have := W.one j 4 y _ q hy rfl hq hs; omega
      · have := W.one j 5 y _ q hy rfl hq hs; omega
    obtain ⟨h', g, W2⟩ := W.step Sg [.cell rt (.row 2 [.agg [X, Y]]), .cell r1 (.row 2 [.agg (latC n f)]), .cell rm (.map (mapV V)), .cell r3 (.row 2 [.agg [u', v']])] (fun q hq => by
      rcases hq with hq | hq
      · exact W.new 4 _ q rfl hq
      · exact W.new 5 _ q rfl hq) (fun j y' hj => by
      match j, hj with
      | 0, hj => cases hj; exact ⟨_, rfl, trivial, fun q hq => ⟨hq, no 0 _ (by omega) rfl q hq⟩, .refl _⟩
      | 1, hj => cases hj; exact ⟨_, rfl, trivial, fun q hq => ⟨hq, no 1 _ (by omega) rfl q hq⟩, .refl _⟩
      | 2, hj => cases hj; exact ⟨_, rfl, trivial, fun q hq => ⟨hq, no 2 _ (by omega) rfl q hq⟩, .refl _⟩
      | 3, hj => cases hj; exact ⟨_, rfl, trivial, fun q hq => ⟨hq, no 3 _ (by omega) rfl q hq⟩, .row (.cons (.agg (.cons l1 (.cons l2 .nil))) .nil)⟩
      | j + 4, hj => simp at hj)
    refine ⟨Sg, [.agg [u', v']], h', .cons (.agg (.cons l1 (.cons l2 .nil))) .nil, g, ?_⟩
    refine tidy_ok (pSmall hn) ⟨LU, s1, aU⟩ ⟨LV, s2, aV⟩ (fun hb => absurd (pWF A hn h1) hb) fun _ tU tV hU hV => ?_
    rw [tTup_tuple, tCons_cons, tCons_cons, tInt_int, tNil_nil, tAgg_agg, tCons_cons, tCons_cons, tNil_nil]
    refine st_all (W2.get 3 _ r3 rfl rfl) rfl ?_
    have W3 := W2.put (i := 3) rfl (.row 2 [.agg [tU, tV]])
    rw [ldN2 (W3.get 3 _ r3 rfl rfl), tCons_cons, tCons_cons, tNil_nil]
    refine st_all (W3.get 0 _ rt rfl rfl) rfl ?_
    have W4 := W3.put (i := 0) rfl (.row 2 [.agg [tU, tV]])
    rw [ldN2 (W4.get 0 _ rt rfl rfl), tCons_cons, tCons_cons, tNil_nil]
    exact retG_drop W4.old (good tU tV hU hV)
  | d + 1, w, hd, vU, vV, LU, LV, h, aU, aV, W => by
    have hw : w < (primesL n r).length := by omega
    have hle := primes_le (n := n) (r := r)
    have lU : LU.length ≤ 64 := by have := aU.length; rw [List.length_take] at this; omega
    have lV : LV.length ≤ 64 := by have := aV.length; rw [List.length_take] at this; omega
    unfold s13l7
    refine ifT_pos (by simp; omega) ?_
    rw [he.ix (i := w) (by simpa [natI] using hw), ld1_lptr]
    rw [show (natI (primesL n r))[w]'(by simpa [natI] using hw) = (((primesL n r)[w] : Nat) : Int) by simp [natI], tInt_int, he.len]
    rw [show ((natI (primesL n r)).length : Int) = ((primesL n r).length : Int) by simp [natI]]
    refine s13l8_in ((primesL n r).length + 1) (primes_l8 (vU := vU) (vV := vV) hf hn hp he hw lU lV (fun vU' vV' row h' hr W' => ?_) (primesL n r).length 0 (by omega) .nilsl h (W.newN 1))
    refine primes_l7 A h1 he good d (w + 1) (by omega) vU' vV' _ _ h' ?_ ?_ W'
    · rw [List.take_add_one, show (pUp n r)[w]? = some (natI (pRow n r w)) from range_get _ hw]
      exact aU.append (.cons hr .nil)
    · rw [List.take_add_one, show (pVal n r)[w]? = some [] by simp [pVal, hw]]
      exact aV.append (.cons (.nil 1) .nil)
theorem primes_l5 (A : Lat n r) (few : (primesL n r).length = 0 → K (.tuple [.agg [.nilsl, .nilsl], .nilsl, .int .i64 231]) h0) (good : (primesL n r).length ≠ 0 → ∀ vU vV ev, Intss vU (tidyUp (pUp n r)) → Strss vV (pVal n r) → Ints ev (natI (primesL n r)) → K (.tuple [.agg [vU, vV], ev, .int .i64 0]) h0)
    {V : List Nat} (S : Spl n r V n 0) : ∀ d x : Nat, x + d = n → ∀ ev h, PM0 h0 rt r1 rm n f X Y V [.slc 1 ev ((natI ((List.range x).filter (primeB n r))).map (.int .i64))] h → s13l5 K (d + 1) (.ptr rt 0 0) (.ptr r1 0 0) (.mapr rm) ev n (x : Int) h
  | 0, x, hd, ev, h, W => by
    obtain rfl : x = n := by omega
    have hle := primes_le (n := x) (r := r)
    have hlen : ((natI ((List.range x).filter (primeB x r))).map (AVal.int .i64)).length = (primesL x r).length := by simp [natI, primesL]
    unfold s13l5
    refine ifT_neg (by simp) ?_
    rw [W.len (i := 3) rfl, hlen]
    by_cases e : (primesL x r).length = 0
    · refine ifT_pos (by simp [e]) (st_all (W.get 0 _ rt rfl rfl) rfl ?_)
      have W2 := W.put (i := 0) rfl (.row 2 [.agg [.nilsl, .nilsl]])
      rw [ldN2 (W2.get 0 _ rt rfl rfl), tCons_cons, tCons_cons, tNil_nil]
      exact retG_drop W2.old (few e)
    · refine ifT_neg (by rw [beq_eq_false_iff_ne]; omega) (newRow_in fun r3 hr3 => ?_)
      have W2 := W.newC hr3 (.row 2 [.agg [.nilsl, .nilsl]])
      rw [W2.len (i := 3) rfl, hlen]
      have W3 : Own h0 ([.cell rt (.row 2 [.agg [X, Y]]), .cell r1 (.row 2 [.agg (latC x f)]), .cell rm (.map (mapV V)), .cell r3 (.row 2 [.agg [.nilsl, .nilsl]])] ++ [.slc 1 ev ((natI (primesL x r)).map (.int .i64))]) _ := W2.renum _ (fun j => if j = 3 then 4 else if j = 4 then 3 else j) (fun j y hj => by
        match j, hj with
        | 0, hj => exact hj
        | 1, hj => exact hj
        | 2, hj => exact hj
        | 3, hj => exact hj
        | 4, hj => exact hj
        | j + 5, hj => simp at hj) (show ∀ j, j < 5 → ∀ k, k < 5 → _ = _ → j = k by decide)
      obtain ⟨Sg, h', ev', l1, s1, g, W4⟩ := Own.frzL W3
      have W5 := (W4.newN 1).newN 1
      refine ⟨Sg, [.ptr rt 0 0, .ptr r1 0 0, ev', .ptr r3 0 0, ev', .int .i64 (primesL x r).length, .int .i64 0], h', .cons (.refl _) (.cons (.refl _) (.cons l1 (.cons (.refl _) (.cons l1 (Lits.refl _))))), g, rfl, (primesL x r).length + 1, ?_⟩
      exact primes_l7 hf hn hp A e s1 (fun vU vV hU hV => good e vU vV ev' hU hV s1) (primesL x r).length 0 (by omega) .nilsl .nilsl [] [] h' .nil .nil W5
  | d + 1, x, hd, ev, h, W => by
    have hx : x < n := by omega
    have hs := range_filter_succ (primeB n r) x
    have hlen : ((natI ((List.range x).filter (primeB n r))).map (AVal.int .i64)).length ≤ x := by
      rw [List.length_map]
      unfold natI
      rw [List.length_map]
      have := List.length_filter_le (primeB n r) (List.range x)
      simpa using this
    unfold s13l5
    refine ifT_pos (by simp; omega) ?_
    cases e : primeB n r x with
    | true =>
      rw [e, if_pos rfl] at hs
      refine mapGet_out (W.get 2 _ rm rfl rfl) (fun hm => by rw [S.prime.1 hm] at e; cases e) ?_
      rw [tInt_int]
      refine ifT_pos rfl (W.app (i := 3) rfl (by omega) (by omega) fun v2 h2 W2 => ?_)
      unfold s13c6
      refine rg_of (by omega) (by omega) (s13l5_go (primes_l5 A few good S d (x + 1) (by omega) v2 h2 ?_))
      have e2 : (natI ((List.range (x + 1)).filter (primeB n r))).map (AVal.int .i64) = (natI ((List.range x).filter (primeB n r))).map (.int .i64) ++ [.int .i64 (x : Int)] := by rw [hs]; simp [natI]
      rw [e2]
      exact W2
    | false =>
      rw [e, if_neg (by decide), List.append_nil] at hs
      refine mapGet_in (W.get 2 _ rm rfl rfl) (S.prime.2 e) ?_
      rw [tInt_int]
      refine ifT_neg rfl ?_
      unfold s13c6
      refine rg_of (by omega) (by omega) (s13l5_go (primes_l5 A few good S d (x + 1) (by omega) ev h ?_))
      rw [hs]
      exact W
end
theorem primesP_ok {a : AVal} {L : List (List Bool)} (A : AlgV a L) (no : algP L = false → K (.tuple [.agg [.nilsl, .nilsl], .nilsl, .int .i64 230]) h)
    (few : algP L = true → (primesL L.length (at2 L)).length = 0 → K (.tuple [.agg [.nilsl, .nilsl], .nilsl, .int .i64 231]) h)
    (good : algP L = true → (primesL L.length (at2 L)).length ≠ 0 → ∀ vU vV ev, Intss vU (tidyUp (pUp L.length (at2 L))) → Strss vV (pVal L.length (at2 L)) → Ints ev (natI (primesL L.length (at2 L))) → K (.tuple [.agg [vU, vV], ev, .int .i64 0]) h) :
    ACalls prog 13 [.agg [a]] h K := by
  refine s13_ok ?_
  unfold s13
  refine newRow_in fun rt hrt => ?_
  have W0 := (Own.start h).newC hrt (.row 2 [.agg [.nilsl, .nilsl]])
  refine callG_of (look_ok A.v A.len A.row (els := []) (.inr ⟨rfl, rfl⟩) (by simp) ?_)
  rw [tTup_tuple, tCons_cons, tCons_cons, tInt_int, tNil_nil, tAgg_agg, tCons_cons, tInt_int, tCons_cons, tNil_nil]
  refine newRow_in fun r1 hr1 => st_all (Heap.set_same _ _ _) rfl ?_
  have W1 := (W0.newC hr1 (.row 2 [.agg [.int .i64 0, .nilfunc]])).put (i := 1) rfl (.row 2 [.agg (latC L.length (leqV a))])
  generalize Heap.set _ r1 (AObj.row 2 [.agg [AVal.int .i64 (L.length : Int), leqV a]]) = hh at W1 ⊢
  unfold lookE
  cases e : algP L with
  | false =>
    refine ifT_pos rfl (st_all (W1.get 0 _ rt rfl rfl) rfl ?_)
    have W2 := W1.put (i := 0) rfl (.row 2 [.agg [.nilsl, .nilsl]])
    rw [ldN2 (W2.get 0 _ rt rfl rfl), tCons_cons, tCons_cons, tNil_nil]
    exact retG_drop W2.old (no e)
  | true =>
    obtain ⟨hf, hn, h1⟩ := A.alg e
    obtain ⟨_, _, hn64⟩ := algP_sq e
    have AL := lat_of e
    refine ifT_neg rfl ?_
    rw [ldN2 (W1.get 1 _ r1 rfl rfl), tCons_cons, tInt_int, tCons_cons, tNil_nil]
    refine callG_of (boundsH_ok hf hn ?_)
    rw [tTup_tuple, tCons_cons, tInt_int, tCons_cons, tInt_int, tNil_nil]
    intro rm hrm _
    have W2 := W1.newC hrm (.map [])
    refine mapPut_out (V := []) (W2.get 2 _ rm rfl rfl) (by simp) ?_
    have W3 := W2.put (i := 2) rfl (.map (mapV ([] ++ [lowP L.length (at2 L)])))
    generalize Heap.set _ rm (AObj.map (mapV ([] ++ [lowP L.length (at2 L)]))) = h3 at W3 ⊢
    have W4 : PM0 h rt r1 rm L.length (leqV a) .nilsl .nilsl [lowP L.length (at2 L)] [] h3 := W3
    rw [ld1_fld (W4.get 1 _ r1 rfl rfl) rfl, tInt_int]
    refine s13l1_in (L.length + 1) (primes_l1 hf hn64 h1 (fun V h' S W' => ?_) L.length 0 (by omega) _ h3 ⟨fun z hz => .inl (List.mem_singleton.1 hz), List.mem_singleton.2 rfl, fun a b ha hb hab => by omega⟩ W4)
    exact s13l5_in (L.length + 1) (primes_l5 hf hn64 h1 AL (few e) (good e) S L.length 0 (by omega) .nilsl h' (W'.newN 1))
end Go.Proofs.YtljglglbfcgjpaaGreat

namespace Go.Proofs.YtljglglbfcgjpaaGreat
open Go Go.Sym Go.Proofs.Tryz
variable {K : AVal → Heap → Prop} {h h0 hb : Heap}
def Heads23 : Prop := ∀ {h' : Heap} {K : AVal → Heap → Prop}, K (.bool true) h' → ACalls prog 19 [] h' K
theorem headsRet (H : Heads23) (hk : ∀ h', K (.bool true) h') : callG prog 19 [] h fun v h' => tBool v fun b => retG (.bool b) h' K :=
  callG_of (H (by rw [tBool_bool]; exact retG_of (hk _)))
theorem ldN1 {h : Heap} {q : Nat} {a : AVal} (hq : h q = some (.row 1 [.agg [a]])) (X : List AVal → Prop) : ldN 1 h (.ptr q 0 0) X = X [a] := ldN_fld (n := 1) hq rfl X
end Go.Proofs.YtljglglbfcgjpaaGreat

namespace Go.Proofs.YtljglglbfcgjpaaGreat
open Go Go.Sym Go.Proofs.Tryz
variable {K : AVal → Heap → Prop} {h h0 hb : Heap}
/- ---------------- lists of truths; models without an order ---------------- -/
def allB : Nat → List (List Bool)
  | 0 => [[]]
  | n + 1 => (allB n).map (false :: ·) ++ (allB n).map (true :: ·)
theorem allB_len : ∀ n, ∀ l ∈ allB n, l.length = n
  | 0, l, h => by rw [List.mem_singleton.1 h]; rfl
  | n + 1, l, h => by
    rcases List.mem_append.1 h with h | h <;> obtain ⟨k, hk, rfl⟩ := List.mem_map.1 h <;> simp [allB_len n k hk]
theorem allB_size : ∀ n, (allB n).length = 2 ^ n
  | 0 => rfl
  | n + 1 => by
    unfold allB
    rw [List.length_append, List.length_map, List.length_map, allB_size n, Nat.pow_succ]
    omega
theorem allB_nodup : ∀ n, (allB n).Nodup
  | 0 => by simp [allB]
  | n + 1 => by
    unfold allB
    rw [List.nodup_append]
    have inj : ∀ b : Bool, ((allB n).map (b :: ·)).Nodup := fun b => by
      unfold List.Nodup
      rw [List.pairwise_map]
      exact (allB_nodup n).imp fun h e => h (List.cons.inj e).2
    refine ⟨inj false, inj true, fun a ha b hb e => ?_⟩
    obtain ⟨x, _, rfl⟩ := List.mem_map.1 ha
    obtain ⟨y, _, rfl⟩ := List.mem_map.1 hb
    cases (List.cons.inj e).1
theorem rising_nodup {n : Nat} {V : List (List Bool)} (h : Rising n V) : V.Nodup := h.imp fun {a b} h e => by
  subst e
  have := cmpD_swap a a n
  omega
theorem rising_unique {n : Nat} {V W : List (List Bool)} (h1 : Rising n V) (h2 : Rising n W) (hm : ∀ s, s ∈ V ↔ s ∈ W) : V = W := by
  refine List.Perm.eq_of_pairwise (le := fun a b => cmpD a b n < 0) (fun a b _ _ e1 e2 => ?_) h1 h2 ((List.perm_ext_iff_of_nodup (rising_nodup h1) (rising_nodup h2)).2 hm)
  have := cmpD_swap a b n
  omega
theorem step_flat {n a b : Nat} : ¬ Step (List.replicate n []) a b := by
  rintro ⟨r, h1, h2⟩
  rw [List.getElem?_replicate] at h1
  split at h1
  · cases h1; cases h2
  · cases h1
theorem reach_flat {n a b : Nat} (h : Reach (List.replicate n []) a b) : a = b := by
  cases h with
  | refl => rfl
  | tail _ hs => exact absurd hs step_flat
theorem wf_flat {n : Nat} (h1 : 1 ≤ n) (h2 : n ≤ 512) : WF (List.replicate n []) (List.replicate n []) where
  pos := by simpa using h1
  max := by simpa using h2
  len := by simp
  inR := fun r hr b hb => by rw [(List.mem_replicate.1 hr).2] at hb; cases hb
  fine := fun l hl => by rw [(List.mem_replicate.1 hl).2]; rfl
  cond a b _ _ h hne := absurd (reach_flat h) hne
theorem small_flat {n : Nat} (h2 : n ≤ 512) : Small (List.replicate n []) (List.replicate n []) :=
  ⟨by simp; omega, by simp; omega, fun r hr => by rw [(List.mem_replicate.1 hr).2]; simp, fun l hl => by rw [(List.mem_replicate.1 hl).2]; exact ⟨⟨by simp, by simp⟩, by simp⟩⟩
theorem closed_flat {n : Nat} {l : List Bool} (hl : l.length = n) : ClosedU (List.replicate n []) l := ⟨by simpa using hl, fun a b _ _ hab h => by rw [← reach_flat (rb_iff.1 hab)]; exact h⟩
theorem many_flat {V : List (List Bool)} (h : IsUps (List.replicate 7 []) V) : ¬ V.length ≤ 64 := fun hl => by
  have := List.Nodup.length_le_of_subset (allB_nodup 7) (fun s hs => (h.mem s).2 (closed_flat (allB_len 7 s hs)))
  rw [allB_size] at this
  omega
theorem all2_rep {α : Type} {R : AVal → α → Prop} {v : AVal} {x : α} (h : R v x) : ∀ n, All2 R (List.replicate n v) (List.replicate n x)
  | 0 => .nil
  | n + 1 => .cons h (all2_rep h n)
theorem upsFlat_ok (hk : K (.tuple [.agg [.nilsl], .nilsl, .int .i64 231]) h) : ACalls prog 6 [.agg [.lsl 1 (List.replicate 7 .nilsl), .lsl 1 (List.replicate 7 .nilsl)]] h K :=
  upsP_ok (up := List.replicate 7 []) (val := List.replicate 7 []) (small_flat (by decide)) ⟨_, .lsl _ _, all2_rep (.nil 1) 7⟩ ⟨_, .lsl _ _, all2_rep (.nil 1) 7⟩ (fun hb => absurd (wf_flat (by decide) (by decide)) hb) (fun _ _ => hk) fun _ V hV hl => absurd hl (many_flat hV)
/- ---------------- a model of two worlds ---------------- -/
def up2 : List (List Int) := [[1], []]
theorem step2 {a b : Nat} : Step up2 a b ↔ a = 0 ∧ b = 1 := by
  unfold Step up2
  constructor
  · rintro ⟨r, h1, h2⟩
    match a, h1 with
    | 0, h1 => cases h1; simp at h2; omega
    | 1, h1 => cases h1; cases h2
    | a + 2, h1 => simp at h1
  · rintro ⟨rfl, rfl⟩
    exact ⟨_, rfl, by simp⟩
theorem reach2 {a b : Nat} : Reach up2 a b ↔ a = b ∨ a = 0 ∧ b = 1 := by
  constructor
  · intro h
    induction h with
    | refl => exact .inl rfl
    | tail _ hs ih =>
      obtain ⟨rfl, rfl⟩ := step2.1 hs
      rcases ih with rfl | ⟨_, h⟩
      · exact .inr ⟨rfl, rfl⟩
      · cases h
  · rintro (rfl | ⟨rfl, rfl⟩)
    · exact .refl
    · exact .tail .refl (step2.2 ⟨rfl, rfl⟩)
theorem wf2 : WF up2 [[], []] where
  pos := by decide
  max := by decide
  len := rfl
  inR := fun r hr b hb => by
    simp [up2] at hr
    rcases hr with rfl | rfl
    · simp at hb; subst hb; decide
    · cases hb
  fine := fun l hl => by
    simp at hl
    subst hl; rfl
  cond a b ha hb h hne := by
    rcases reach2.1 h with e | ⟨rfl, rfl⟩
    · exact absurd e hne
    · refine ⟨fun h' => ?_, fun s hs => by cases hs⟩
      rcases reach2.1 h' with e | ⟨e, _⟩ <;> cases e
def E2 : List (List Bool) := [[false, false], [false, true], [true, true]]
theorem ups2 {V : List (List Bool)} (h : IsUps up2 V) : V = E2 := by
  refine rising_unique h.rise (by unfold Rising E2; decide) fun s => ?_
  rw [h.mem]
  constructor
  · intro C
    have hl : s.length = 2 := C.len
    match s, hl with
    | [a, b], _ =>
      have := C.cl 0 1 (by decide) (by decide) (rb_iff.2 (reach2.2 (.inr ⟨rfl, rfl⟩)))
      cases a <;> cases b <;> simp [E2] at this ⊢
  · intro hs
    refine ⟨?_, fun a b ha hb hab h => ?_⟩
    · simp [E2] at hs
      rcases hs with rfl | rfl | rfl <;> rfl
    · rcases reach2.1 (rb_iff.1 hab) with rfl | ⟨rfl, rfl⟩
      · exact h
      · simp [E2] at hs
        rcases hs with rfl | rfl | rfl
        · cases h
        · rfl
        · rfl
theorem ups2_ok (hk : ∀ a u, Intss u [[], [1], [0, 1]] → K (.tuple [.agg [a], u, .int .i64 0]) h) : ACalls prog 6 [.agg [.lsl 1 [.lsl 1 [.int .i64 1], .nilsl], .lsl 1 [.nilsl, .nilsl]]] h K := by
  refine upsP_ok (up := up2) (val := [[], []]) ⟨by decide, by decide, fun r hr => ?_, fun l hl => ?_⟩ ⟨_, .lsl _ _, .cons (.inl rfl) (.cons (.nil 1) .nil)⟩ ⟨_, .lsl _ _, .cons (.nil 1) (.cons (.nil 1) .nil)⟩ (fun hb => absurd wf2 hb) (fun _ hm => ?_) fun _ V hV _ a u _ hu => ?_
  · simp [up2] at hr
    rcases hr with rfl | rfl <;> simp
  · simp at hl
    subst hl
    exact ⟨⟨by simp, by simp⟩, by simp⟩
  · obtain ⟨V, h1, h2, h3⟩ := hm
    have := List.Nodup.length_le_of_subset h1 (l₂ := allB 2) fun s hs => by
      have hl : s.length = 2 := (h3 s hs).len
      match s, hl with
      | [a, b], _ => cases a <;> cases b <;> simp [allB]
    rw [h2, allB_size] at this
    omega
  · rw [ups2 hV] at hu
    exact hk a u hu
/- ---------------- chains ---------------- -/
theorem chain3_ok (good : ∀ a, AlgV a (chainL 3) → K (.tuple [.agg [a], .int .i64 0]) h) : ACalls prog 15 [.int .i64 3] h K := chainP_ok (n := 3) (by decide) (by decide) fun a ha => good a ⟨ha, by decide, by decide⟩
theorem chain2_ok (good : ∀ a, AlgV a (chainL 2) → K (.tuple [.agg [a], .int .i64 0]) h) : ACalls prog 15 [.int .i64 2] h K := chainP_ok (n := 2) (by decide) (by decide) fun a ha => good a ⟨ha, by decide, by decide⟩
theorem alg3 : algP (chainL 3) = true := by kernel_rfl
theorem alg2 : algP (chainL 2) = true := by kernel_rfl
theorem two10 : two (chainL 3) (im (chainL 3).length (at2 (chainL 3))) 1 0 = .tuple [.int .i64 0, .int .i64 0] := by kernel_rfl
theorem two01 : two (chainL 3) (im (chainL 3).length (at2 (chainL 3))) 0 1 = .tuple [.int .i64 2, .int .i64 0] := by kernel_rfl
theorem bool3 : boolP (chainL 3).length (at2 (chainL 3)) = false := by kernel_rfl
theorem bool2 : boolP (chainL 2).length (at2 (chainL 2)) = true := by kernel_rfl
theorem primes3 : primesL (chainL 3).length (at2 (chainL 3)) = [1, 2] := by kernel_rfl
theorem notAlg : lookE [[true, true, true], [false, true, false], [false, false, true]] [] = 230 := by kernel_rfl
theorem tidy3 : ∃ row, tidyUp (pUp (chainL 3).length (at2 (chainL 3))) = [row, [0]] := by
  have hl : (pUp (chainL 3).length (at2 (chainL 3))).length = 2 := by rw [pUp_len, primes3]; rfl
  have A := lat_of alg3
  have hp : (primesL (chainL 3).length (at2 (chainL 3))).length = 2 := by rw [primes3]; rfl
  have hr : ∀ a b, a < 2 → b < 2 → (rb (pUp (chainL 3).length (at2 (chainL 3))) a b = true ↔ b ≤ a) := fun a b ha hb => by
    rw [rb_iff, pReach A (by rw [hp]; exact ha), hp, primes3]
    match a, b, ha, hb with
    | 0, 0, _, _ => simp; decide
    | 0, 1, _, _ => simp; decide
    | 1, 0, _, _ => simp; decide
    | 1, 1, _, _ => simp; decide
  refine ⟨natI (tidyRow (pUp (chainL 3).length (at2 (chainL 3))) 0), ?_⟩
  unfold tidyUp
  rw [hl]
  show [_, natI (tidyRow _ 1)] = _
  have : tidyRow (pUp (chainL 3).length (at2 (chainL 3))) 1 = [0] := by
    unfold tidyRow
    rw [hl]
    have e10 : rb (pUp (chainL 3).length (at2 (chainL 3))) 1 0 = true := (hr 1 0 (by decide) (by decide)).2 (by decide)
    have c0 : coverB (pUp (chainL 3).length (at2 (chainL 3))) 1 0 = true := by
      unfold coverB startB
      rw [hl, e10]
      simp [okc, List.range_succ]
    have c1 : coverB (pUp (chainL 3).length (at2 (chainL 3))) 1 1 = false := by
      unfold coverB startB
      simp
    show ([0, 1] : List Nat).filter _ = _
    rw [List.filter_cons_of_pos c0, List.filter_cons_of_neg (by simp [c1])]
    rfl
  rw [this]
  rfl
/- ---------------- the tail of the heads ---------------- -/
def headTail (Ψ : AVal → Heap → Prop) (r r3 : Nat) (u : AVal) (hh : Heap) : Prop :=
  st false hh (.ptr r3 0 0) [.nilsl] fun h_18 =>
  ldN 1 h_18 (.ptr r 0 0) fun l_42 =>
  tCons l_42 fun v49 l_43 =>
  tNil l_43 (
  callG prog 13 [(.agg [v49])] h_18 fun v50 h_19 =>
  tTup v50 fun l_44 =>
  tCons l_44 fun v51 l_45 =>
  tCons l_45 fun v52 l_46 =>
  tCons l_46 fun v53 l_47 =>
  tInt .i64 v53 fun v54 =>
  tNil l_47 (
  tAgg v51 fun l_48 =>
  tCons l_48 fun v55 l_49 =>
  tCons l_49 fun v56 l_50 =>
  tNil l_50 (
  Sym.newRow 2 [(.agg [.nilsl, .nilsl])] h_19 fun r4 h_20 =>
  st false h_20 (.ptr r4 0 0) [v55, v56] fun h_21 =>
  ifT ((0 : Int) == 0) (
  ifT ((0 : Int) == 0) (
  ifT ((0 : Int) == 0) (
  ifT ((0 : Int) == 0) (
  ifT ((0 : Int) == 0) (
  ifT ((0 : Int) == 0) (
  ifT ((0 : Int) == 0) (
  ifT ((2 : Int) == 2) (
  ifT (!false) (
  ifT true (
  ifT ((0 : Int) == 0) (
  lenN u fun n =>
  ifT (n == 3) (
  ixS 1 u 1 fun p =>
  ld1 h_21 p fun v57 =>
  callG prog 18 [v57, (.lsl 1 [(.int .i64 1)])] h_21 fun v58 h_22 =>
  tBool v58 fun v59 =>
  ifT v59 (
  ifT ((231 : Int) == 231) (
  ifT (v54 == 0) (
  callG prog 18 [v52, (.lsl 1 [(.int .i64 1), (.int .i64 2)])] h_22 fun v60 h_23 =>
  tBool v60 fun v61 =>
  ifT v61 (
  ld1 h_23 (.ptr r4 0 0) fun v62 =>
  lenN v62 fun n1 =>
  ifT (n1 == 2) (
  ld1 h_23 (.ptr r4 0 0) fun v63 =>
  ixS 1 v63 1 fun p1 =>
  ld1 h_23 p1 fun v64 =>
  callG prog 18 [v64, (.lsl 1 [(.int .i64 0)])] h_23 fun v65 h_24 =>
  tBool v65 fun v66 =>
  ifT v66 (
  callG prog 45 [(.agg [(.lsl 1 [(.lsl 1 [(.bool true), (.bool true), (.bool true)]), (.lsl 1 [(.bool false), (.bool true), (.bool false)]), (.lsl 1 [(.bool false), (.bool false), (.bool true)])])])] h_24 fun v67 h_25 =>
  tInt .i64 v67 fun v68 =>
  retG (.bool (v68 == 230)) h_25 Ψ) (
  retG (.bool false) h_24 Ψ)) (
  retG (.bool false) h_23 Ψ)) (
  retG (.bool false) h_23 Ψ)) (
  retG (.bool false) h_22 Ψ)) (
  retG (.bool false) h_22 Ψ)) (
  retG (.bool false) h_22 Ψ)) (
  retG (.bool false) h_21 Ψ)) (
  retG (.bool false) h_21 Ψ)) (
  retG (.bool false) h_21 Ψ)) (
  retG (.bool false) h_21 Ψ)) (
  retG (.bool false) h_21 Ψ)) (
  retG (.bool false) h_21 Ψ)) (
  retG (.bool false) h_21 Ψ)) (
  retG (.bool false) h_21 Ψ)) (
  retG (.bool false) h_21 Ψ)) (
  retG (.bool false) h_21 Ψ)) (
  retG (.bool false) h_21 Ψ)) (
  retG (.bool false) h_21 Ψ))))
theorem headTail_ok {r r3 : Nat} {a u X : AVal} {os : List Ow} {hh : Heap} (A : AlgV a (chainL 3)) (hu : Intss u [[], [1], [0, 1]]) (W : Own h0 ([.cell r3 (.row 1 [.agg [X]]), .cell r (.row 1 [.agg [a]])] ++ os) hh) (hk : K (.bool true) h0) : headTail K r r3 u hh := by
  unfold headTail
  refine st_all (W.get 0 _ r3 rfl rfl) rfl ?_
  have W2 := W.put (i := 0) rfl (.row 1 [.agg [.nilsl]])
  generalize Heap.set hh r3 _ = h1 at W2 ⊢
  rw [ldN_fld (n := 1) (W2.get 1 _ r rfl rfl) rfl, tCons_cons, tNil_nil]
  obtain ⟨row, ht⟩ := tidy3
  refine callG_of (primesP_ok A (fun e => by rw [alg3] at e; cases e) (fun _ e => by rw [primes3] at e; cases e) fun _ _ vU vV ev hU hV he => ?_)
  rw [ht] at hU
  rw [primes3] at he
  rw [tTup_tuple, tCons_cons, tCons_cons, tCons_cons, tInt_int, tNil_nil, tAgg_agg, tCons_cons, tCons_cons, tNil_nil]
  refine newRow_in fun r4 hr4 => st_all (Heap.set_same _ _ _) rfl ?_
  rw [Heap.set_set]
  have hq := Heap.set_same h1 r4 (.row 2 [.agg [vU, vV]])
  have old : ∀ q o, h0 q = some o → (h1.set r4 (.row 2 [.agg [vU, vV]])) q = some o := fun q o e => Heap.set_sub hr4 q o (W2.old q o e)
  generalize Heap.set h1 r4 _ = h2 at hq old ⊢
  refine ifT_pos rfl (ifT_pos rfl (ifT_pos rfl (ifT_pos rfl (ifT_pos rfl (ifT_pos rfl (ifT_pos rfl (ifT_pos rfl (ifT_pos rfl (ifT_pos rfl (ifT_pos rfl ?_))))))))))
  rw [hu.len]
  refine ifT_pos rfl ?_
  obtain ⟨e1, he1, hix1⟩ := hu.ix (i := 1) (by decide)
  rw [show (1 : Int) = ((1 : Nat) : Int) from rfl, hix1, ld1_lptr]
  refine callG_of (ints_ok (la := [1]) (lb := [1]) he1 (.inl rfl) (by decide) ?_)
  rw [tBool_bool]
  refine ifT_pos rfl (ifT_pos rfl (ifT_pos rfl (callG_of (ints_ok (la := [1, 2]) (lb := [1, 2]) he (.inl rfl) (by decide) ?_))))
  rw [tBool_bool]
  refine ifT_pos rfl ?_
  rw [ld1_fld hq rfl, hU.len]
  refine ifT_pos rfl ?_
  rw [ld1_fld hq rfl]
  obtain ⟨e2, he2, hix2⟩ := hU.ix (i := 1) (by simp)
  rw [show ((1 : Nat) : Int) = (1 : Int) from rfl] at hix2 ⊢
  rw [hix2, ld1_lptr]
  refine callG_of (ints_ok (la := [0]) (lb := [0]) he2 (.inl rfl) (by decide) ?_)
  rw [tBool_bool]
  refine ifT_pos rfl (callG_of (checkH_ok (L := [[true, true, true], [false, true, false], [false, false, true]]) ⟨⟨_, .lsl _ _, .cons (.inl rfl) (.cons (.inl rfl) (.cons (.inl rfl) .nil))⟩, by decide, by decide⟩ ?_))
  rw [tInt_int, notAlg]
  exact retG_drop old hk
theorem heads_ok23 : Heads23 := by
  intro h K hk
  refine s19_ok ?_
  unfold s19
  refine callG_of (chain3_ok fun a A => ?_)
  rw [tTup_tuple, tCons_cons, tCons_cons, tInt_int, tNil_nil, tAgg_agg, tCons_cons, tNil_nil]
  refine newRow_in fun r hr => st_all (Heap.set_same _ _ _) rfl ?_
  have W1 := ((Own.start h).newC hr (.row 1 [.agg [.nilsl]])).put (i := 0) rfl (.row 1 [.agg [a]])
  generalize Heap.set (Heap.set h r _) r _ = h1 at W1 ⊢
  refine callG_of (chain2_ok fun b B => ?_)
  rw [tTup_tuple, tCons_cons, tCons_cons, tInt_int, tNil_nil, tAgg_agg, tCons_cons, tNil_nil]
  refine newRow_in fun r1 hr1 => st_all (Heap.set_same _ _ _) rfl ?_
  have W2 := (W1.newC hr1 (.row 1 [.agg [.nilsl]])).put (i := 1) rfl (.row 1 [.agg [b]])
  generalize Heap.set (Heap.set h1 r1 _) r1 _ = h2 at W2 ⊢
  rw [ldN1 (W2.get 0 _ r rfl rfl), tCons_cons, tNil_nil]
  refine callG_of (impP_ok A ?_)
  rw [two10, tTup_tuple, tCons_cons, tInt_int, tCons_cons, tInt_int, tNil_nil, ldN1 (W2.get 0 _ r rfl rfl), tCons_cons, tNil_nil]
  refine callG_of (impP_ok A ?_)
  rw [two01, tTup_tuple, tCons_cons, tInt_int, tCons_cons, tInt_int, tNil_nil, ldN1 (W2.get 0 _ r rfl rfl), tCons_cons, tNil_nil]
  refine callG_of (booleanP_ok A (fun e => by rw [alg3] at e; cases e) fun _ => ?_)
  rw [bool3, tTup_tuple, tCons_cons, tBool_bool, tCons_cons, tInt_int, tNil_nil, ldN1 (W2.get 1 _ r1 rfl rfl), tCons_cons, tNil_nil]
  refine callG_of (booleanP_ok B (fun e => by rw [alg2] at e; cases e) fun _ => ?_)
  rw [bool2, tTup_tuple, tCons_cons, tBool_bool, tCons_cons, tInt_int, tNil_nil]
  refine callG_of (ups2_ok fun c u hu => ?_)
  rw [tTup_tuple, tCons_cons, tCons_cons, tCons_cons, tInt_int, tNil_nil, tAgg_agg, tCons_cons, tNil_nil]
  refine newRow_in fun r2 hr2 => st_all (Heap.set_same _ _ _) rfl ?_
  have W3 := (W2.newC hr2 (.row 1 [.agg [.nilsl]])).put (i := 2) rfl (.row 1 [.agg [c]])
  generalize Heap.set (Heap.set h2 r2 _) r2 _ = h3 at W3 ⊢
  have mk : ∀ (hh : Heap) (X : AVal → Heap → Prop), X (.lsl 1 (List.replicate 7 .nilsl)) hh → mkS true 1 24 .nilsl hh 7 7 X := fun hh X hx => ⟨⟨by decide, by decide, by decide, by decide⟩, hx⟩
  have W4 : Own h ([.cell r (.row 1 [.agg [a]])] ++ [.cell r1 (.row 1 [.agg [b]]), .cell r2 (.row 1 [.agg [c]])]) h3 := W3
  have tail : ∀ r3 : Nat, h3 r3 = none → headTail K r r3 u (h3.set r3 (.row 1 [.agg [.nilsl]])) := fun r3 hr3 => by
    have W5 := W4.newC hr3 (.row 1 [.agg [.nilsl]])
    refine headTail_ok (X := .nilsl) (os := [.cell r1 (.row 1 [.agg [b]]), .cell r2 (.row 1 [.agg [c]])]) A hu (W5.renum _ (fun j => if j = 0 then 3 else if j = 1 then 0 else if j = 2 then 1 else 2) (fun j y hj => by
      match j, hj with
      | 0, hj => exact hj
      | 1, hj => exact hj
      | 2, hj => exact hj
      | 3, hj => exact hj
      | j + 4, hj => simp at hj) (show ∀ j, j < 4 → ∀ k, k < 4 → _ = _ → j = k by decide)) hk
  have calls : ∀ (hh : Heap) (X : AVal → Heap → Prop), X (.tuple [.agg [.nilsl], .nilsl, .int .i64 231]) hh → callG prog 6 [(.agg [.lsl 1 (List.replicate 7 .nilsl), .lsl 1 (List.replicate 7 .nilsl)])] hh X := fun hh X hx => callG_of (upsFlat_ok hx)
  refine ⟨⟨⟨?_, ?_⟩, ?_⟩, ?_, ?_, ?_⟩
  · refine mk _ _ (mk _ _ (chk_iff.2 ⟨rfl, chk_iff.2 ⟨rfl, _, calls _ _ ⟨rfl, rfl⟩, ?_⟩⟩))
    rw [tTup_tuple, tCons_cons, tCons_cons, tCons_cons, tInt_int, tNil_nil, tAgg_agg, tCons_cons, tNil_nil]
    exact newRow_in fun r3 hr3 => ⟨calls _ _ ⟨rfl, rfl⟩, tail r3 hr3⟩
  · refine mk _ _ (newRow_in fun r3 hr3 => mk _ _ (chk_iff.2 ⟨rfl, chk_iff.2 ⟨rfl, _, calls _ _ ⟨rfl, rfl⟩, ?_⟩⟩))
    rw [tTup_tuple, tCons_cons, tCons_cons, tCons_cons, tInt_int, tNil_nil, tAgg_agg, tCons_cons, tNil_nil]
    exact tail r3 hr3
  · refine newRow_in fun r3 hr3 => mk _ _ (mk _ _ (chk_iff.2 ⟨rfl, chk_iff.2 ⟨rfl, _, calls _ _ ⟨rfl, rfl⟩, ?_⟩⟩))
    rw [tTup_tuple, tCons_cons, tCons_cons, tCons_cons, tInt_int, tNil_nil, tAgg_agg, tCons_cons, tNil_nil]
    exact tail r3 hr3
  · refine mk _ _ (mk _ _ (chk_iff.2 ⟨rfl, chk_iff.2 ⟨rfl, _, calls _ _ ⟨rfl, rfl⟩, ?_⟩⟩))
    rw [tTup_tuple, tCons_cons, tCons_cons, tCons_cons, tInt_int, tNil_nil, tAgg_agg, tCons_cons, tNil_nil]
    exact newRow_in fun r3 hr3 => ⟨calls _ _ ⟨rfl, rfl⟩, tail r3 hr3⟩
  · refine mk _ _ (newRow_in fun r3 hr3 => mk _ _ (chk_iff.2 ⟨rfl, chk_iff.2 ⟨rfl, _, calls _ _ ⟨rfl, rfl⟩, ?_⟩⟩))
    rw [tTup_tuple, tCons_cons, tCons_cons, tCons_cons, tInt_int, tNil_nil, tAgg_agg, tCons_cons, tNil_nil]
    exact tail r3 hr3
  · refine newRow_in fun r3 hr3 => mk _ _ (mk _ _ (chk_iff.2 ⟨rfl, chk_iff.2 ⟨rfl, _, calls _ _ ⟨rfl, rfl⟩, ?_⟩⟩))
    rw [tTup_tuple, tCons_cons, tCons_cons, tCons_cons, tInt_int, tNil_nil, tAgg_agg, tCons_cons, tNil_nil]
    exact tail r3 hr3
end Go.Proofs.YtljglglbfcgjpaaGreat

namespace Go.Proofs.YtljglglbfcgjpaaGreat
open Go Go.Sym Go.Proofs.Tryz
variable {up : List (List Int)}
def blW (n : Nat) (s : BitVec 64) : List Bool := (List.range n).map fun i => s.getLsbD i
theorem blW_len {n : Nat} {s : BitVec 64} : (blW n s).length = n := by simp [blW]
theorem blW_get {n : Nat} {s : BitVec 64} {i : Nat} (hi : i < n) : (blW n s).getD i false = s.getLsbD i := by
  simp [blW, List.getD_eq_getElem?_getD, hi]
def fewW (n : Nat) (s : BitVec 64) : Prop := ∀ i, n ≤ i → s.getLsbD i = false
theorem blW_inj {n : Nat} {a b : BitVec 64} (ha : fewW n a) (hb : fewW n b) (h : blW n a = blW n b) : a = b := by
  apply BitVec.eq_of_getLsbD_eq
  intro i _
  by_cases hi : i < n
  · rw [← blW_get (s := a) hi, ← blW_get (s := b) hi, h]
  · rw [ha i (by omega), hb i (by omega)]
noncomputable def coneK (up : List (List Int)) (w : Nat) : Nat → BitVec 64
  | 0 => 0#64
  | k + 1 => if rb up w k then coneK up w k ||| (1#64 <<< k) else coneK up w k
theorem coneK_get {w : Nat} : ∀ {k : Nat}, k ≤ 64 → ∀ i, (coneK up w k).getLsbD i = (decide (i < k) && rb up w i)
  | 0, _, i => by simp [coneK]
  | k + 1, hk, i => by
    have ih := coneK_get (w := w) (k := k) (by omega) i
    unfold coneK
    cases e : rb up w k with
    | true =>
      rw [if_pos rfl, BitVec.getLsbD_or, ih, BitVec.getLsbD_shiftLeft, BitVec.getLsbD_one]
      by_cases h1 : i < k
      · simp [h1, show i < k + 1 by omega]
      · by_cases h2 : i = k
        · subst h2
          simp [e, show i < 64 by omega]
        · simp [h1, show ¬ i < k + 1 by omega, show ¬ (i - k = 0) by omega]
    | false =>
      rw [if_neg (by simp), ih]
      by_cases h1 : i < k
      · simp [h1, show i < k + 1 by omega]
      · by_cases h2 : i = k
        · subst h2; simp [e]
        · simp [h1, show ¬ i < k + 1 by omega]
noncomputable def coneW (up : List (List Int)) (w : Nat) : BitVec 64 := coneK up w up.length
theorem fewW_cone {w : Nat} (hn : up.length ≤ 64) : fewW up.length (coneW up w) := fun i hi => by
  unfold coneW
  rw [coneK_get hn, decide_eq_false (by omega), Bool.false_and]
theorem fewW_or {n : Nat} {a b : BitVec 64} (ha : fewW n a) (hb : fewW n b) : fewW n (a ||| b) := fun i hi => by
  rw [BitVec.getLsbD_or, ha i hi, hb i hi]; rfl
theorem fewW_zero (n : Nat) : fewW n 0#64 := fun i _ => by simp
theorem blW_zero (n : Nat) : blW n 0#64 = List.replicate n false := by
  refine ext_getD (by simp [blW]) fun i hi => ?_
  rw [blW_get (by simpa [blW] using hi), getD_rep]
  simp
theorem blW_cone {s : BitVec 64} {w : Nat} (hn : up.length ≤ 64) : blW up.length (s ||| coneW up w) = joinS (blW up.length s) (cone up w) := by
  refine ext_getD (by rw [joinS_len]; simp [blW]) fun i hi => ?_
  have hi : i < up.length := by simpa [blW] using hi
  rw [blW_get hi, joinS_get _ _ _ (by simpa [blW] using hi), blW_get hi, BitVec.getLsbD_or]
  unfold coneW
  rw [coneK_get hn, decide_eq_true hi, Bool.true_and]
  congr 1
  rw [Bool.eq_iff_iff, decide_eq_true_eq, mem_cone]
  exact ⟨fun h => ⟨hi, h⟩, fun h => h.2⟩
theorem cmp_mod (a b : BitVec 64) : ∀ d n, d ≤ n → (cmpD (blW n a) (blW n b) d < 0 ↔ a.toNat % 2 ^ d < b.toNat % 2 ^ d)
  | 0, n, _ => by simp [cmpD, Nat.mod_one]
  | d + 1, n, hd => by
    have ih := cmp_mod a b d n (by omega)
    unfold cmpD
    rw [blW_get (by omega), blW_get (by omega)]
    have bit : ∀ x : BitVec 64, x.toNat % 2 ^ (d + 1) = x.toNat % 2 ^ d + (if x.getLsbD d then 2 ^ d else 0) := fun x => by
      rw [Nat.pow_succ, Nat.mod_mul]
      show _ = _ + (if x.toNat.testBit d then _ else _)
      rw [Nat.testBit_eq_decide_div_mod_eq]
      have := Nat.mod_lt (x.toNat / 2 ^ d) (show 0 < 2 by omega)
      by_cases e : x.toNat / 2 ^ d % 2 = 1
      · rw [if_pos (decide_eq_true e), e, Nat.mul_one]
      · rw [if_neg (by simpa using e), show x.toNat / 2 ^ d % 2 = 0 by omega, Nat.mul_zero]
    rw [bit a, bit b]
    have l1 := Nat.mod_lt a.toNat (Nat.pos_of_ne_zero (show 2 ^ d ≠ 0 by simp))
    have l2 := Nat.mod_lt b.toNat (Nat.pos_of_ne_zero (show 2 ^ d ≠ 0 by simp))
    cases e1 : a.getLsbD d <;> cases e2 : b.getLsbD d <;> simp <;> first
      | exact ih
      | omega
theorem toNat_few {n : Nat} {a : BitVec 64} (ha : fewW n a) : a.toNat % 2 ^ n = a.toNat := by
  apply Nat.eq_of_testBit_eq
  intro i
  rw [Nat.testBit_mod_two_pow]
  by_cases hi : i < n
  · simp [hi]
  · rw [decide_eq_false hi, Bool.false_and]
    exact (ha i (by omega)).symm
theorem cmp_lt {n : Nat} {a b : BitVec 64} (ha : fewW n a) (hb : fewW n b) : cmpD (blW n a) (blW n b) n < 0 ↔ a.toNat < b.toNat := by
  rw [cmp_mod a b n n (Nat.le_refl _), toNat_few ha, toNat_few hb]
/- ---- the rows that the document goes through ---- -/
structure SetsI (up : List (List Int)) (w : Nat) (L : List (BitVec 64)) : Prop where
  nd : L.Nodup
  zero : 0#64 ∈ L
  few : ∀ s ∈ L, fewW up.length s
  cl : ∀ s ∈ L, ClosedU up (blW up.length s)
  grow : ∀ v, v < w → ∀ s ∈ L, s ||| coneW up v ∈ L
structure SetsJ (up : List (List Int)) (w : Nat) (L0 L : List (BitVec 64)) (i : Nat) : Prop where
  nd : L.Nodup
  few : ∀ s ∈ L, fewW up.length s
  cl : ∀ s ∈ L, ClosedU up (blW up.length s)
  sub : ∀ s ∈ L0, s ∈ L
  of : ∀ s ∈ L, s ∈ L0 ∨ ∃ t ∈ L0, s = t ||| coneW up w
  done : ∀ j, j < i → ∀ s, L[j]? = some s → s ||| coneW up w ∈ L
theorem SetsI.start : SetsI up 0 [0#64] where
  nd := by simp
  zero := by simp
  few s hs := by rw [List.mem_singleton.1 hs]; exact fewW_zero _
  cl s hs := by rw [List.mem_singleton.1 hs, blW_zero]; exact closed_none
  grow v hv := by omega
theorem SetsI.enter {w : Nat} {L : List (BitVec 64)} (I : SetsI up w L) : SetsJ up w L L 0 :=
  ⟨I.nd, I.few, I.cl, fun _ h => h, fun _ h => .inl h, fun j hj => by omega⟩
theorem or_idem (a b : BitVec 64) : a ||| b ||| b = a ||| b := by rw [BitVec.or_assoc, BitVec.or_self]
theorem or_swap (a b c : BitVec 64) : a ||| b ||| c = a ||| c ||| b := by rw [BitVec.or_assoc, BitVec.or_comm b c, ← BitVec.or_assoc]
theorem SetsJ.leave {w : Nat} {L0 L : List (BitVec 64)} (I : SetsI up w L0) (J : SetsJ up w L0 L L.length) : SetsI up (w + 1) L where
  nd := J.nd
  zero := J.sub _ I.zero
  few := J.few
  cl := J.cl
  grow v hv s hs := by
    have hw : ∀ s ∈ L, s ||| coneW up w ∈ L := fun s hs => by
      obtain ⟨j, hj, e⟩ := List.getElem_of_mem hs
      exact J.done j hj s (by rw [List.getElem?_eq_getElem hj, e])
    by_cases e : v = w
    · subst e; exact hw s hs
    · rcases J.of s hs with h | ⟨t, ht, rfl⟩
      · exact J.sub _ (I.grow v (by omega) s h)
      · rw [or_swap]
        exact hw _ (J.sub _ (I.grow v (by omega) t ht))
theorem SetsJ.old {w i : Nat} {L0 L : List (BitVec 64)} (J : SetsJ up w L0 L i) {s : BitVec 64} (hi : L[i]? = some s) (hm : s ||| coneW up w ∈ L) : SetsJ up w L0 L (i + 1) :=
  ⟨J.nd, J.few, J.cl, J.sub, J.of, fun j hj x hx => by
    by_cases e : j = i
    · subst e; rw [hi] at hx; cases hx; exact hm
    · exact J.done j (by omega) x hx⟩
theorem SetsJ.new {w i : Nat} {L0 L : List (BitVec 64)} (J : SetsJ up w L0 L i) (hn : up.length ≤ 64) {s : BitVec 64} (hi : L[i]? = some s) (hm : s ||| coneW up w ∉ L) : SetsJ up w L0 (L ++ [s ||| coneW up w]) (i + 1) := by
  have hs : s ∈ L := List.mem_of_getElem? hi
  have hil := (List.getElem?_eq_some_iff.1 hi).1
  refine ⟨?_, fun x hx => ?_, fun x hx => ?_, fun x hx => List.mem_append_left _ (J.sub x hx), fun x hx => ?_, fun j hj x hx => ?_⟩
  · rw [List.nodup_append]
    refine ⟨J.nd, by simp, fun a ha b hb e => ?_⟩
    rw [List.mem_singleton.1 hb] at e
    subst e; exact hm ha
  · rcases List.mem_append.1 hx with h | h
    · exact J.few x h
    · rw [List.mem_singleton.1 h]; exact fewW_or (J.few s hs) (fewW_cone hn)
  · rcases List.mem_append.1 hx with h | h
    · exact J.cl x h
    · rw [List.mem_singleton.1 h, blW_cone hn]; exact closed_join (J.cl s hs) w
  · rcases List.mem_append.1 hx with h | h
    · exact J.of x h
    · rw [List.mem_singleton.1 h]
      rcases J.of s hs with h2 | ⟨t, ht, rfl⟩
      · exact .inr ⟨s, h2, rfl⟩
      · exact .inr ⟨t, ht, or_idem _ _⟩
  · rw [List.getElem?_append_left (by omega)] at hx
    by_cases e : j = i
    · subst e; rw [hi] at hx; cases hx; simp
    · exact List.mem_append_left _ (J.done j (by omega) x hx)
theorem SetsI.all {L : List (BitVec 64)} (I : SetsI up up.length L) (hn : up.length ≤ 64) (l : List Bool) : l ∈ L.map (blW up.length) ↔ ClosedU up l := by
  constructor
  · rw [List.mem_map]
    rintro ⟨s, hs, rfl⟩
    exact I.cl s hs
  · refine fun C => all_closed ?_ ?_ C
    · rw [← blW_zero]; exact List.mem_map_of_mem I.zero
    · intro u hu c hc
      obtain ⟨s, hs, rfl⟩ := List.mem_map.1 hu
      rw [← blW_cone hn]
      exact List.mem_map_of_mem (I.grow c hc s hs)
theorem SetsJ.many {w i : Nat} {L0 L : List (BitVec 64)} (J : SetsJ up w L0 L i) (hl : 65 ≤ L.length) : Many up := by
  refine ⟨(L.map (blW up.length)).take 65, ?_, by simp; omega, fun s hs => ?_⟩
  · refine List.Nodup.sublist (List.take_sublist _ _) ?_
    unfold List.Nodup
    rw [List.pairwise_map]
    exact J.nd.imp_of_mem fun {a b} ha hb hne e => hne (blW_inj (J.few a ha) (J.few b hb) e)
  · obtain ⟨x, hx, rfl⟩ := List.mem_map.1 (List.mem_of_mem_take hs)
    exact J.cl x hx
theorem isUps_words {L M : List (BitVec 64)} (I : SetsI up up.length L) (hn : up.length ≤ 64) (hp : M.Perm L) (hs : M.Pairwise fun a b => a.toNat ≤ b.toNat) : IsUps up (M.map (blW up.length)) where
  rise := by
    unfold Rising
    rw [List.pairwise_map]
    have hnd : M.Nodup := hp.nodup_iff.2 I.nd
    refine (hs.and hnd).imp_of_mem fun {a b} ha hb h => ?_
    rw [cmp_lt (I.few a (hp.mem_iff.1 ha)) (I.few b (hp.mem_iff.1 hb))]
    have : a.toNat ≠ b.toNat := fun e => h.2 (BitVec.eq_of_toNat_eq e)
    omega
  mem l := by
    rw [← I.all hn l]
    exact (hp.map _).mem_iff
theorem isUps_unique {V W : List (List Bool)} (h1 : IsUps up V) (h2 : IsUps up W) : V = W := rising_unique h1.rise h2.rise fun s => (h1.mem s).trans (h2.mem s).symm
end Go.Proofs.YtljglglbfcgjpaaGreat

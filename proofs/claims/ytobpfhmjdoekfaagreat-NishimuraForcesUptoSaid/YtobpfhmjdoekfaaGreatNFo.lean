/- Contracts: names that rise; is a name, a number among some? (the program) No condition. Plain: who is above whom; a search for all that is above. No condition. Plain: which models are well-formed. No condition. Contracts: who is above whom, by the program (worlds). No condition. Contracts: which models are well-formed, by the program (worlds). No condition. Plain: a map as a set; a measure. No condition. Plain: what is above each world; rows that are done. No condition. Contracts: a copy of a model. No condition. Contracts: the same models. No condition. Contracts: the ladder's worlds, the program's Model. No condition. Contracts: the program's order (force): a search with a queue. No condition. Contracts: the program's order (force), whole. No condition. What an eye knows: a memo of truths; where a formula is forced; a look for one with a memory. No condition. Contracts: an eye's forces. No condition. Contracts: an eye's forces, whole. No condition. Contracts: a look at a model; the worlds that force a formula (the program). No condition. Plain: in the ladder's model a world forces a formula just if its rung has the world. No condition. NishimuraForces over its inputs. No condition. -/
import Derived.Test.YtobpfhmjdoekfaaGreatNTab
import Derived.Test.YtobpfhmjdoekfaaGreatM5
import Derived.Test.YtobpfhmjdoekfaaGreatNP
import Derived.Test.YtobpfhmjdoekfaaGreatNRun
import Derived.Test.YtobpfhmjdoekfaaGreatNLad
import Derived.Test.YtobpfhmjdoekfaaGreatNDoc

set_option linter.unusedVariables false
set_option linter.unusedSimpArgs false

namespace Go.Proofs.YtobpfhmjdoekfaaGreat
open Go Go.Sym Go.Proofs.Tryz

variable {K : AVal → Heap → Prop} {h : Heap}


def fine1 (l : List ByteArray) (i : Nat) : Bool := wordB (l.getD i ByteArray.empty) && (i == 0 || strLt (l.getD (i - 1) ByteArray.empty) (l.getD i ByteArray.empty))
/-- names that rise -/
def fineB (l : List ByteArray) : Bool := (List.range' 0 l.length).all (fine1 l)

def inS (l : List ByteArray) (s : ByteArray) : Bool := l.any fun x => decide (x = s)
theorem inS_iff {l : List ByteArray} {s : ByteArray} : inS l s = true ↔ s ∈ l := by
  unfold inS
  rw [List.any_eq_true]
  constructor
  · rintro ⟨x, hx, he⟩; rwa [← of_decide_eq_true he]
  · exact fun hx => ⟨s, hx, decide_eq_true rfl⟩

theorem idxS_loop {v : AVal} {l : List ByteArray} {s : ByteArray} (hv : Strs v l) (hm : l.length ≤ 1073741824) (hk : ∀ n : Int, (0 ≤ n ↔ s ∈ l) → K (.int .i64 n) h) : ∀ d i : Nat, i + d = l.length → s ∉ l.take i →
    s108l1 K (d + 1) v s (l.length : Int) (i : Int) h
  | 0, i, hd, hn => by
    unfold s108l1
    refine ifT_neg (by simp; omega) (retG_of (hk _ ?_))
    rw [List.take_of_length_le (by omega)] at hn
    simp [hn]
  | d + 1, i, hd, hn => by
    have hi : i < l.length := by omega
    unfold s108l1
    refine ifT_pos (by simp; omega) ?_
    rw [hv.ix hi, ld1_lptr, tStr_str, strEq_dec]
    by_cases he : s = l[i]
    · exact ifT_pos (by simpa using he) (retG_of (hk _ ⟨fun _ => he ▸ List.getElem_mem hi, fun _ => by omega⟩))
    · refine ifT_neg (by simpa using he) (rg_of (by omega) (by omega) (s108l1_go (idxS_loop hv hm hk d (i + 1) (by omega) ?_)))
      rw [List.take_succ_eq_append_getElem hi]
      intro hx
      rcases List.mem_append.1 hx with hx | hx
      · exact hn hx
      · exact he (List.mem_singleton.1 hx)
theorem containsS_ok {v : AVal} {l : List ByteArray} {s : ByteArray} (hv : Strs v l) (hm : l.length ≤ 1073741824) (hk : K (.bool (inS l s)) h) : ACalls prog 95 [v, .str s] h K := by
  refine s95_ok (callG_of (s108_ok ?_))
  unfold s108
  rw [hv.len]
  refine s108l1_in (l.length + 1) (idxS_loop hv hm (fun n hn => ?_) l.length 0 (by omega) (by simp))
  rw [tInt_int]
  refine retG_of ?_
  rwa [show decide (0 ≤ n) = inS l s by rw [Bool.eq_iff_iff, inS_iff]; simpa using hn]

theorem idxFS_loop {v f : AVal} {l : List ByteArray} {p : ByteArray → Bool} (hv : Strs v l) (hm : l.length ≤ 1073741824)
    (hf : ∀ s ∈ l, ∀ K : AVal → Heap → Prop, K (.bool (p s)) h → callV prog f [.str s] h K) (hk : ∀ n : Int, (0 ≤ n ↔ ∃ s ∈ l, p s = true) → K (.int .i64 n) h) : ∀ d i : Nat, i + d = l.length → (∀ s ∈ l.take i, p s = false) →
    s151l1 K (d + 1) v f (l.length : Int) (i : Int) h
  | 0, i, hd, hn => by
    unfold s151l1
    refine ifT_neg (by simp; omega) (retG_of (hk _ ?_))
    rw [List.take_of_length_le (by omega)] at hn
    constructor
    · intro h0; omega
    · rintro ⟨s, hs, hp⟩; rw [hn s hs] at hp; cases hp
  | d + 1, i, hd, hn => by
    have hi : i < l.length := by omega
    unfold s151l1
    refine ifT_pos (by simp; omega) ?_
    rw [hv.ix hi, ld1_lptr, tStr_str]
    refine hf _ (List.getElem_mem hi) _ ?_
    rw [tBool_bool]
    cases he : p l[i] with
    | true => exact ifT_pos rfl (retG_of (hk _ ⟨fun _ => ⟨_, List.getElem_mem hi, he⟩, fun _ => by omega⟩))
    | false =>
      refine ifT_neg rfl (rg_of (by omega) (by omega) (s151l1_go (idxFS_loop hv hm hf hk d (i + 1) (by omega) ?_)))
      rw [List.take_succ_eq_append_getElem hi]
      intro s hs
      rcases List.mem_append.1 hs with hs | hs
      · exact hn s hs
      · simp at hs; rw [hs, he]
theorem containsFS_ok {v f : AVal} {l : List ByteArray} {p : ByteArray → Bool} (hv : Strs v l) (hm : l.length ≤ 1073741824)
    (hf : ∀ s ∈ l, ∀ K : AVal → Heap → Prop, K (.bool (p s)) h → callV prog f [.str s] h K) (hk : K (.bool (l.any p)) h) : ACalls prog 146 [v, f] h K := by
  refine s146_ok (callG_of (s151_ok ?_))
  unfold s151
  rw [hv.len]
  refine s151l1_in (l.length + 1) (idxFS_loop hv hm hf (fun n hn => ?_) l.length 0 (by omega) (by simp))
  rw [tInt_int]
  refine retG_of ?_
  rwa [show decide (0 ≤ n) = l.any p by rw [Bool.eq_iff_iff]; simpa using hn]

theorem idxFI_loop {v f : AVal} {l : List Int} {p : Int → Bool} (hv : Ints v l) (hm : l.length ≤ 1073741824)
    (hf : ∀ s ∈ l, ∀ K : AVal → Heap → Prop, K (.bool (p s)) h → callV prog f [.int .i64 s] h K) (hk : ∀ n : Int, (0 ≤ n ↔ ∃ s ∈ l, p s = true) → K (.int .i64 n) h) : ∀ d i : Nat, i + d = l.length → (∀ s ∈ l.take i, p s = false) →
    s109l1 K (d + 1) v f (l.length : Int) (i : Int) h
  | 0, i, hd, hn => by
    unfold s109l1
    refine ifT_neg (by simp; omega) (retG_of (hk _ ?_))
    rw [List.take_of_length_le (by omega)] at hn
    constructor
    · intro h0; omega
    · rintro ⟨s, hs, hp⟩; rw [hn s hs] at hp; cases hp
  | d + 1, i, hd, hn => by
    have hi : i < l.length := by omega
    unfold s109l1
    refine ifT_pos (by simp; omega) ?_
    rw [hv.ix hi, ld1_lptr, tInt_int]
    refine hf _ (List.getElem_mem hi) _ ?_
    rw [tBool_bool]
    cases he : p l[i] with
    | true => exact ifT_pos rfl (retG_of (hk _ ⟨fun _ => ⟨_, List.getElem_mem hi, he⟩, fun _ => by omega⟩))
    | false =>
      refine ifT_neg rfl (rg_of (by omega) (by omega) (s109l1_go (idxFI_loop hv hm hf hk d (i + 1) (by omega) ?_)))
      rw [List.take_succ_eq_append_getElem hi]
      intro s hs
      rcases List.mem_append.1 hs with hs | hs
      · exact hn s hs
      · simp at hs; rw [hs, he]
theorem containsFI_ok {v f : AVal} {l : List Int} {p : Int → Bool} (hv : Ints v l) (hm : l.length ≤ 1073741824)
    (hf : ∀ s ∈ l, ∀ K : AVal → Heap → Prop, K (.bool (p s)) h → callV prog f [.int .i64 s] h K) (hk : K (.bool (l.any p)) h) : ACalls prog 96 [v, f] h K := by
  refine s96_ok (callG_of (s109_ok ?_))
  unfold s109
  rw [hv.len]
  refine s109l1_in (l.length + 1) (idxFI_loop hv hm hf (fun n hn => ?_) l.length 0 (by omega) (by simp))
  rw [tInt_int]
  refine retG_of ?_
  rwa [show decide (0 ≤ n) = l.any p by rw [Bool.eq_iff_iff]; simpa using hn]

theorem getD_of {l : List ByteArray} {i : Nat} (hi : i < l.length) : l.getD i ByteArray.empty = l[i] := by simp [List.getD, hi]

theorem rising_loop {v : AVal} {l : List ByteArray} (hv : Strs v l) (hm : SB l) : ∀ d i : Nat, i + d = l.length → K (.bool ((List.range' i d).all (fine1 l))) h → s145l1 K (d + 1) v v (l.length : Int) (i : Int) h
  | 0, i, hd, hk => by
    unfold s145l1
    exact ifT_neg (by simp; omega) (retG_of (by simpa using hk))
  | d + 1, i, hd, hk => by
    have hi : i < l.length := by omega
    have hl := hm.1
    unfold s145l1
    refine ifT_pos (by simp; omega) ?_
    rw [hv.ix hi, ld1_lptr, tStr_str]
    refine callG_of (word_ok _ (hm.2 _ (List.getElem_mem hi)) ?_)
    rw [tBool_bool]
    rw [List.range'_succ, List.all_cons] at hk
    have rest : fine1 l i = true → s145c2 K (s145l1_G (s145l1 K (d + 1))) v v l.length i false h := by
      intro hg
      rw [hg] at hk
      exact ifT_neg rfl (rg_of (by omega) (by omega) (s145l1_go (rising_loop hv hm d (i + 1) (by omega) (by simpa using hk))))
    have stop : fine1 l i = false → s145c2 K (s145l1_G (s145l1 K (d + 1))) v v l.length i true h := by
      intro hg
      rw [hg] at hk
      exact ifT_pos rfl (retG_of (by simpa using hk))
    unfold fine1 at rest stop
    rw [getD_of hi] at rest stop
    cases hw : wordB l[i] with
    | false => exact ifT_pos rfl (stop (by rw [hw]; rfl))
    | true =>
      rw [hw, Bool.true_and] at rest stop
      refine ifT_neg rfl ?_
      by_cases h0 : 0 < i
      · refine ifT_pos (by simp; omega) (rg_of (by omega) (by omega) ?_)
        have hi1 : i - 1 < l.length := by omega
        rw [show (i : Int) - 1 = ((i - 1 : Nat) : Int) by omega, hv.ix hi1, ld1_lptr, tStr_str]
        rw [getD_of hi1, show (i == 0) = false by simp; omega, Bool.false_or] at rest stop
        cases hs : strLt l[i - 1] l[i] with
        | true => exact rest hs
        | false => exact stop hs
      · obtain rfl : i = 0 := by omega
        exact ifT_neg (by simp) (rest (by simp))
theorem rising_ok {v : AVal} {l : List ByteArray} (hv : Strs v l) (hm : SB l) (hk : K (.bool (fineB l)) h) : ACalls prog 145 [v] h K := by
  refine s145_ok ?_
  unfold s145
  rw [hv.len]
  exact s145l1_in (l.length + 1) (rising_loop hv hm l.length 0 (by omega) hk)
end Go.Proofs.YtobpfhmjdoekfaaGreat

namespace Go.Proofs.YtobpfhmjdoekfaaGreat
open Go Go.Sym Go.Proofs.Tryz

variable {K : AVal → Heap → Prop}

def Step (up : List (List Int)) (a b : Nat) : Prop := ∃ r, up[a]? = some r ∧ (b : Int) ∈ r
/-- b is above a -/
inductive Reach (up : List (List Int)) (a : Nat) : Nat → Prop
  | refl : Reach up a a
  | tail {b c : Nat} (h : Reach up a b) (hs : Step up b c) : Reach up a c
theorem Reach.trans {up : List (List Int)} {a b c : Nat} (h : Reach up a b) (h' : Reach up b c) : Reach up a c := by
  induction h' with
  | refl => exact h
  | tail _ hs ih => exact .tail ih hs
/-- all numbers are worlds -/
def InR (up : List (List Int)) : Prop := ∀ r ∈ up, ∀ b ∈ r, 0 ≤ b ∧ b < up.length
theorem Reach.lt {up : List (List Int)} (hi : InR up) {a b : Nat} (h : Reach up a b) (ha : a < up.length) : b < up.length := by
  cases h with
  | refl => exact ha
  | tail _ hs =>
    obtain ⟨r, hr, hb⟩ := hs
    have := hi r (List.mem_of_getElem? hr) _ hb
    omega
open Classical in
noncomputable def rb (up : List (List Int)) (a b : Nat) : Bool := decide (Reach up a b)
theorem rb_iff {up : List (List Int)} {a b : Nat} : rb up a b = true ↔ Reach up a b := by unfold rb; simp
noncomputable def rowB (up : List (List Int)) (a : Nat) : List Bool := (List.range up.length).map (rb up a)
/-- a table of the order -/
def OTab (v : AVal) (up : List (List Int)) : Prop := ∃ rows, SlOf 1 v rows ∧ rows.length = up.length ∧ ∀ a, a < up.length → ∃ e, rows[a]? = some e ∧ e.isAgg = false ∧ SlOf 1 e ((rowB up a).map .bool)
theorem OTab.len {v : AVal} {up : List (List Int)} (h : OTab v up) (K : Int → Prop) : lenN v K = K up.length := by
  obtain ⟨rows, h1, h2, _⟩ := h
  rw [lenN_of h1, h2]
theorem cells_of_notAgg {e : AVal} (h : e.isAgg = false) : cellsOf e = [e] := by cases e <;> first | rfl | cases h
theorem OTab.row {v : AVal} {up : List (List Int)} (h : OTab v up) {a : Nat} (ha : a < up.length) {h' : Heap} : ∃ e, (∀ K : AVal → Prop, (ixS 1 v (a : Int) fun p => ld1 h' p K) = K e) ∧
    (∀ K : Int → Prop, lenN e K = K up.length) ∧ ∀ b, b < up.length → ∀ K : AVal → Prop, (ixS 1 e (b : Int) fun p => ld1 h' p K) = K (.bool (rb up a b)) := by
  obtain ⟨rows, h1, h2, h3⟩ := h
  obtain ⟨e, he, hn, hr⟩ := h3 a ha
  refine ⟨e, fun K => ?_, fun K => ?_, fun b hb K => ?_⟩
  · rw [ixS_nat h1 he, cells_of_notAgg hn, ld1_lptr]
  · rw [lenN_of hr]; simp [rowB]
  · rw [ixS_nat hr (e := .bool (rb up a b)) (by simp [rowB, hb])]; rfl

/- ---------------- a search for all that is above ---------------- -/
structure BF (up : List (List Int)) (a : Nat) (marks : List Bool) (W : List Nat) : Prop where
  len : marks.length = up.length
  cnt : W.length + marks.count false = up.length
  reach : ∀ x ∈ W, x < up.length ∧ Reach up a x
  mkd : ∀ x, marks[x]? = some true ↔ x ∈ W

theorem BF.add {up : List (List Int)} {a b : Nat} {marks : List Bool} {W : List Nat} (B : BF up a marks W) (hb : marks[b]? = some false) (hr : Reach up a b) : BF up a (marks.set b true) (W ++ [b]) := by
  have hlt : b < marks.length := (List.getElem?_eq_some_iff.1 hb).1
  have hget : marks[b] = false := (List.getElem?_eq_some_iff.1 hb).2
  have hpos : 0 < marks.count false := List.count_pos_iff.2 (hget ▸ List.getElem_mem hlt)
  refine ⟨by simp [B.len], ?_, fun x hx => ?_, fun x => ?_⟩
  · have := List.count_set (a := true) (b := false) hlt
    rw [hget] at this
    simp only [List.length_append, List.length_singleton]
    have h2 := B.cnt
    rw [this]
    simp
    omega
  · rcases List.mem_append.1 hx with hx | hx
    · exact B.reach x hx
    · rw [List.mem_singleton.1 hx]; exact ⟨by rw [← B.len]; exact hlt, hr⟩
  · rw [List.getElem?_set]
    by_cases e : b = x
    · subst e; simp [hlt]
    · simp [e, B.mkd x, Ne.symm e]

theorem BF.start {up : List (List Int)} {a : Nat} (ha : a < up.length) : BF up a ((List.replicate up.length false).set a true) [a] := by
  have hr : (List.replicate up.length false)[a]? = some false := by simp [ha]
  have hlt : a < (List.replicate up.length false).length := by simpa using ha
  refine ⟨by simp, ?_, fun x hx => ?_, fun x => ?_⟩
  · rw [List.count_set hlt]; simp; omega
  · rw [List.mem_singleton.1 hx]; exact ⟨ha, .refl⟩
  · rw [List.getElem?_set]
    by_cases e : a = x
    · subst e; simp [ha]
    · simp only [if_neg e, List.mem_singleton]
      constructor
      · intro h; simp [List.getElem?_replicate] at h
      · intro h; exact absurd h.symm e

/-- when all are looked at, the marks are the order's row -/
theorem BF.done {up : List (List Int)} {a : Nat} {marks : List Bool} {W : List Nat} (B : BF up a marks W) (ha : a ∈ W) (hcl : ∀ x ∈ W, ∀ c, Step up x c → marks[c]? = some true) : marks = rowB up a := by
  have hall : ∀ c, Reach up a c → c ∈ W := by
    intro c hc
    induction hc with
    | refl => exact ha
    | tail _ hs ih => exact (B.mkd _).1 (hcl _ ih _ hs)
  apply List.ext_getElem?
  intro b
  unfold rowB
  rw [List.getElem?_map]
  by_cases hb : b < up.length
  · rw [List.getElem?_range hb, Option.map_some]
    have hlt : b < marks.length := by rw [B.len]; exact hb
    rw [List.getElem?_eq_getElem hlt]
    congr 1
    have h1 := B.mkd b
    rw [List.getElem?_eq_getElem hlt] at h1
    rw [Bool.eq_iff_iff, rb_iff]
    constructor
    · intro e; exact (B.reach b (h1.1 (by rw [e]))).2
    · intro hr; simpa using h1.2 (hall b hr)
  · rw [List.getElem?_eq_none (by have := B.len; omega), List.getElem?_eq_none (by simpa using hb)]; rfl

def natV (W : List Nat) : List AVal := W.map fun (x : Nat) => .int .i64 (x : Int)

/-- the memory of the search: the table, the row, around what waits -/
structure OM (h0 : Heap) (ro ra a n : Nat) (R : List AVal) (marks : List Bool) (hb : Heap) : Prop where
  ho : h0 ro = none
  ha : h0 ra = none
  ne : ra ≠ ro
  hb : hb = (h0.set ro (.row 1 R)).set ra (.row 1 (marks.map .bool))
  at_ : R[a]? = some (.sl ra 1 0 n)
  len : R.length = n
theorem OM.get_o {h0 hb : Heap} {ro ra a n : Nat} {R : List AVal} {marks : List Bool} (M : OM h0 ro ra a n R marks hb) : hb ro = some (.row 1 R) := by
  rw [M.hb, Heap.set_ne _ _ M.ne.symm, Heap.set_same]
theorem OM.get_a {h0 hb : Heap} {ro ra a n : Nat} {R : List AVal} {marks : List Bool} (M : OM h0 ro ra a n R marks hb) : hb ra = some (.row 1 (marks.map .bool)) := by
  rw [M.hb, Heap.set_same]
theorem OM.old {h0 hb : Heap} {ro ra a n : Nat} {R : List AVal} {marks : List Bool} (M : OM h0 ro ra a n R marks hb) {q : Nat} {o : AObj} (hq : h0 q = some o) : hb q = some o := by
  rw [M.hb, Heap.set_ne _ _ (fun e => by subst e; rw [M.ha] at hq; cases hq), Heap.set_ne _ _ (fun e => by subst e; rw [M.ho] at hq; cases hq)]
  exact hq
theorem OM.put {h0 hb : Heap} {ro ra a n : Nat} {R : List AVal} {marks marks' : List Bool} (M : OM h0 ro ra a n R marks hb) : OM h0 ro ra a n R marks' (hb.set ra (.row 1 (marks'.map .bool))) :=
  ⟨M.ho, M.ha, M.ne, by rw [M.hb, Heap.set_set], M.at_, M.len⟩

theorem natV_len (W : List Nat) : (natV W).length = W.length := by simp [natV]
theorem natV_get {W : List Nat} {i x : Nat} (h : W[i]? = some x) : (natV W)[i]? = some (.int .i64 (x : Int)) := by simp [natV, h]
theorem natV_app (W : List Nat) (b : Nat) : natV (W ++ [b]) = natV W ++ [.int .i64 (b : Int)] := by simp [natV]

structure TU (up : List (List Int)) (a : Nat) (R : List AVal) : Prop where
  len : R.length = up.length
  done : ∀ a', a' < a → ∃ e, R[a']? = some e ∧ e.isAgg = false ∧ SlOf 1 e ((rowB up a').map .bool)
  rest : ∀ a', a' < up.length → ∃ e, R[a']? = some e ∧ e.isAgg = false

end Go.Proofs.YtobpfhmjdoekfaaGreat

namespace Go.Proofs.YtobpfhmjdoekfaaGreat
open Go Go.Sym Go.Proofs.Tryz

variable {K : AVal → Heap → Prop} {h : Heap} {up : List (List Int)} {val : List (List ByteArray)} {mU mV : AVal}

/-- what is asked of a world and one above it -/
def Cond (up : List (List Int)) (val : List (List ByteArray)) (a b : Nat) : Prop := Reach up a b → a ≠ b → ¬ Reach up b a ∧ ∀ s ∈ val.getD a [], s ∈ val.getD b []
/-- a well-formed model -/
structure WF (up : List (List Int)) (val : List (List ByteArray)) : Prop where
  pos : 1 ≤ up.length
  max : up.length ≤ 512
  len : val.length = up.length
  inR : InR up
  fine : ∀ l ∈ val, fineB l = true
  cond : ∀ a b, a < up.length → b < up.length → Cond up val a b
theorem getD_val {a : Nat} (ha : a < val.length) : val.getD a [] = val[a] := by simp [List.getD, ha]

end Go.Proofs.YtobpfhmjdoekfaaGreat

namespace Go.Proofs.YtobpfhmjdoekfaaGreat
open Go Go.Sym Go.Proofs.Tryz

variable {K : AVal → Heap → Prop}

/-- the function value that tells the order -/
def LeqF (f : AVal) (up : List (List Int)) : Prop := ∃ o, f = .func (.func 150) [] [.lptr [o]] ∧ OTab o up
theorem leq_call {f : AVal} {up : List (List Int)} {h : Heap} (hf : LeqF f up) {a b : Nat} (ha : a < up.length) (hb : b < up.length) (hk : K (.bool (rb up a b)) h) : callV prog f [.int .i64 a, .int .i64 b] h K := by
  obtain ⟨o, rfl, hO⟩ := hf
  show callG prog 150 ([] ++ [.int .i64 a, .int .i64 b] ++ [.lptr [o]]) h K
  refine callG_of (s150_ok ?_)
  unfold s150
  obtain ⟨e, hrow, _, hix⟩ := hO.row (h' := h) ha
  rw [ld1_lptr, hrow, hix b hb, tBool_bool]
  exact retG_of hk

theorem BF.perm {up : List (List Int)} {a : Nat} {marks : List Bool} {W W' : List Nat} (B : BF up a marks W) (hl : W'.length = W.length) (hm : ∀ x, x ∈ W' ↔ x ∈ W) : BF up a marks W' :=
  ⟨B.len, by rw [hl]; exact B.cnt, fun x hx => B.reach x ((hm x).1 hx), fun x => (B.mkd x).trans (hm x).symm⟩

section
variable {h0 h00 : Heap} {up : List (List Int)} {ro ra a : Nat} {R : List AVal}

theorem reckon_l3 (hn : up.length ≤ 1073741824) (bad : ¬ InR up → K (.tuple [.nilfunc, .bool false]) h00) (hsub : ∀ q o, h00 q = some o → h0 q = some o)
    {L1 : AVal → Int → AVal → Int → Int → Heap → Prop} {L2 : AVal → Int → AVal → AVal → AVal → Int → Int → Heap → Prop} {m row abv : AVal} {r : List Int} {x : Nat} {t18 t19 : Int} (hrow : Ints row r) (hr : r.length ≤ 1073741824)
    (hx : up[x]? = some r) (hax : Reach up a x) {marks0 : List Bool} {D : List Nat}
    (hL : ∀ marks S st hb h, BF up a marks (D ++ S) → OM h0 ro ra a up.length R marks hb → Stk 1 hb st (natV S) h → (∀ y : Nat, marks0[y]? = some true → marks[y]? = some true) →
      (∀ b ∈ r, 0 ≤ b ∧ b < up.length ∧ marks[b.toNat]? = some true) → L2 m up.length abv (.sl ra 1 0 up.length) st t18 t19 h) :
    ∀ d k : Nat, k + d = r.length → ∀ marks S st hb h, BF up a marks (D ++ S) → OM h0 ro ra a up.length R marks hb → Stk 1 hb st (natV S) h → (∀ y : Nat, marks0[y]? = some true → marks[y]? = some true) →
      (∀ b ∈ r.take k, 0 ≤ b ∧ b < up.length ∧ marks[b.toNat]? = some true) → s144l3 K L1 L2 (d + 1) m up.length abv (.sl ra 1 0 up.length) st t18 t19 row r.length (k : Int) h
  | 0, k, hd, marks, S, st, hb, h, B, M, g, hmono, hdone => by
    unfold s144l3
    refine ifT_neg (by simp; omega) (hL marks S st hb h B M g hmono ?_)
    rwa [List.take_of_length_le (by omega)] at hdone
  | d + 1, k, hd, marks, S, st, hb, h, B, M, g, hmono, hdone => by
    have hk : k < r.length := by omega
    unfold s144l3
    refine ifT_pos (by simp; omega) ?_
    rw [hrow.ix hk, ld1_lptr, tInt_int]
    have key : s144c5 K L1 L2 (s144l3_G (s144l3 K L1 L2 (d + 1))) m up.length abv (.sl ra 1 0 up.length) st r[k] t18 t19 row r.length k (decide (r[k] < 0) || decide ((up.length : Int) ≤ r[k])) h := by
      by_cases hbad : r[k] < 0 ∨ (up.length : Int) ≤ r[k]
      · refine ifT_pos (by simpa using hbad) (retG_drop (fun q o hq => g.old (M.old (hsub q o hq))) (bad fun hI => ?_))
        have := hI r (List.mem_of_getElem? hx) r[k] (List.getElem_mem hk)
        omega
      · refine ifT_neg (by simpa using hbad) ?_
        obtain ⟨b, hbk⟩ : ∃ b : Nat, r[k] = (b : Int) := ⟨r[k].toNat, by omega⟩
        have hbn : b < up.length := by omega
        rw [hbk]
        have hbm : b < marks.length := by rw [B.len]; exact hbn
        refine ixS_sl0 hbn ?_
        rw [ld1_ptr (g.old M.get_a) (e := .bool marks[b]) (by simp [hbm]) rfl, tBool_bool]
        have hstep : Reach up a b := .tail hax ⟨r, hx, by rw [← hbk]; exact List.getElem_mem hk⟩
        have next : ∀ marks' S' st' hb' h', BF up a marks' (D ++ S') → OM h0 ro ra a up.length R marks' hb' → Stk 1 hb' st' (natV S') h' → (∀ y : Nat, marks[y]? = some true → marks'[y]? = some true) → marks'[b]? = some true →
            s144c4 K L1 L2 (s144l3_G (s144l3 K L1 L2 (d + 1))) m up.length abv (.sl ra 1 0 up.length) st' t18 t19 row r.length k h' := by
          intro marks' S' st' hb' h' B' M' g' hm' hmb
          refine rg_of (by omega) (by omega) (s144l3_go (reckon_l3 hn bad hsub hrow hr hx hax hL d (k + 1) (by omega) marks' S' st' hb' h' B' M' g' (fun y hy => hm' y (hmono y hy)) ?_))
          rw [List.take_succ_eq_append_getElem hk]
          intro c hc
          rcases List.mem_append.1 hc with hc | hc
          · obtain ⟨h1, h2, h3⟩ := hdone c hc
            exact ⟨h1, h2, hm' _ h3⟩
          · rw [List.mem_singleton.1 hc, hbk]
            exact ⟨by omega, by omega, by simpa using hmb⟩
        cases hmk : marks[b] with
        | true => exact ifT_neg rfl (next marks S st hb h B M g (fun _ hy => hy) (by rw [List.getElem?_eq_getElem hbm, hmk]))
        | false =>
          refine ifT_pos rfl (ixS_sl0 hbn (st_elem (g.old M.get_a) (e := .bool marks[b]) (by simp [hbm]) rfl ?_))
          rw [show (marks.map AVal.bool).set b (.bool true) = (marks.set b true).map .bool by rw [List.map_set]]
          have B' := B.add (b := b) (by rw [List.getElem?_eq_getElem hbm, hmk]) hstep
          have g' := g.upd (x := .row 1 ((marks.set b true).map .bool)) M.get_a
          have hcnt := B'.cnt
          rw [List.append_assoc] at B' hcnt
          have hlen : (D ++ S).length + 1 ≤ up.length := by simp only [List.length_append, List.length_singleton] at hcnt ⊢; omega
          have hlen2 : S.length + 1 ≤ up.length := by simp only [List.length_append] at hlen; omega
          refine appC_stk g' (by rw [natV_len]; omega) (by rw [natV_len]; omega) fun v' h' g2 => ?_
          rw [← natV_app] at g2
          refine next _ (S ++ [b]) v' _ h' B' M.put g2 (fun y hy => ?_) (by simp [hbm])
          rw [List.getElem?_set]
          by_cases e : b = y
          · subst e; simp [hbm]
          · rw [if_neg e]; exact hy
    by_cases h0' : r[k] < 0
    · refine ifT_pos (by simpa using h0') ?_
      rwa [show (decide (r[k] < 0) || decide ((up.length : Int) ≤ r[k])) = true by simp [h0']] at key
    · refine ifT_neg (by simpa using h0') ?_
      rwa [show (decide (r[k] < 0) || decide ((up.length : Int) ≤ r[k])) = decide ((up.length : Int) ≤ r[k]) by simp [h0']] at key

theorem reckon_l2 (hn : up.length ≤ 1073741824) (hrl : ∀ r ∈ up, r.length ≤ 1073741824) (bad : ¬ InR up → K (.tuple [.nilfunc, .bool false]) h00) (hsub : ∀ q o, h00 q = some o → h0 q = some o)
    {L1 : AVal → Int → AVal → Int → Int → Heap → Prop} {mU mV abv : AVal} {t18 : Int} (hU : Intss mU up) (han : a < up.length)
    (hL : ∀ st hb h, OM h0 ro ra a up.length R (rowB up a) hb → Stk 1 hb st [] h → (∀ b ∈ up[a], 0 ≤ b ∧ b < up.length) → L1 (.lptr [mU, mV]) up.length abv t18 (a + 1) h) :
    ∀ d : Nat, ∀ marks D S st hb h, D.length + d = up.length → (a ∈ D ++ S) → BF up a marks (D ++ S) → OM h0 ro ra a up.length R marks hb → Stk 1 hb st (natV S) h →
      (∀ y ∈ D, ∀ r, up[y]? = some r → ∀ b ∈ r, 0 ≤ b ∧ b < up.length ∧ marks[b.toNat]? = some true) →
      s144l2 K L1 (d + 1) (.lptr [mU, mV]) up.length abv (.sl ra 1 0 up.length) st t18 (a : Int) h := by
  intro d
  have fin : ∀ marks D st hb h d, a ∈ D → BF up a marks D → OM h0 ro ra a up.length R marks hb → Stk 1 hb st (natV []) h →
      (∀ y ∈ D, ∀ r, up[y]? = some r → ∀ b ∈ r, 0 ≤ b ∧ b < up.length ∧ marks[b.toNat]? = some true) →
      s144l2 K L1 (d + 1) (.lptr [mU, mV]) up.length abv (.sl ra 1 0 up.length) st t18 (a : Int) h := by
    intro marks D st hb h d haD B M g hcl
    unfold s144l2
    rw [g.len]
    refine ifT_neg (by simp [natV]) (rg_of (by omega) (by omega) ?_)
    have hm := B.done haD fun y hy c ⟨r, hr, hc⟩ => by
      have := (hcl y hy r hr _ hc).2.2
      simpa using this
    rw [hm] at M
    exact hL st hb h M g fun b hb => by
      have h1 := hcl a haD _ (List.getElem?_eq_getElem han) b hb
      exact ⟨h1.1, h1.2.1⟩
  induction d with
  | zero =>
    intro marks D S st hb h hd haD B M g hcl
    have hS : S = [] := by
      have := B.cnt
      simp only [List.length_append] at this
      exact List.eq_nil_of_length_eq_zero (by omega)
    subst hS
    rw [List.append_nil] at B haD
    exact fin marks D st hb h 0 haD B M g hcl
  | succ d ih =>
    intro marks D S st hb h hd haD B M g hcl
    rcases List.eq_nil_or_concat S with rfl | ⟨S', x, rfl⟩
    · rw [List.append_nil] at B haD
      exact fin marks D st hb h (d + 1) haD B M g hcl
    · have hcnt := B.cnt
      simp only [List.length_append, List.length_singleton, List.concat_eq_append] at hcnt
      rw [List.concat_eq_append] at B g haD
      unfold s144l2
      rw [g.len, natV_len]
      refine ifT_pos (by simp) ?_
      rw [g.len, natV_len]
      refine rg_of (by simp only [List.length_append, List.length_singleton]; omega) (by simp only [List.length_append, List.length_singleton]; omega) ?_
      have hlen1 : (((S' ++ [x]).length : Nat) : Int) - 1 = (S'.length : Nat) := by simp
      rw [hlen1]
      refine g.ix (e := .int .i64 (x : Int)) (by rw [natV_app, List.getElem?_append_right (by rw [natV_len]; omega), natV_len]; simp) rfl ?_
      rw [tInt_int, g.len, natV_len, hlen1]
      refine rg_of (by omega) (by omega) ?_
      rw [natV_app] at g
      refine g.pop (by rw [natV_len]) fun st' g' => ?_
      rw [addOff_lptr]
      simp only [List.drop_zero, ld1_lptr]
      obtain ⟨hxn, hxr⟩ := B.reach x (by simp)
      obtain ⟨e, he, hix⟩ := hU.ix hxn
      rw [hix, ld1_lptr, he.len]
      have hup : up[x]? = some up[x] := List.getElem?_eq_getElem hxn
      refine s144l3_in (up[x].length + 1) ?_
      have B1 : BF up a marks ((D ++ [x]) ++ S') := B.perm (by simp only [List.length_append, List.length_singleton]; omega) (by intro y; simp; constructor <;> (rintro (h | h | h) <;> simp [h]))
      refine reckon_l3 (D := D ++ [x]) (marks0 := marks) hn bad hsub he (hrl _ (List.getElem_mem hxn)) hup hxr (fun marks' S2 st2 hb2 h2 B2 M2 g2 hmono hr' => ?_) _ 0 (by omega) marks S' st' hb h B1 M g' (fun _ hy => hy) (by simp)
      refine s144l2_go (ih marks' (D ++ [x]) S2 st2 hb2 h2 (by simp; omega) ?_ B2 M2 g2 ?_)
      · exact (B2.mkd a).1 (hmono a ((B.mkd a).2 haD))
      · intro y hy r hr b hb
        rcases List.mem_append.1 hy with hy | hy
        · obtain ⟨h1, h2, h3⟩ := hcl y hy r hr b hb
          exact ⟨h1, h2, hmono _ h3⟩
        · rw [List.mem_singleton.1 hy, hup] at hr
          cases hr
          exact hr' b hb
end

section
variable {h00 : Heap} {up : List (List Int)} {ro rbx : Nat}

theorem reckon_l1 (hn : up.length ≤ 1073741824) (hrl : ∀ r ∈ up, r.length ≤ 1073741824) (bad : ¬ InR up → K (.tuple [.nilfunc, .bool false]) h00) (good : InR up → ∀ f, LeqF f up → K (.tuple [f, .bool true]) h00)
    {mU mV : AVal} (hU : Intss mU up) (ho : h00 ro = none) (hx : h00 rbx = none) (hne : rbx ≠ ro) : ∀ d a : Nat, a + d = up.length → ∀ R, TU up a R → (∀ a' r, a' < a → up[a']? = some r → ∀ b ∈ r, 0 ≤ b ∧ b < up.length) →
      s144l1 K (d + 1) (.lptr [mU, mV]) up.length (.ptr rbx 0 0) up.length (a : Int) ((h00.set rbx (.row 1 [.sl ro 1 0 up.length])).set ro (.row 1 R))
  | 0, a, hd, R, T, hr => by
    unfold s144l1
    refine ifT_neg (by simp; omega) ?_
    have hbx : ((h00.set rbx (.row 1 [.sl ro 1 0 up.length])).set ro (.row 1 R)) rbx = some (.row 1 [.sl ro 1 0 up.length]) := by rw [Heap.set_ne _ _ hne, Heap.set_same]
    refine ⟨fun q => q = ro ∨ q = rbx, .tuple [.func (.func 150) [] [.lptr [.lsl 1 R]], .bool true], h00,
      .tuple (.cons (.func .nil (.cons (.ptr (.inr rfl) hbx rfl (.cons (.whole (.inl rfl) (Heap.set_same _ _ _) T.len.symm) .nil)) .nil)) (.cons (.refl _) .nil)),
      ⟨fun _ _ => trivial, fun q o hq => ⟨o, ?_, ?_, .refl o⟩⟩, ?_⟩
    · have h1 : q ≠ rbx := fun e => by rw [e, hx] at hq; cases hq
      have h2 : q ≠ ro := fun e => by rw [e, ho] at hq; cases hq
      rw [Heap.set_ne _ _ h2, Heap.set_ne _ _ h1]; exact hq
    · rintro (e | e)
      · rw [e, ho] at hq; cases hq
      · rw [e, hx] at hq; cases hq
    · refine good (fun r hrm b hb => ?_) _ ⟨.lsl 1 R, rfl, R, .lsl 1 R, T.len, fun a' ha' => T.done a' (by omega)⟩
      obtain ⟨j, hj, rfl⟩ := List.mem_iff_getElem.1 hrm
      exact hr j _ (by omega) (List.getElem?_eq_getElem hj) b hb
  | d + 1, a, hd, R, T, hr => by
    have han : a < up.length := by omega
    have ho1 : (h00.set rbx (.row 1 [.sl ro 1 0 up.length])) ro = none := by rw [Heap.set_ne _ _ hne.symm]; exact ho
    unfold s144l1
    refine ifT_pos (by simp; omega) (mkS_own (by omega) (by omega) fun ra hra => ?_)
    have hne2 : ra ≠ ro := fun e => by rw [e, Heap.set_same] at hra; cases hra
    have hne3 : ra ≠ rbx := fun e => by rw [e, Heap.set_ne _ _ hne, Heap.set_same] at hra; cases hra
    have ha0 : (h00.set rbx (.row 1 [.sl ro 1 0 up.length])) ra = none := by rwa [Heap.set_ne _ _ hne2] at hra
    obtain ⟨e0, he0, hagg0⟩ := T.rest a han
    rw [ld1_one (es := 1) (e := .sl ro 1 0 up.length) (by rw [Heap.set_ne _ _ hne3.symm, Heap.set_ne _ _ hne, Heap.set_same]) rfl]
    refine ixS_sl0 han (chk_iff.2 ⟨rfl, ?_⟩)
    refine st_elem (es := 1) (elems := R) (by rw [Heap.set_ne _ _ hne2.symm, Heap.set_same]) he0 hagg0 ?_
    refine ixS_sl0 han ?_
    have hRa : (R.set a (.sl ra 1 0 up.length))[a]? = some (.sl ra 1 0 up.length) := by rw [List.getElem?_set_self]; rw [T.len]; exact han
    refine st_elem (es := 1) (elems := List.replicate up.length (.bool false)) (e := .bool false) (by rw [Heap.set_ne _ _ hne2, Heap.set_same]) (by simp [han]) rfl ?_
    rw [show (List.replicate up.length (AVal.bool false)).set a (.bool true) = ((List.replicate up.length false).set a true).map .bool by rw [List.map_set, List.map_replicate]]
    refine newRow_in fun r hrn => ?_
    have M : OM (h00.set rbx (.row 1 [.sl ro 1 0 up.length])) ro ra a up.length (R.set a (.sl ra 1 0 up.length)) ((List.replicate up.length false).set a true)
        (((((h00.set rbx (.row 1 [.sl ro 1 0 up.length])).set ro (.row 1 R)).set ra (.row 1 (List.replicate up.length (.bool false)))).set ro (.row 1 (R.set a (.sl ra 1 0 up.length)))).set ra (.row 1 (((List.replicate up.length false).set a true).map .bool))) := by
      refine ⟨ho1, ha0, hne2, ?_, hRa, by simp [T.len]⟩
      funext q
      by_cases h1 : q = ra
      · simp [Heap.set, h1]
      · by_cases h2 : q = ro
        · subst h2; simp [Heap.set, h1]
        · simp [Heap.set, h1, h2]
    refine s144l2_in (up.length + 1) ?_
    refine reckon_l2 (ra := ra) (R := R.set a (.sl ra 1 0 up.length)) hn hrl bad (Heap.set_sub hx) hU han (fun st hb h M' g hra' => ?_) up.length _ [] [a] _ _ _ (by simp) (by simp) (by simpa using BF.start han) M
      (by have := Stk.own (es := 1) (l := natV [a]) (junk := []) hrn; simpa [natV] using this) (by simp)
    refine ⟨fun q => q = ra, _, (h00.set rbx (.row 1 [.sl ro 1 0 up.length])).set ro (.row 1 ((R.set a (.sl ra 1 0 up.length)).set a (.lsl 1 ((rowB up a).map .bool)))), Lits.refl _, GStep.row (g.old M'.get_o) hne2 ha0 (fun q o hq => g.old (M'.old hq)) hRa
      (.whole rfl (g.old M'.get_a) (by simp [rowB])), rfl, ?_⟩
    rw [List.set_set]
    have := reckon_l1 (mV := mV) hn hrl bad good hU ho hx hne d (a + 1) (by omega) (R.set a (.lsl 1 ((rowB up a).map .bool))) ⟨by simp [T.len], fun a' ha' => ?_, fun a' ha' => ?_⟩ (fun a' r ha' hr' => ?_)
    · exact this
    · by_cases e : a' = a
      · subst e
        exact ⟨_, List.getElem?_set_self (by rw [T.len]; exact han), rfl, .lsl 1 _⟩
      · rw [List.getElem?_set_ne (Ne.symm e)]
        exact T.done a' (by omega)
    · by_cases e : a' = a
      · subst e
        exact ⟨_, List.getElem?_set_self (by rw [T.len]; exact han), rfl⟩
      · rw [List.getElem?_set_ne (Ne.symm e)]
        exact T.rest a' ha'
    · by_cases e : a' = a
      · subst e
        rw [List.getElem?_eq_getElem han] at hr'
        cases hr'
        exact hra'
      · exact hr a' r (by omega) hr'

theorem reckon_ok {mU mV : AVal} {h : Heap} (hn : up.length ≤ 1048576) (hrl : ∀ r ∈ up, r.length ≤ 1073741824) (hU : Intss mU up) (bad : ¬ InR up → K (.tuple [.nilfunc, .bool false]) h) (good : InR up → ∀ f, LeqF f up → K (.tuple [f, .bool true]) h) :
    ACalls prog 144 [.agg [mU, mV]] h K := by
  refine s144_ok ?_
  unfold s144
  rw [hU.len]
  refine mkS_own (by omega) (by omega) fun ro hro => newRow_in fun rbx hrbx => chk_iff.2 ⟨rfl, ?_⟩
  have hne : rbx ≠ ro := fun e => by rw [e, Heap.set_same] at hrbx; cases hrbx
  have hx : h rbx = none := by rwa [Heap.set_ne _ _ hne] at hrbx
  refine st_elem (Heap.set_same _ _ _) rfl rfl ?_
  rw [show [AVal.nilsl].set 0 (.sl ro 1 0 up.length) = [.sl ro 1 0 up.length] from rfl, ld1_one (Heap.set_same _ _ _) rfl, lenN_sl]
  refine s144l1_in (up.length + 1) ?_
  have he : (((h.set ro (.row 1 (List.replicate up.length .nilsl))).set rbx (.row 1 [.nilsl])).set rbx (.row 1 [.sl ro 1 0 up.length])) =
      (h.set rbx (.row 1 [.sl ro 1 0 up.length])).set ro (.row 1 (List.replicate up.length .nilsl)) := by
    rw [Heap.set_set, Heap.set_comm _ _ _ hne]
  rw [he]
  exact reckon_l1 (by omega) hrl bad good hU hro hx hne up.length 0 (by omega) _ ⟨by simp, by intro a' ha'; omega, fun a' ha' => ⟨.nilsl, by simp [ha'], rfl⟩⟩ (by intro a' r ha'; omega)
end
end Go.Proofs.YtobpfhmjdoekfaaGreat

namespace Go.Proofs.YtobpfhmjdoekfaaGreat
open Go Go.Sym Go.Proofs.Tryz

variable {K : AVal → Heap → Prop} {h : Heap} {up : List (List Int)} {val : List (List ByteArray)} {mU mV : AVal}

/-- the names of a world lack one -/
theorem lacks_call {l : List ByteArray} {e : AVal} {r b : Nat} (hV : Strss mV val) (S : Small up val) (hb : b < val.length) {h : Heap} (hr : h r = some (.row 1 [.int .i64 (b : Int)])) (s : ByteArray) (K : AVal → Heap → Prop)
    (hk : K (.bool (!inS val[b] s)) h) : callV prog (.func (.func 147) [] [.lptr [mU, mV], .ptr r 0 0]) [.str s] h K := by
  show callG prog 147 ([] ++ [.str s] ++ [.lptr [mU, mV], .ptr r 0 0]) h K
  refine callG_of (s147_ok ?_)
  unfold s147
  obtain ⟨eb, heb, hix⟩ := hV.ix hb
  rw [addOff_lptr]
  simp only [List.drop_succ_cons, List.drop_zero, ld1_lptr]
  rw [ld1_one hr rfl, tInt_int, hix, ld1_lptr]
  refine callG_of (containsS_ok heb ((S.names _ (List.getElem_mem hb)).1).1 ?_)
  rw [tBool_bool]
  exact retG_of hk

theorem looked_l3 (S : Small up val) (hV : Strss mV val) {f : AVal} (hF : LeqF f up) (hl : val.length = up.length) (hn : up.length ≤ 512) {a : Nat} (ha : a < up.length) {ea : AVal} (hea : Strs ea (val[a]'(by omega)))
    (bad : ¬ WF up val → K (.tuple [.nilfunc, .bool false]) h) {L2 : AVal → Int → AVal → AVal → Int → Int → Heap → Prop} {t34 : AVal} {t35 : Int} (hL : (∀ b, b < up.length → Cond up val a b) → L2 (.lptr [mU, mV]) up.length f t34 t35 (a + 1) h) :
    ∀ d b : Nat, b + d = up.length → (∀ b', b' < b → Cond up val a b') → s133l3 K L2 (d + 1) (.lptr [mU, mV]) up.length f a ea t34 t35 a up.length (b : Int) h := by
  intro d
  induction d with
  | zero =>
    intro b hd hk
    unfold s133l3
    exact ifT_neg (by simp; omega) (rg_of (by omega) (by omega) (hL fun b' hb' => hk b' (by omega)))
  | succ d ih =>
    intro b hd hk
    have hb : b < up.length := by omega
    unfold s133l3
    refine ifT_pos (by simp; omega) (newRow_in fun r hr => ?_)
    refine st_elem (Heap.set_same _ _ _) rfl rfl ?_
    rw [show [AVal.int .i64 0].set 0 (.int .i64 (b : Int)) = [.int .i64 (b : Int)] from rfl, Heap.set_set, ld1_one (Heap.set_same _ _ _) rfl, tInt_int]
    have next : Cond up val a b → s133c4 K L2 (s133l3_G (s133l3 K L2 (d + 1))) (.lptr [mU, mV]) up.length f a ea t34 t35 a up.length b (h.set r (.row 1 [.int .i64 (b : Int)])) := by
      intro hc
      refine rg_of (by omega) (by omega) ⟨_, _, h, Lits.refl _, GStep.drop (Heap.set_sub hr), rfl, ?_⟩
      have := ih (b + 1) (by omega) fun b' hb' => by
        by_cases e : b' = b
        · rw [e]; exact hc
        · exact hk b' (by omega)
      exact this
    have stop : ¬ WF up val → retG (.tuple [.nilfunc, .bool false]) (h.set r (.row 1 [.int .i64 (b : Int)])) K := fun hW => retG_drop (Heap.set_sub hr) (bad hW)
    by_cases hab : a = b
    · refine ifT_pos (by simp [hab]) (ifT_pos rfl (next fun _ hne => absurd hab hne))
    · refine ifT_neg (by simp; omega) ?_
      rw [ld1_one (Heap.set_same _ _ _) rfl, tInt_int]
      refine leq_call hF ha hb ?_
      rw [tBool_bool]
      cases hr1 : rb up a b with
      | false => exact ifT_pos rfl (next fun hR => by rw [rb_iff.2 hR] at hr1; cases hr1)
      | true =>
        refine ifT_neg rfl ?_
        rw [ld1_one (Heap.set_same _ _ _) rfl, tInt_int]
        refine leq_call hF hb ha ?_
        rw [tBool_bool]
        cases hr2 : rb up b a with
        | true => exact ifT_pos rfl (ifT_pos rfl (stop fun W => (W.cond a b ha hb (rb_iff.1 hr1) hab).1 (rb_iff.1 hr2)))
        | false =>
          have hva : a < val.length := by omega
          have hvb : b < val.length := by omega
          refine ifT_neg rfl (callG_of (containsFS_ok (p := fun s => !inS val[b] s) hea ((S.names _ (List.getElem_mem hva)).1).1 (fun s _ K' hk' => lacks_call (l := val[a]) (e := ea) hV S hvb (Heap.set_same _ _ _) s K' hk') ?_))
          rw [tBool_bool]
          cases hany : val[a].any fun s => !inS val[b] s with
          | true =>
            refine ifT_pos rfl (stop fun W => ?_)
            obtain ⟨s, hs, hn'⟩ := List.any_eq_true.1 hany
            have := (W.cond a b ha hb (rb_iff.1 hr1) hab).2
            rw [getD_val hva, getD_val hvb] at this
            rw [inS_iff.2 (this s hs)] at hn'
            cases hn'
          | false =>
            refine ifT_neg rfl (next fun _ _ => ⟨(fun e => by rw [rb_iff.2 e] at hr2; cases hr2), ?_⟩)
            rw [getD_val hva, getD_val hvb]
            intro s hs
            have := List.any_eq_false.1 hany s hs
            exact inS_iff.1 (by simpa using this)

theorem looked_l2 (S : Small up val) (hU : Intss mU up) (hV : Strss mV val) {f : AVal} (hF : LeqF f up) (hl : val.length = up.length) (hn : up.length ≤ 512)
    (bad : ¬ WF up val → K (.tuple [.nilfunc, .bool false]) h) (good : (∀ l ∈ val, fineB l = true) → (∀ a b, a < up.length → b < up.length → Cond up val a b) → K (.tuple [f, .bool true]) h) :
    ∀ d a : Nat, a + d = up.length → (∀ l ∈ val.take a, fineB l = true) → (∀ a' b, a' < a → b < up.length → Cond up val a' b) → s133l2 K (d + 1) (.lptr [mU, mV]) up.length f mV up.length (a : Int) h := by
  intro d
  induction d with
  | zero =>
    intro a hd hk hc
    unfold s133l2
    rw [List.take_of_length_le (by omega)] at hk
    exact ifT_neg (by simp; omega) (retG_of (good hk fun a' b ha' hb' => hc a' b (by omega) hb'))
  | succ d ih =>
    intro a hd hk hc
    have ha : a < val.length := by omega
    obtain ⟨ea, hea, hixa⟩ := hV.ix ha
    unfold s133l2
    refine ifT_pos (by simp; omega) ?_
    rw [hixa, ld1_lptr]
    refine callG_of (rising_ok hea (S.names _ (List.getElem_mem ha)).1 ?_)
    rw [tBool_bool]
    cases hf : fineB val[a] with
    | false =>
      refine ifT_pos rfl (retG_of (bad fun W => ?_))
      have := W.fine _ (List.getElem_mem ha)
      rw [hf] at this; cases this
    | true =>
      refine ifT_neg rfl (s133l3_in (up.length + 1) ?_)
      refine looked_l3 S hV hF hl hn (by omega) hea bad (fun hca => s133l2_go (ih (a + 1) (by omega) ?_ fun a' b ha' hb' => ?_)) up.length 0 (by omega) (by intro b' hb'; omega)
      · rw [List.take_succ_eq_append_getElem ha]
        intro l hl'
        rcases List.mem_append.1 hl' with hl' | hl'
        · exact hk l hl'
        · rw [List.mem_singleton.1 hl']; exact hf
      · by_cases e : a' = a
        · rw [e]; exact hca b hb'
        · exact hc a' b (by omega) hb'

theorem looked_ok (S : Small up val) (hU : Intss mU up) (hV : Strss mV val) (bad : ¬ WF up val → K (.tuple [.nilfunc, .bool false]) h) (good : WF up val → ∀ f, LeqF f up → K (.tuple [f, .bool true]) h) :
    ACalls prog 133 [.agg [mU, mV]] h K := by
  refine s133_ok ?_
  have hup := S.ups
  unfold s133
  rw [hU.len]
  by_cases h1 : up.length < 1
  · exact ifT_pos (by simp; omega) (ifT_pos rfl (retG_of (bad fun W => by have := W.pos; omega)))
  · refine ifT_neg (by simp; omega) ?_
    by_cases h2 : 512 < up.length
    · exact ifT_pos (by simp; omega) (ifT_pos rfl (retG_of (bad fun W => by have := W.max; omega)))
    · refine ifT_neg (by simp; omega) ?_
      rw [hV.len]
      by_cases h3 : val.length = up.length
      · refine ifT_neg (by simp [h3]) ?_
        rw [ldN_agg2, tCons_cons, tCons_cons, tNil_nil]
        refine callG_of (reckon_ok hup (fun r hr => by have := S.row r hr; omega) hU (fun hI => ?_) fun hI f hF => ?_)
        · simp only [tTup_tuple, tCons_cons, tBool_bool, tNil_nil]
          exact ifT_pos rfl (retG_of (bad fun W => hI W.inR))
        · simp only [tTup_tuple, tCons_cons, tBool_bool, tNil_nil]
          refine ifT_neg rfl ?_
          rw [addOff_lptr]
          simp only [List.drop_succ_cons, List.drop_zero, ld1_lptr]
          rw [hV.len, h3]
          exact s133l2_in (up.length + 1) (looked_l2 S hU hV hF h3 (by omega) bad (fun hf hc => good ⟨by omega, by omega, h3, hI, hf, hc⟩ f hF) up.length 0 (by omega) (by simp) (by intro a' b ha'; omega))
      · exact ifT_pos (by simp; omega) (retG_of (bad fun W => h3 W.len))

/-- of a model and some worlds: 0, or why not -/
theorem asked_loop {f ws : AVal} {l : List Int} (hU : Intss mU up) (hn : up.length ≤ 512) (hw : Ints ws l) (hm : l.length ≤ 1048576) (bad : ¬ (∀ w ∈ l, 0 ≤ w ∧ w < up.length) → K (.tuple [.nilfunc, .int .i64 2]) h)
    (good : (∀ w ∈ l, 0 ≤ w ∧ w < up.length) → K (.tuple [f, .int .i64 0]) h) : ∀ d i : Nat, i + d = l.length → (∀ w ∈ l.take i, 0 ≤ w ∧ w < up.length) → s107l1 K (d + 1) (.lptr [mU, mV]) f ws l.length (i : Int) h
  | 0, i, hd, hk => by
    unfold s107l1
    rw [List.take_of_length_le (by omega)] at hk
    exact ifT_neg (by simp; omega) (retG_of (good hk))
  | d + 1, i, hd, hk => by
    have hi : i < l.length := by omega
    unfold s107l1
    refine ifT_pos (by simp; omega) ?_
    rw [hw.ix hi, ld1_lptr, tInt_int]
    by_cases h0 : l[i] < 0
    · exact ifT_pos (by simpa using h0) (ifT_pos rfl (retG_of (bad fun hall => by have := hall _ (List.getElem_mem hi); omega)))
    · refine ifT_neg (by simpa using h0) ?_
      rw [addOff_lptr]
      simp only [List.drop_zero, ld1_lptr]
      rw [hU.len]
      by_cases h1 : (up.length : Int) ≤ l[i]
      · exact ifT_pos (by simpa using h1) (retG_of (bad fun hall => by have := hall _ (List.getElem_mem hi); omega))
      · refine ifT_neg (by simpa using h1) (rg_of (by omega) (by omega) (s107l1_go (asked_loop hU hn hw hm bad good d (i + 1) (by omega) ?_)))
        rw [List.take_succ_eq_append_getElem hi]
        intro w hw'
        rcases List.mem_append.1 hw' with hw' | hw'
        · exact hk w hw'
        · rw [List.mem_singleton.1 hw']; omega

theorem asked_ok {ws : AVal} {l : List Int} (S : Small up val) (hU : Intss mU up) (hV : Strss mV val) (hw : Ints ws l) (hm : l.length ≤ 1048576) (bad : ¬ WF up val → K (.tuple [.nilfunc, .int .i64 170]) h)
    (out : WF up val → ¬ (∀ w ∈ l, 0 ≤ w ∧ w < up.length) → K (.tuple [.nilfunc, .int .i64 2]) h) (good : WF up val → (∀ w ∈ l, 0 ≤ w ∧ w < up.length) → ∀ f, LeqF f up → K (.tuple [f, .int .i64 0]) h) :
    ACalls prog 107 [.agg [mU, mV], ws] h K := by
  refine s107_ok (callG_of (looked_ok S hU hV (fun hW => ?_) fun hW f hF => ?_))
  · simp only [tTup_tuple, tCons_cons, tBool_bool, tNil_nil]
    exact ifT_pos rfl (retG_of (bad hW))
  · simp only [tTup_tuple, tCons_cons, tBool_bool, tNil_nil]
    refine ifT_neg rfl ?_
    rw [hw.len]
    exact s107l1_in (l.length + 1) (asked_loop hU hW.max hw hm (out hW) (fun hall => good hW hall f hF) l.length 0 (by omega) (by simp))

theorem check_ok (S : Small up val) (hU : Intss mU up) (hV : Strss mV val) (bad : ¬ WF up val → K (.int .i64 170) h) (good : WF up val → K (.int .i64 0) h) : ACalls prog 93 [.agg [mU, mV]] h K := by
  refine s93_ok (callG_of (asked_ok (l := []) S hU hV (.inr ⟨rfl, rfl⟩) (by simp) (fun hW => ?_) (fun _ hW => absurd (by simp) hW) fun hW _ f hF => ?_))
  · simp only [tTup_tuple, tCons_cons, tInt_int, tNil_nil]
    exact retG_of (bad hW)
  · simp only [tTup_tuple, tCons_cons, tInt_int, tNil_nil]
    exact retG_of (good hW)
end Go.Proofs.YtobpfhmjdoekfaaGreat

namespace Go.Proofs.YtobpfhmjdoekfaaGreat
open Go Go.Sym Go.Proofs.Tryz

/- ---- a map as a set ---- -/
def mapV (V : List Nat) : List (AVal × AVal) := V.map fun (v : Nat) => (.int .i64 (v : Int), .int .i64 1)
theorem find_in {v : Nat} : ∀ (V : List Nat) (i : Nat), v ∈ V → ∃ j, findM (.int .i64 (v : Int)) (mapV V) i = some (some (j, .int .i64 1))
  | [], _, h => by simp at h
  | x :: V, i, h => by
    show ∃ j, findM (.int .i64 (v : Int)) ((.int .i64 (x : Int), .int .i64 1) :: mapV V) i = _
    unfold findM keyEq
    simp only [decide_true]
    by_cases e : v = x
    · subst e
      exact ⟨i, by simp⟩
    · rw [show ((v : Int) == (x : Int)) = false by rw [beq_eq_false_iff_ne]; omega]
      exact find_in V (i + 1) (by simpa [e] using h)
theorem find_out {v : Nat} : ∀ (V : List Nat) (i : Nat), v ∉ V → findM (.int .i64 (v : Int)) (mapV V) i = some none
  | [], _, _ => rfl
  | x :: V, i, h => by
    show findM (.int .i64 (v : Int)) ((.int .i64 (x : Int), .int .i64 1) :: mapV V) i = _
    unfold findM keyEq
    simp only [decide_true]
    have h1 : v ≠ x ∧ v ∉ V := by simpa using h
    rw [show ((v : Int) == (x : Int)) = false by rw [beq_eq_false_iff_ne]; have := h1.1; omega]
    exact find_out V (i + 1) h1.2
theorem mapGet_in {h : Heap} {rm : Nat} {V : List Nat} (hm : h rm = some (.map (mapV V))) {v : Nat} (hv : v ∈ V) {K : AVal → Bool → Prop} (hk : K (.int .i64 1) true) : mapGet (.int .i64 0) h (.mapr rm) (.int .i64 (v : Int)) K := by
  obtain ⟨j, e⟩ := find_in V 0 hv
  unfold mapGet mapGetR entsA
  simp only [hm, e]
  exact hk
theorem mapGet_out {h : Heap} {rm : Nat} {V : List Nat} (hm : h rm = some (.map (mapV V))) {v : Nat} (hv : v ∉ V) {K : AVal → Bool → Prop} (hk : K (.int .i64 0) false) : mapGet (.int .i64 0) h (.mapr rm) (.int .i64 (v : Int)) K := by
  unfold mapGet mapGetR entsA
  simp only [hm, find_out V 0 hv]
  exact hk
theorem mapPut_out {h : Heap} {rm : Nat} {V : List Nat} (hm : h rm = some (.map (mapV V))) {v : Nat} (hv : v ∉ V) {K : Heap → Prop} (hk : K (h.set rm (.map (mapV (V ++ [v]))))) : mapPut h (.mapr rm) (.int .i64 (v : Int)) (.int .i64 1) K := by
  unfold mapPut mapPutR putM
  simp only [hm, find_out V 0 hv]
  simpa [mapV] using hk
theorem Heap.set_self {h : Heap} {r : Nat} {o : AObj} (hr : h r = some o) : h.set r o = h := by
  funext q
  simp only [Heap.set]
  split
  · rename_i e; rw [e, hr]
  · rfl

/- ---- a measure ---- -/
theorem filter_le {α : Type} {p q : α → Bool} : ∀ (l : List α), (∀ x, p x = true → q x = true) → (l.filter p).length ≤ (l.filter q).length
  | [], _ => by simp
  | a :: l, h => by
    have ih := filter_le l h
    by_cases e : p a = true
    · rw [List.filter_cons_of_pos e, List.filter_cons_of_pos (h a e)]
      simp only [List.length_cons]; omega
    · rw [List.filter_cons_of_neg e]
      by_cases e2 : q a = true
      · rw [List.filter_cons_of_pos e2]; simp only [List.length_cons]; omega
      · rw [List.filter_cons_of_neg e2]; exact ih
theorem filter_lt {α : Type} {p q : α → Bool} {x : α} : ∀ (l : List α), (∀ x, p x = true → q x = true) → x ∈ l → q x = true → p x = false → (l.filter p).length < (l.filter q).length
  | [], _, hx, _, _ => by simp at hx
  | a :: l, h, hx, hq, hp => by
    rcases List.mem_cons.1 hx with rfl | hx
    · rw [List.filter_cons_of_neg (by rw [hp]; decide), List.filter_cons_of_pos hq]
      have := filter_le l h
      simp only [List.length_cons]; omega
    · have ih := filter_lt l h hx hq hp
      by_cases e : p a = true
      · rw [List.filter_cons_of_pos e, List.filter_cons_of_pos (h a e)]
        simp only [List.length_cons]; omega
      · rw [List.filter_cons_of_neg e]
        by_cases e2 : q a = true
        · rw [List.filter_cons_of_pos e2]; simp only [List.length_cons]; omega
        · rw [List.filter_cons_of_neg e2]; exact ih
/-- how many are not in yet -/
def outN (n : Nat) (V : List Nat) : Nat := ((List.range n).filter fun x => decide (x ∉ V)).length
theorem outN_le {n : Nat} {V W : List Nat} (h : ∀ x ∈ V, x ∈ W) : outN n W ≤ outN n V := filter_le _ fun x hx => by
  simp only [decide_eq_true_eq] at hx ⊢
  exact fun hv => hx (h x hv)
theorem outN_lt {n : Nat} {V : List Nat} {v : Nat} (hv : v < n) (ho : v ∉ V) : outN n (V ++ [v]) < outN n V :=
  filter_lt (x := v) _ (fun x hx => by
    simp only [decide_eq_true_eq] at hx ⊢
    exact fun h => hx (List.mem_append_left _ h)) (List.mem_range.2 hv) (by simpa using ho) (by simp)

end Go.Proofs.YtobpfhmjdoekfaaGreat

namespace Go.Proofs.YtobpfhmjdoekfaaGreat
open Go Go.Sym Go.Proofs.Tryz

noncomputable def aboveL (up : List (List Int)) (a : Nat) : List Nat := (List.range up.length).filter (rb up a)
noncomputable def ordUp (up : List (List Int)) : List (List Int) := (List.range up.length).map fun a => natI (aboveL up a)

theorem Own.ne {hb h : Heap} {os : List Ow} (W : Own hb os h) {i j p q : Nat} {o o' : AObj} (hi : os[i]? = some (.cell p o)) (hj : os[j]? = some (.cell q o')) (hij : i ≠ j) : p ≠ q := fun e => by
  subst e
  exact hij (W.one i j _ _ p hi hj rfl rfl)

theorem st_one {h : Heap} {r es : Nat} {e c : AVal} {K : Heap → Prop} (hr : h r = some (.row es [e])) (ha : e.isAgg = false) (hk : K (h.set r (.row es [c]))) : st true h (.ptr r 0 0) [c] K := st_elem hr rfl ha hk

/-- the rows that are done -/
structure RT (up : List (List Int)) (a : Nat) (R : List AVal) : Prop where
  len : R.length = up.length
  done : ∀ a', a' < a → ∃ e, R[a']? = some e ∧ Ints e (natI (aboveL up a'))
  rest : ∀ a', a' < up.length → a ≤ a' → R[a']? = some .nilsl

section
variable {up : List (List Int)}
theorem mem_aboveL {a x : Nat} (hi : InR up) (ha : a < up.length) : x ∈ aboveL up a ↔ Reach up a x := by
  unfold aboveL
  rw [List.mem_filter, List.mem_range, rb_iff]
  exact ⟨fun h => h.2, fun h => ⟨h.lt hi ha, h⟩⟩
theorem ordUp_get {a : Nat} (ha : a < up.length) : (ordUp up)[a]'(by simpa [ordUp] using ha) = natI (aboveL up a) := by simp [ordUp]
theorem ordUp_len : (ordUp up).length = up.length := by simp [ordUp]
theorem above_len {a : Nat} : (aboveL up a).length ≤ up.length := by
  have := List.length_filter_le (rb up a) (List.range up.length)
  simpa [aboveL] using this
end
end Go.Proofs.YtobpfhmjdoekfaaGreat

namespace Go.Proofs.YtobpfhmjdoekfaaGreat
open Go Go.Sym Go.Proofs.Tryz

variable {K : AVal → Heap → Prop} {h : Heap} {up up' : List (List Int)} {val val' : List (List ByteArray)} {mU mV nU nV : AVal}

theorem copy_l2 (S : Small up val) (hV : Strss mV val) {hb : Heap} {ro rt : Nat} {X : AVal} (hrt : hb rt = some (.row 2 [.agg [.nilsl, X]])) {h0 : Heap} (hsub : ∀ q o, h0 q = some o → q ≠ rt ∧ hb q = some o)
    (good : ∀ vU vV, Intss vU up → Strss vV val → K (.agg [vU, vV]) h0) {LU : List AVal} (aU : All2 Ints LU up) :
    ∀ d i : Nat, i + d = val.length → ∀ vU vV LV h, MB hb ro vU vV LU LV h → All2 Strs LV (val.take i) → s19l2 K (d + 1) (.lptr [mU, mV]) (.ptr rt 0 0) (.ptr ro 0 0) (i : Int) h
  | 0, i, hd, vU, vV, LV, h, M, aV => by
    unfold s19l2
    rw [addOff_lptr]
    simp only [List.drop_succ_cons, List.drop_zero, ld1_lptr]
    rw [hV.len]
    refine ifT_neg (by simp; omega) ?_
    rw [M.ld, tCons_cons, tCons_cons, tNil_nil]
    have M1 := M.upd (x := .row 2 [.agg [vU, vV]]) hrt
    refine st_all (M.old hrt) rfl ?_
    rw [ldN2 (Heap.set_same _ _ _), tCons_cons, tCons_cons, tNil_nil]
    obtain ⟨Sn, vU', vV', l1, l2, s1, s2, hS, hold⟩ := M1.freeze
    rw [List.take_of_length_le (by omega)] at aV
    refine ⟨Sn, _, h0, .agg (.cons l1 (.cons l2 .nil)), ⟨fun _ _ => trivial, fun q o hq => ⟨o, ?_, ?_, .refl o⟩⟩, good vU' vV' ⟨LU, s1, aU⟩ ⟨LV, s2, aV⟩⟩
    · obtain ⟨h1, h2⟩ := hsub q o hq
      exact hold q o (by rw [Heap.set_ne _ _ h1]; exact h2)
    · intro hs
      have h3 := hS q hs
      obtain ⟨h1, h2⟩ := hsub q o hq
      rw [Heap.set_ne _ _ h1, h2] at h3
      cases h3
  | d + 1, i, hd, vU, vV, LV, h, M, aV => by
    have hi : i < val.length := by omega
    have hvl := S.vals
    have hSn := S.names _ (List.getElem_mem hi)
    have hLV : LV.length ≤ i := by have := aV.length; simp at this; omega
    obtain ⟨ev, hev, hix⟩ := hV.ix hi
    unfold s19l2
    rw [addOff_lptr]
    simp only [List.drop_succ_cons, List.drop_zero, ld1_lptr]
    rw [hV.len]
    refine ifT_pos (by simp; omega) ?_
    rw [addOff_ptr, M.ldV, addOff_lptr]
    simp only [List.drop_succ_cons, List.drop_zero, ld1_lptr]
    rw [hix, ld1_lptr]
    refine newRow_in fun r2 hr2 => ?_
    have hget : (h.set r2 (.row 1 [])) ro = some (.row 2 [.agg [vU, vV]]) := Heap.set_sub hr2 _ _ M.get
    refine ⟨by first | rfl | trivial, ⟨by first | rfl | trivial, ⟨by rw [ld1_fld hget rfl], ?_⟩⟩⟩
    refine appC_copy hr2 (elemsA_of hev) (by simp; omega) (by simp; omega) fun cp h3 g2 => ?_
    have hget3 : h3 ro = some (.row 2 [.agg [vU, vV]]) := g2.old M.get
    refine ⟨by rw [ld1_fld hget3 rfl], chk_iff.2 ⟨g2.sc.1, ⟨by rw [ld1_fld hget3 rfl], ?_⟩⟩⟩
    obtain ⟨hb'', g3, M4⟩ := M.swap g2
    refine M4.appV (by omega) (by omega) fun v2 h4 M5 => ?_
    rw [addOff_ptr]
    refine chk_iff.2 ⟨M5.sc.2.1, M5.stV fun h5 M6 => rg_of (by omega) (by omega) ?_⟩
    obtain ⟨Sg, h6, cp', s1, M7, hg⟩ := M6.settleV g3
    refine ⟨Sg, _, h6, Lits.refl _, hg, rfl, ?_⟩
    have := copy_l2 S hV hrt hsub good aU d (i + 1) (by omega) vU v2 _ h6 M7 ?_
    · exact this
    · rw [List.take_succ_eq_append_getElem hi]
      exact aV.append (.cons s1 .nil)

theorem copy_l1 (S : Small up val) (hU : Intss mU up) (hV : Strss mV val) {hb : Heap} {ro rt : Nat} {X : AVal} (hrt : hb rt = some (.row 2 [.agg [.nilsl, X]])) {h0 : Heap} (hsub : ∀ q o, h0 q = some o → q ≠ rt ∧ hb q = some o)
    (good : ∀ vU vV, Intss vU up → Strss vV val → K (.agg [vU, vV]) h0) :
    ∀ d i : Nat, i + d = up.length → ∀ vU LU h, MB hb ro vU .nilsl LU [] h → All2 Ints LU (up.take i) → s19l1 K (d + 1) (.lptr [mU, mV]) (.ptr rt 0 0) (.ptr ro 0 0) (i : Int) h
  | 0, i, hd, vU, LU, h, M, aU => by
    unfold s19l1
    rw [addOff_lptr]
    simp only [List.drop_zero, ld1_lptr]
    rw [hU.len]
    rw [List.take_of_length_le (by omega)] at aU
    exact ifT_neg (by simp; omega) (s19l2_in (val.length + 1) (copy_l2 S hV hrt hsub good aU val.length 0 (by omega) vU .nilsl [] h M .nil))
  | d + 1, i, hd, vU, LU, h, M, aU => by
    have hi : i < up.length := by omega
    have hvl := S.ups
    have hSn := S.row _ (List.getElem_mem hi)
    have hLU : LU.length ≤ i := by have := aU.length; simp at this; omega
    obtain ⟨ev, hev, hix⟩ := hU.ix hi
    unfold s19l1
    rw [addOff_lptr]
    simp only [List.drop_zero, ld1_lptr]
    rw [hU.len]
    refine ifT_pos (by simp; omega) ?_
    rw [addOff_ptr, M.ldU, addOff_lptr]
    simp only [List.drop_zero, ld1_lptr]
    rw [hix, ld1_lptr]
    refine newRow_in fun r2 hr2 => ?_
    have hget : (h.set r2 (.row 1 [])) ro = some (.row 2 [.agg [vU, .nilsl]]) := Heap.set_sub hr2 _ _ M.get
    refine ⟨by first | rfl | trivial, ⟨by first | rfl | trivial, ⟨by rw [ld1_fld hget rfl], ?_⟩⟩⟩
    refine appC_copy hr2 (elemsA_of hev) (by simp; omega) (by simp; omega) fun cp h3 g2 => ?_
    have hget3 : h3 ro = some (.row 2 [.agg [vU, .nilsl]]) := g2.old M.get
    refine ⟨by rw [ld1_fld hget3 rfl], chk_iff.2 ⟨g2.sc.1, ⟨by rw [ld1_fld hget3 rfl], ?_⟩⟩⟩
    obtain ⟨hb'', g3, M4⟩ := M.swap g2
    refine M4.appU (by omega) (by omega) fun v2 h4 M5 => ?_
    rw [addOff_ptr]
    refine chk_iff.2 ⟨M5.sc.1.1, M5.stU fun h5 M6 => rg_of (by omega) (by omega) ?_⟩
    obtain ⟨Sg, h6, cp', s1, M7, hg⟩ := M6.settle1 g3
    refine ⟨Sg, _, h6, Lits.refl _, hg, rfl, ?_⟩
    have := copy_l1 S hU hV hrt hsub good d (i + 1) (by omega) v2 _ h6 M7 ?_
    · exact this
    · rw [List.take_succ_eq_append_getElem hi]
      exact aU.append (.cons s1 .nil)

theorem copy_ok (S : Small up val) (hU : Intss mU up) (hV : Strss mV val) (good : ∀ vU vV, Intss vU up → Strss vV val → K (.agg [vU, vV]) h) : ACalls prog 19 [.agg [mU, mV]] h K := by
  refine s19_ok ?_
  unfold s19
  refine newRow_in fun rt hrt => newRow_in fun ro hro => st_all (Heap.set_same _ _ _) rfl ?_
  rw [Heap.set_set]
  exact s19l1_in (up.length + 1) (copy_l1 S hU hV (Heap.set_same _ _ _) (fun q o hq => ⟨(fun e => by rw [e, hrt] at hq; cases hq), Heap.set_sub hrt q o hq⟩) good up.length 0 (by omega) .nilsl [] _ (MBs.start hro) .nil)
end Go.Proofs.YtobpfhmjdoekfaaGreat

namespace Go.Proofs.YtobpfhmjdoekfaaGreat
open Go Go.Sym Go.Proofs.Tryz

variable {K : AVal → Heap → Prop} {h : Heap} {up up' : List (List Int)} {val val' : List (List ByteArray)} {mU mV nU nV : AVal}

theorem same_l3 (S : Small up val) (hV : Strss mV val) (hV' : Strss nV val') (hl : val.length = val'.length) : ∀ d i : Nat, i + d = val.length → K (.bool (decide (val.drop i = val'.drop i))) h → s38l3 K (d + 1) (.lptr [mU, mV]) (.lptr [nU, nV]) (i : Int) h
  | 0, i, hd, hk => by
    unfold s38l3
    rw [addOff_lptr]
    simp only [List.drop_succ_cons, List.drop_zero, ld1_lptr]
    rw [hV.len]
    refine ifT_neg (by simp; omega) (retG_of ?_)
    rw [List.drop_eq_nil_of_le (by omega), List.drop_eq_nil_of_le (by omega)] at hk
    simpa using hk
  | d + 1, i, hd, hk => by
    have hi : i < val.length := by omega
    have hi' : i < val'.length := by omega
    have hSv := S.vals
    have hSn := (S.names _ (List.getElem_mem hi)).2
    obtain ⟨e1, h1, ix1⟩ := hV.ix hi
    obtain ⟨e2, h2, ix2⟩ := hV'.ix hi'
    unfold s38l3
    rw [addOff_lptr]
    simp only [List.drop_succ_cons, List.drop_zero, ld1_lptr]
    rw [hV.len]
    refine ifT_pos (by simp; omega) ?_
    simp only [addOff_lptr, List.drop_succ_cons, List.drop_zero, ld1_lptr, ix1, ix2]
    refine callG_of (names_ok h1 h2 (by omega) ?_)
    rw [tBool_bool]
    rw [drop_eq_step hi hi'] at hk
    by_cases he : val[i] = val'[i]
    · refine ifT_neg (by simp [he]) (rg_of (by omega) (by omega) (s38l3_go (same_l3 S hV hV' hl d (i + 1) (by omega) (by simpa [he] using hk))))
    · exact ifT_pos (by simp [he]) (retG_of (by simpa [he] using hk))

theorem same_l2 (S : Small up val) (hU : Intss mU up) (hV : Strss mV val) (hU' : Intss nU up') (hV' : Strss nV val') (hlu : up.length = up'.length) (hl : val.length = val'.length) :
    ∀ d i : Nat, i + d = up.length → K (.bool (decide (up.drop i = up'.drop i) && decide (val = val'))) h → s38l2 K (d + 1) (.lptr [mU, mV]) (.lptr [nU, nV]) (i : Int) h
  | 0, i, hd, hk => by
    unfold s38l2
    rw [addOff_lptr]
    simp only [List.drop_zero, ld1_lptr]
    rw [hU.len]
    rw [List.drop_eq_nil_of_le (by omega), List.drop_eq_nil_of_le (by omega)] at hk
    exact ifT_neg (by simp; omega) (s38l3_in (val.length + 1) (same_l3 S hV hV' hl val.length 0 (by omega) (by simpa using hk)))
  | d + 1, i, hd, hk => by
    have hi : i < up.length := by omega
    have hi' : i < up'.length := by omega
    have hSv := S.ups
    have hSn := S.row _ (List.getElem_mem hi)
    obtain ⟨e1, h1, ix1⟩ := hU.ix hi
    obtain ⟨e2, h2, ix2⟩ := hU'.ix hi'
    unfold s38l2
    rw [addOff_lptr]
    simp only [List.drop_zero, ld1_lptr]
    rw [hU.len]
    refine ifT_pos (by simp; omega) ?_
    simp only [addOff_lptr, List.drop_zero, ld1_lptr, ix1, ix2]
    refine callG_of (ints_ok h1 h2 (by omega) ?_)
    rw [tBool_bool]
    rw [drop_eq_step hi hi'] at hk
    by_cases he : up[i] = up'[i]
    · refine ifT_neg (by simp [he]) (rg_of (by omega) (by omega) (s38l2_go (same_l2 S hU hV hU' hV' hlu hl d (i + 1) (by omega) (by simpa [he] using hk))))
    · exact ifT_pos (by simp [he]) (retG_of (by simpa [he] using hk))

theorem same_ok (S : Small up val) (hU : Intss mU up) (hV : Strss mV val) (hU' : Intss nU up') (hV' : Strss nV val') (hk : K (.bool (decide (up = up') && decide (val = val'))) h) : ACalls prog 38 [.agg [mU, mV], .agg [nU, nV]] h K := by
  refine s38_ok ?_
  unfold s38
  rw [hU.len, hU'.len]
  by_cases h1 : up.length = up'.length
  · refine ifT_neg (by simp [h1]) ?_
    rw [hV.len, hV'.len]
    by_cases h2 : val.length = val'.length
    · refine ifT_neg (by simp [h2]) (s38l2_in (up.length + 1) (same_l2 S hU hV hU' hV' h1 h2 up.length 0 (by omega) (by simpa using hk)))
    · refine ifT_pos (by simp; omega) (retG_of ?_)
      rwa [show decide (val = val') = false by simp; intro e; exact h2 (by rw [e]), Bool.and_false] at hk
  · refine ifT_pos (by simp; omega) (ifT_pos rfl (retG_of ?_))
    rwa [show decide (up = up') = false by simp; intro e; exact h1 (by rw [e]), Bool.false_and] at hk

end Go.Proofs.YtobpfhmjdoekfaaGreat

namespace Go.Proofs.YtobpfhmjdoekfaaGreat
open Go Go.Sym Go.Proofs.Tryz

variable {K : AVal → Heap → Prop} {h h0 hb : Heap}

/-- what is next above a world of the ladder -/
def upRow (w : Nat) : List Nat := List.range' (w - 3) (w - 1 - (w - 3))
def mUp (n : Nat) : List (List Int) := (List.range n).map fun w => natI (upRow w)
def vRow (s : ByteArray) (w : Nat) : List ByteArray := if w = 0 then [s] else []
def mVal (n : Nat) (s : ByteArray) : List (List ByteArray) := (List.range n).map (vRow s)

/-- the memory of a model whose rows grow -/
abbrev QN (hb : Heap) (ro : Nat) (vU vV : AVal) (LV : List AVal) (q : Nat) (f : Nat → AVal) (g : Nat → List Nat) (h : Heap) : Prop :=
  Own hb ([.cell ro (.row 2 [.agg [vU, vV]]), .slc 1 vU ((List.range q).map f), .slc 1 vV LV] ++ rowsO q f g) h
structure GR (w : Nat) (c : List Nat) (g : Nat → List Nat) : Prop where
  lo : ∀ k, k < w → g k = upRow k
  at_ : g w = c
  hi : ∀ k, w < k → g k = []
theorem GR.put {w x : Nat} {c : List Nat} {g : Nat → List Nat} (G : GR w c g) : GR w (c ++ [x]) (upd g w (g w ++ [x])) where
  lo k hk := by unfold upd; rw [if_neg (by omega)]; exact G.lo k hk
  at_ := by unfold upd; rw [if_pos rfl, G.at_]
  hi k hk := by unfold upd; rw [if_neg (by omega)]; exact G.hi k hk
theorem GR.next {w : Nat} {g : Nat → List Nat} (G : GR w (upRow w) g) : GR (w + 1) [] g where
  lo k hk := by
    rcases Nat.lt_or_ge k w with e | e
    · exact G.lo k e
    · obtain rfl : k = w := by omega
      exact G.at_
  at_ := G.hi _ (by omega)
  hi k hk := G.hi k (by omega)

section
variable {vV : AVal} {ro rt ru n : Nat} {LV : List AVal}
theorem modelP_l3 (hn : n ≤ 512) {w : Nat} (hw : w < n) {F : AVal → AVal → Int → Int → Heap → Prop}
    (next : ∀ f g h', GR w (upRow w) g → QN hb ro (.sl ru 1 0 n) vV LV n f g h' → F (.ptr rt 0 0) (.ptr ro 0 0) n ((w : Int) + 1) h') :
    ∀ d v : Nat, v + d = w - 1 → w - 3 ≤ v → ∀ f g h, GR w (List.range' (w - 3) (v - (w - 3))) g → QN hb ro (.sl ru 1 0 n) vV LV n f g h →
      s16l3 K F (d + 1) (.ptr rt 0 0) (.ptr ro 0 0) (w : Int) (v : Int) n (w : Int) h
  | 0, v, hd, hv, f, g, h, G, W => by
    unfold s16l3
    refine rg_of (by omega) (by omega) (ifT_neg (by simp; omega) (rg_of (by omega) (by omega) (next f g h ?_ W)))
    have : v = w - 1 := by omega
    subst this
    exact G
  | d + 1, v, hd, hv, f, g, h, G, W => by
    unfold s16l3
    refine rg_of (by omega) (by omega) (ifT_pos (by simp; omega) ?_)
    have hi := rowsO_get (f := f) (g := g) hw (.cell ro (.row 2 [.agg [(.sl ru 1 0 n), vV]])) (.slc 1 (.sl ru 1 0 n) ((List.range n).map f)) (.slc 1 vV LV)
    have hget : ((List.range n).map f)[w]? = some (f w) := range_get _ hw
    have hag := (W.sc hi).2.2
    have rU := W.get 1 _ ru rfl rfl
    have rO := W.get 0 _ ro rfl rfl
    have hgl : (g w).length ≤ 512 := by rw [G.at_, List.length_range']; omega
    rw [addOff_ptr, ld1_fld rO rfl, addOff_ptr, ld1_fld rO rfl]
    refine ixS_sl0 hw ?_
    rw [ld1_ptr rU hget hag]
    refine ⟨by rw [ld1_ptr rU hget hag], by rw [ld1_fld rO rfl], by rw [ld1_fld rO rfl], W.app hi (by simp [natI]; omega) (by simp [natI]; omega) fun v2 h2 W2 => ?_⟩
    rw [rowsO_set] at W2
    refine ⟨by rw [ld1_fld (W2.get 0 _ ro rfl rfl) rfl], ixS_sl0 hw ?_⟩
    have hi2 := rowsO_get (f := upd f w v2) (g := upd g w (g w ++ [v])) hw (.cell ro (.row 2 [.agg [(.sl ru 1 0 n), vV]])) (.slc 1 (.sl ru 1 0 n) ((List.range n).map f)) (.slc 1 vV LV)
    have hsc : sc v2 = true := by
      have := (W2.sc hi2).1
      unfold upd at this
      rwa [if_pos rfl] at this
    refine chk_iff.2 ⟨hsc, st_elem (W2.get 1 _ ru rfl rfl) hget hag (rg_of (by omega) (by omega) (s16l3_go ?_))⟩
    have hlen : ((List.range n).map f).length = n := by simp
    have hi1 : ([Ow.cell ro (.row 2 [.agg [(.sl ru 1 0 n), vV]]), .slc 1 (.sl ru 1 0 n) ((List.range n).map f), .slc 1 vV LV] ++ rowsO n (upd f w v2) (upd g w (g w ++ [v])))[1]? = some (.slc 1 (.sl ru 1 0 ((List.range n).map f).length) ((List.range n).map f)) := by rw [hlen]; rfl
    have W3 := W2.putS hi1 (l' := ((List.range n).map f).set w v2) (by simp)
    rw [hlen, map_set] at W3
    rw [map_set]
    refine modelP_l3 hn hw next d (v + 1) (by omega) (by omega) (upd f w v2) _ _ ?_ W3
    have := G.put (x := v)
    have e : List.range' (w - 3) (v + 1 - (w - 3)) = List.range' (w - 3) (v - (w - 3)) ++ [v] := by
      rw [show v + 1 - (w - 3) = v - (w - 3) + 1 by omega, List.range'_concat]
      congr 2
      omega
    rw [e]
    exact this
theorem modelP_l2 (hn : n ≤ 512) {s : ByteArray} (hLV : All2 Strs LV (mVal n s)) {X Y : AVal} (ht : hb rt = some (.row 2 [.agg [X, Y]])) (hsub : ∀ q o, h0 q = some o → q ≠ rt ∧ hb q = some o)
    (good : ∀ vU vV, Intss vU (mUp n) → Strss vV (mVal n s) → K (.tuple [.agg [vU, vV], .int .i64 0]) h0) :
    ∀ d w : Nat, w + d = n → ∀ f g h, GR w [] g → QN hb ro (.sl ru 1 0 n) vV LV n f g h → s16l2 K (d + 1) (.ptr rt 0 0) (.ptr ro 0 0) n (w : Int) h
  | 0, w, hd, f, g, h, G, W => by
    obtain rfl : w = n := by omega
    unfold s16l2
    refine ifT_neg (by simp) ?_
    rw [ldN2 (W.get 0 _ ro rfl rfl), tCons_cons, tCons_cons, tNil_nil]
    refine st_all (W.old _ _ ht) rfl ?_
    have W2 := W.base (x := .row 2 [.agg [.sl ru 1 0 w, vV]]) ht
    rw [ldN2 (Heap.set_same _ _ _), tCons_cons, tCons_cons, tNil_nil]
    let Sg : Nat → Prop := fun n => nameOf (.sl ru 1 0 w) n ∨ nameOf vV n ∨ ∃ k, k < w ∧ nameOf (f k) n
    obtain ⟨l', hl, hR⟩ := lits_rows (g := g) W2 (S := Sg) (List.range w) (fun k hk => ⟨_, rowsO_get (List.mem_range.1 hk) _ _ _⟩) (fun k hk n hn => .inr (.inr ⟨k, List.mem_range.1 hk, hn⟩))
    obtain ⟨u', lu, su⟩ := W2.lit (i := 1) rfl (S := Sg) (fun n h => .inl h) hl
    obtain ⟨v', lv, sv⟩ := W2.lit (i := 2) rfl (S := Sg) (fun n h => .inr (.inl h)) (Lits.refl LV)
    have hrows : (List.range w).map (fun k => natI (g k)) = mUp w := by
      unfold mUp
      exact List.map_congr_left fun k hk => by rw [G.lo k (List.mem_range.1 hk)]
    rw [hrows] at hR
    refine ⟨Sg, .tuple [.agg [u', v'], .int .i64 0], h0, .tuple (.cons (.agg (.cons lu (.cons lv .nil))) (.cons (.refl _) .nil)), ⟨fun _ _ => trivial, fun q o hq => ⟨o, ?_, fun hs => ?_, .refl o⟩⟩, good u' v' ⟨_, su, hR⟩ ⟨_, sv, hLV⟩⟩
    · rw [Heap.set_ne _ _ (hsub q o hq).1]
      exact W.old q o (hsub q o hq).2
    · have hx : hb q = none := by
        rcases hs with hs | hs | ⟨k, hk, hs⟩
        · exact W.new 1 _ q rfl hs
        · exact W.new 2 _ q rfl hs
        · exact W.new (k + 3) _ q (rowsO_get hk _ _ _) hs
      rw [(hsub q o hq).2] at hx
      cases hx
  | d + 1, w, hd, f, g, h, G, W => by
    unfold s16l2
    refine ifT_pos (by simp; omega) (rg_of (by omega) (by omega) ?_)
    rw [show max (0 : Int) ((w : Int) - 3) = ((w - 3 : Nat) : Int) by omega]
    refine s16l3_in (w - 1 - (w - 3) + 1) (modelP_l3 hn (by omega) (fun f' g' h' G' W' => ?_) _ (w - 3) (by omega) (by omega) f g h ?_ W)
    · exact s16l2_go (modelP_l2 hn hLV ht hsub good d (w + 1) (by omega) f' g' h' G'.next W')
    · rw [Nat.sub_self]
      exact G
end
theorem newZ {h : Heap} {os : List Ow} (W : Own hb os h) {r : Nat} (hr : h r = none) (n : Nat) (z : AVal) : Own hb (os ++ [.slc 1 (.sl r 1 0 n) (List.replicate n z)]) (h.set r (.row 1 (List.replicate n z))) := by
  have := W.newS hr (es := 1) (List.replicate n z)
  rwa [List.length_replicate] at this
theorem modelP_tail {s : ByteArray} {n rt ro ru rv : Nat} (h1 : 1 ≤ n) (hn : n ≤ 512) {X Y : AVal} (ht : hb rt = some (.row 2 [.agg [X, Y]])) (hsub : ∀ q o, h0 q = some o → q ≠ rt ∧ hb q = some o)
    (good : ∀ vU vV, Intss vU (mUp n) → Strss vV (mVal n s) → K (.tuple [.agg [vU, vV], .int .i64 0]) h0) {U0 V0 : AVal}
    (W : Own hb [.cell ro (.row 2 [.agg [U0, V0]]), .slc 1 (.sl ru 1 0 n) (List.replicate n .nilsl), .slc 1 (.sl rv 1 0 n) (List.replicate n .nilsl)] h) :
    st false h (.ptr ro 0 0) [.sl ru 1 0 n, .sl rv 1 0 n] fun h_7 =>
    ld1 h_7 (.ptr ro 0 1) fun v8 =>
    ixS 1 v8 0 fun p =>
    st true h_7 p [(.lsl 1 [(.str s)])] fun h_8 =>
    s16l2_E (s16l2 K) (.ptr rt 0 0) (.ptr ro 0 0) n 0 h_8 := by
  refine st_all (W.get 0 _ ro rfl rfl) rfl ?_
  have W2 := W.put (i := 0) rfl (.row 2 [.agg [.sl ru 1 0 n, .sl rv 1 0 n]])
  rw [ld1_fld (W2.get 0 _ ro rfl rfl) rfl]
  refine ixS_sl0 (i := 0) (by omega) (st_elem (W2.get 2 _ rv rfl rfl) (e := .nilsl) (by rw [List.getElem?_replicate, if_pos (by omega)]) rfl ?_)
  have W3 := W2.putS (i := 2) (r := rv) (es := 1) (l := List.replicate n .nilsl) (by rw [List.length_replicate]; rfl) (l' := (List.replicate n .nilsl).set 0 (.lsl 1 [.str s])) (by simp)
  rw [List.length_replicate] at W3
  have W4 := newNs W3 n
  refine s16l2_in (n + 1) (modelP_l2 (LV := (List.replicate n .nilsl).set 0 (.lsl 1 [.str s])) (ru := ru) (vV := .sl rv 1 0 n) hn ?_ ht hsub good n 0 (by omega) (fun _ => .nilsl) (fun _ => []) _ ⟨fun k hk => by omega, rfl, fun _ _ => rfl⟩ ?_)
  · obtain ⟨m, rfl⟩ : ∃ m, n = m + 1 := ⟨n - 1, by omega⟩
    rw [List.replicate_succ, List.set_cons_zero]
    unfold mVal
    rw [List.range_succ_eq_map, List.map_cons, List.map_map]
    refine .cons (.inl rfl) ?_
    have : ∀ l : List Nat, All2 Strs (List.replicate l.length .nilsl) (l.map (vRow s ∘ Nat.succ)) := fun l => by
      induction l with
      | nil => exact .nil
      | cons a l ih =>
        rw [List.length_cons, List.replicate_succ, List.map_cons]
        exact .cons (.nil 1) ih
    have := this (List.range m)
    rwa [List.length_range] at this
  · have e : (List.range n).map (fun _ => AVal.nilsl) = List.replicate n .nilsl := by
      refine List.ext_getElem (by simp) fun i h1 h2 => ?_
      simp
    unfold QN
    rw [e]
    exact W4
theorem perm3 {h : Heap} {a b c x y z : Ow} (W : Own hb [a, b, c] h) (i j k : Nat) (hx : [a, b, c][i]? = some x) (hy : [a, b, c][j]? = some y) (hz : [a, b, c][k]? = some z) (hij : i ≠ j) (hik : i ≠ k) (hjk : j ≠ k) : Own hb [x, y, z] h :=
  W.renum _ (fun m => if m = 0 then i else if m = 1 then j else k) (fun m w hm => by
    match m, hm with
    | 0, hm => cases hm; exact hx
    | 1, hm => cases hm; exact hy
    | 2, hm => cases hm; exact hz
    | m + 3, hm => simp at hm) (fun m hm p hp e => by
    have hm : m < 3 := hm
    have hp : p < 3 := hp
    split at e <;> split at e <;> (try split at e) <;> (try split at e) <;> omega)
theorem modelP_ok {s : ByteArray} (hs : s.size ≤ 1073741824) (n : Int) (bad : wordB s = false → K (.tuple [.agg [.nilsl, .nilsl], .int .i64 32]) h0) (arg : wordB s = true → (n < 1 ∨ 512 < n) → K (.tuple [.agg [.nilsl, .nilsl], .int .i64 2]) h0)
    (good : wordB s = true → 1 ≤ n → n ≤ 512 → ∀ vU vV, Intss vU (mUp n.toNat) → Strss vV (mVal n.toNat s) → K (.tuple [.agg [vU, vV], .int .i64 0]) h0) : ACalls prog 16 [.int .i64 n, .str s] h0 K := by
  refine s16_ok ?_
  unfold s16
  refine newRow_in fun rt hrt => callG_of (word_ok s hs ?_)
  have ht := Heap.set_same h0 rt (.row 2 [.agg [.nilsl, .nilsl]])
  have hsub : ∀ q o, h0 q = some o → q ≠ rt ∧ (h0.set rt (.row 2 [.agg [.nilsl, .nilsl]])) q = some o := fun q o hq => ⟨(fun e => by rw [e, hrt] at hq; cases hq), Heap.set_sub hrt q o hq⟩
  rw [tBool_bool]
  cases hw : wordB s with
  | false =>
    refine ifT_pos rfl (st_all ht rfl ?_)
    rw [Heap.set_set, ldN2 (Heap.set_same _ _ _), tCons_cons, tCons_cons, tNil_nil]
    exact retG_drop (fun q o hq => (hsub q o hq).2) (bad hw)
  | true =>
    refine ifT_neg rfl ?_
    have out : (n < 1 ∨ 512 < n) → s16c1 K n s (.ptr rt 0 0) true (h0.set rt (.row 2 [.agg [.nilsl, .nilsl]])) := fun hn => by
      unfold s16c1
      refine ifT_pos rfl (st_all ht rfl ?_)
      rw [Heap.set_set, ldN2 (Heap.set_same _ _ _), tCons_cons, tCons_cons, tNil_nil]
      exact retG_drop (fun q o hq => (hsub q o hq).2) (arg hw hn)
    by_cases h1 : n < 1
    · exact ifT_pos (by simpa using h1) (out (.inl h1))
    · refine ifT_neg (by simpa using h1) ?_
      by_cases h2 : 512 < n
      · rw [decide_eq_true h2]
        exact out (.inr h2)
      · rw [decide_eq_false h2]
        unfold s16c1
        refine ifT_neg rfl ?_
        obtain ⟨m, rfl⟩ := Int.eq_ofNat_of_zero_le (show 0 ≤ n by omega)
        have good' := good hw (by omega) (by omega)
        rw [Int.toNat_natCast] at good'
        have hm1 : 1 ≤ m := by omega
        have hm2 : m ≤ 512 := by omega
        have W0 := Own.start (h0.set rt (.row 2 [.agg [.nilsl, .nilsl]]))
        refine ⟨⟨⟨?_, ?_⟩, ?_⟩, ?_, ?_, ?_⟩
        · refine mkS_own (bytes := 24) (n := m) (by omega) (by omega) fun a ha => mkS_own (bytes := 24) (n := m) (by omega) (by omega) fun b hb' => chk_iff.2 ⟨rfl, chk_iff.2 ⟨rfl, newRow_in fun c hc => ?_⟩⟩
          have W := ((newZ (newZ W0 ha m .nilsl) hb' m .nilsl).newC hc (.row 2 [.agg [.nilsl, .nilsl]]))
          exact modelP_tail hm1 hm2 ht hsub good' (perm3 W 2 0 1 rfl rfl rfl (by decide) (by decide) (by decide))
        · refine mkS_own (bytes := 24) (n := m) (by omega) (by omega) fun a ha => newRow_in fun c hc => mkS_own (bytes := 24) (n := m) (by omega) (by omega) fun b hb' => chk_iff.2 ⟨rfl, chk_iff.2 ⟨rfl, ?_⟩⟩
          have W := (newZ ((newZ W0 ha m .nilsl).newC hc (.row 2 [.agg [.nilsl, .nilsl]])) hb' m .nilsl)
          exact modelP_tail hm1 hm2 ht hsub good' (perm3 W 1 0 2 rfl rfl rfl (by decide) (by decide) (by decide))
        · refine newRow_in fun c hc => mkS_own (bytes := 24) (n := m) (by omega) (by omega) fun a ha => mkS_own (bytes := 24) (n := m) (by omega) (by omega) fun b hb' => chk_iff.2 ⟨rfl, chk_iff.2 ⟨rfl, ?_⟩⟩
          have W := (newZ (newZ (W0.newC hc (.row 2 [.agg [.nilsl, .nilsl]])) ha m .nilsl) hb' m .nilsl)
          exact modelP_tail hm1 hm2 ht hsub good' (perm3 W 0 1 2 rfl rfl rfl (by decide) (by decide) (by decide))
        · refine mkS_own (bytes := 24) (n := m) (by omega) (by omega) fun a ha => mkS_own (bytes := 24) (n := m) (by omega) (by omega) fun b hb' => chk_iff.2 ⟨rfl, chk_iff.2 ⟨rfl, newRow_in fun c hc => ?_⟩⟩
          have W := ((newZ (newZ W0 ha m .nilsl) hb' m .nilsl).newC hc (.row 2 [.agg [.nilsl, .nilsl]]))
          exact modelP_tail hm1 hm2 ht hsub good' (perm3 W 2 1 0 rfl rfl rfl (by decide) (by decide) (by decide))
        · refine mkS_own (bytes := 24) (n := m) (by omega) (by omega) fun a ha => newRow_in fun c hc => mkS_own (bytes := 24) (n := m) (by omega) (by omega) fun b hb' => chk_iff.2 ⟨rfl, chk_iff.2 ⟨rfl, ?_⟩⟩
          have W := (newZ ((newZ W0 ha m .nilsl).newC hc (.row 2 [.agg [.nilsl, .nilsl]])) hb' m .nilsl)
          exact modelP_tail hm1 hm2 ht hsub good' (perm3 W 1 2 0 rfl rfl rfl (by decide) (by decide) (by decide))
        · refine newRow_in fun c hc => mkS_own (bytes := 24) (n := m) (by omega) (by omega) fun a ha => mkS_own (bytes := 24) (n := m) (by omega) (by omega) fun b hb' => chk_iff.2 ⟨rfl, chk_iff.2 ⟨rfl, ?_⟩⟩
          have W := (newZ (newZ (W0.newC hc (.row 2 [.agg [.nilsl, .nilsl]])) ha m .nilsl) hb' m .nilsl)
          exact modelP_tail hm1 hm2 ht hsub good' (perm3 W 0 2 1 rfl rfl rfl (by decide) (by decide) (by decide))
theorem small_m (n : Nat) (hn : n ≤ 512) {s : ByteArray} (hs : s.size ≤ 1073741824) : Small (mUp n) (mVal n s) where
  ups := by simp [mUp]; omega
  vals := by simp [mVal]; omega
  row r hr := by
    obtain ⟨w, hw, rfl⟩ := List.mem_map.1 hr
    simp only [natI, List.length_map, upRow, List.length_range']
    omega
  names l hl := by
    obtain ⟨w, hw, rfl⟩ := List.mem_map.1 hl
    unfold vRow
    split
    · exact ⟨⟨by simp, fun x hx => by rw [List.mem_singleton.1 hx]; exact hs⟩, by simp⟩
    · exact ⟨⟨by simp, fun x hx => by cases hx⟩, by simp⟩
end Go.Proofs.YtobpfhmjdoekfaaGreat

namespace Go.Proofs.YtobpfhmjdoekfaaGreat
open Go Go.Sym Go.Proofs.Tryz

variable {K : AVal → Heap → Prop} {h0 hb h : Heap} {up : List (List Int)} {mU mV : AVal} {os : List Ow}

/-- a queue that is ours grows -/
theorem Own.appQ (W : Own hb os h) {i es bytes r : Nat} {x : AVal} {pre q : List AVal} {X : AVal → Heap → Prop} (hi : os[i]? = some (.cell r (.row es (pre ++ q))))
    (h1 : q.length < 4611686018427387904) (h2 : (q.length + 1) * bytes ≤ 140737488355328) (hk : ∀ r' h', Own hb (os.set i (.cell r' (.row es (q ++ [x])))) h' → X (.sl r' es 0 (q.length + 1)) h') : appC es bytes h (.sl r es pre.length q.length) (.lsl es [x]) X := by
  have hr := W.get i _ r hi rfl
  have hx : elemsA es h (.lsl es [x]) = some [x] := by simp [elemsA]
  unfold appC
  rw [hx]
  simp only
  unfold app
  simp only [Nat.beq_refl, chk_true, hr, Ow.obj]
  refine ⟨⟨by simp only [List.length_singleton]; omega, by simpa using h2⟩, by simp, fun _ r' hr' _ => ?_, fun e => absurd (by simp) e⟩
  rw [List.drop_left]
  refine hk _ _ (W.change hi trivial (fun n e => .inr (by rw [show n = r' from e]; exact hr')) (fun n e => by rw [show n = r' from e, Heap.set_same]; rfl) (fun p o e hne => ?_))
  have hq : p ≠ r := hne
  rw [Heap.set_ne _ _ (fun e1 => by rw [e1, hr'] at e; cases e)]
  unfold Heap.del
  simpa [hq] using e

/-- a queue without its first -/
theorem slX_end1 {es r off len : Nat} {X : AVal → Prop} (hk : X (.sl r es (off + 1) len)) : slX es (.sl r es off (len + 1)) 1 none X := by
  show slA es (.sl r es off (len + 1)) 1 ((len + 1 : Nat) : Int) X
  rw [slA_eq]
  refine chk_iff.2 ⟨Nat.beq_refl _, ⟨by omega, by omega, Int.le_refl _⟩, ?_⟩
  simpa using hk

/-- what the search holds: V was met, q waits -/
structure SQ (up : List (List Int)) (a : Nat) (V q : List Nat) : Prop where
  self : a ∈ V
  reach : ∀ x ∈ V, x < up.length ∧ Reach up a x
  sub : ∀ x ∈ q, x ∈ V
  closed : ∀ x ∈ V, x ∉ q → ∀ y, Step up x y → y ∈ V
theorem SQ.all {a : Nat} {V : List Nat} (S : SQ up a V []) (x : Nat) : x ∈ V ↔ Reach up a x := by
  refine ⟨fun hx => (S.reach x hx).2, fun h => ?_⟩
  induction h with
  | refl => exact S.self
  | tail _ hs ih => exact S.closed _ ih (by simp) _ hs
theorem SQ.add {a x b : Nat} {V q : List Nat} (S : SQ up a V q) (hi : InR up) (hx : x ∈ V) (hs : Step up x b) : SQ up a (V ++ [b]) (q ++ [b]) where
  self := List.mem_append_left _ S.self
  reach y hy := by
    rcases List.mem_append.1 hy with h | h
    · exact S.reach y h
    · rw [List.mem_singleton.1 h]
      have := (S.reach x hx)
      have hR := Reach.tail this.2 hs
      obtain ⟨r, hr, hb⟩ := hs
      have := hi r (List.mem_of_getElem? hr) _ hb
      exact ⟨by omega, hR⟩
  sub y hy := by
    rcases List.mem_append.1 hy with h | h
    · exact List.mem_append_left _ (S.sub y h)
    · exact List.mem_append_right _ h
  closed y hy hq z hz := by
    rcases List.mem_append.1 hy with h | h
    · exact List.mem_append_left _ (S.closed y h (fun e => hq (List.mem_append_left _ e)) z hz)
    · exact absurd (List.mem_append_right _ h) hq
theorem SQ.next {a x : Nat} {V q : List Nat} {row : List Int} (S : SQ up a V (x :: q)) (hr : up[x]? = some row) (hd : ∀ b ∈ row, b.toNat ∈ V) : SQ up a V q where
  self := S.self
  reach := S.reach
  sub y hy := S.sub y (List.mem_cons_of_mem _ hy)
  closed y hy hq z hz := by
    by_cases e : y = x
    · subst e
      obtain ⟨r, hr', hb⟩ := hz
      rw [hr] at hr'
      cases hr'
      have := hd _ hb
      simpa using this
    · exact S.closed y hy (fun h => by
        rcases List.mem_cons.1 h with h | h
        · exact e h
        · exact hq h) z hz

/-- the memory of the search -/
abbrev MQ (h0 : Heap) (ro : Nat) (R : List AVal) (rm : Nat) (V : List Nat) (rq : Nat) (pre : List AVal) (q : List Nat) (h : Heap) : Prop :=
  Own h0 [.cell ro (.row 1 R), .cell rm (.map (mapV V)), .cell rq (.row 1 (pre ++ natV q))] h

section
variable {ro rm a N : Nat} {R : List AVal} {out : AVal} {L1 : AVal → AVal → Int → Int → Heap → Prop} {L2 : AVal → AVal → Int → AVal → AVal → Int → Int → Heap → Prop}
theorem orderF_l3 (hn : up.length ≤ 512) (hi : InR up) {x : Nat} {row : List Int} {e : AVal} (he : Ints e row) (hrl : row.length ≤ 1048576) (hr : up[x]? = some row)
    (next : ∀ V q rq pre h', SQ up a V (x :: q) → (∀ b ∈ row, b.toNat ∈ V) → outN up.length V + q.length ≤ N → MQ h0 ro R rm V rq pre (x :: q) h' → L2 (.lptr [mU, mV]) out (a : Int) (.mapr rm) (.sl rq 1 (pre.length + 1) q.length) (up.length : Int) (a : Int) h') :
    ∀ d j : Nat, j + d = row.length → ∀ V q rq pre h, SQ up a V (x :: q) → (∀ i b, i < j → row[i]? = some b → b.toNat ∈ V) → outN up.length V + q.length ≤ N → N ≤ 1024 → MQ h0 ro R rm V rq pre (x :: q) h →
      s94l3 K L1 L2 (d + 1) (.lptr [mU, mV]) out (a : Int) (.mapr rm) (.sl rq 1 pre.length (q.length + 1)) (up.length : Int) (a : Int) e (row.length : Int) (j : Int) h
  | 0, j, hd, V, q, rq, pre, h, S, D, hm, hN, M => by
    unfold s94l3
    obtain rfl : j = row.length := by omega
    refine ifT_neg (by simp) ?_
    refine slX_end1 ?_
    refine next V q rq pre h S (fun b hb => ?_) hm M
    obtain ⟨i, hi, e⟩ := List.mem_iff_getElem.1 hb
    exact D i b hi (by rw [List.getElem?_eq_getElem hi, e])
  | d + 1, j, hd, V, q, rq, pre, h, S, D, hm, hN, M => by
    have hj : j < row.length := by omega
    have hb := hi _ (List.mem_of_getElem? hr) _ (List.getElem_mem hj)
    unfold s94l3
    refine ifT_pos (decide_eq_true (by omega)) ?_
    rw [he.ix hj, ld1_lptr, tInt_int]
    have hcast : row[j] = ((row[j].toNat : Nat) : Int) := by omega
    rw [hcast]
    have hs : Step up x row[j].toNat := ⟨row, hr, by rw [← hcast]; exact List.getElem_mem hj⟩
    by_cases hin : row[j].toNat ∈ V
    · refine mapGet_in (M.get 1 _ rm rfl rfl) hin ?_
      rw [tInt_int]
      refine ifT_neg rfl (rg_of (by omega) (by omega) (s94l3_go ?_))
      refine orderF_l3 hn hi he hrl hr next d (j + 1) (by omega) V q rq pre h S (fun i b hi hb' => ?_) hm hN M
      by_cases e1 : i = j
      · subst e1
        rw [List.getElem?_eq_getElem hj] at hb'
        cases hb'
        exact hin
      · exact D i b (by omega) hb'
    · refine mapGet_out (M.get 1 _ rm rfl rfl) hin ?_
      rw [tInt_int]
      refine ifT_pos rfl ?_
      refine mapGet_out (M.get 1 _ rm rfl rfl) hin ?_
      rw [tInt_int]
      refine rg_of (by omega) (by omega) (mapPut_out (M.get 1 _ rm rfl rfl) hin ?_)
      have M2 := M.put (i := 1) rfl (.map (mapV (V ++ [row[j].toNat])))
      have hlt := outN_lt (n := up.length) (V := V) (v := row[j].toNat) (by omega) hin
      have hql : (natV (x :: q)).length = q.length + 1 := by simp [natV]
      rw [show q.length + 1 = (natV (x :: q)).length from hql.symm]
      refine Own.appQ M2 (i := 2) rfl (by omega) (by omega) fun r' h' M3 => ?_
      refine rg_of (by omega) (by omega) (s94l3_go ?_)
      have := orderF_l3 hn hi he hrl hr next d (j + 1) (by omega) (V ++ [row[j].toNat]) (q ++ [row[j].toNat]) r' [] h' (S.add hi (S.sub x (by simp)) hs) (fun i b hi hb' => ?_) (by simp; omega) hN (by unfold MQ; rw [List.nil_append, ← List.cons_append, natV_app]; exact M3)
      · simpa [natV] using this
      · by_cases e1 : i = j
        · subst e1
          rw [List.getElem?_eq_getElem hj] at hb'
          cases hb'
          simp
        · exact List.mem_append_left _ (D i b (by omega) hb')

/-- the search, to its end -/
theorem orderF_l2 (hn : up.length ≤ 512) (hi : InR up) (hU : Intss mU up) (hrl : ∀ r ∈ up, r.length ≤ 1048576)
    (next : ∀ V rq pre h', SQ up a V [] → MQ h0 ro R rm V rq pre [] h' → s94l5_E (s94l5 K L1) (.lptr [mU, mV]) out (a : Int) (.mapr rm) (up.length : Int) (a : Int) (up.length : Int) 0 h') :
    ∀ d V q rq pre h, SQ up a V q → outN up.length V + q.length ≤ d → d ≤ 1024 → MQ h0 ro R rm V rq pre q h →
      s94l2 K L1 (d + 1) (.lptr [mU, mV]) out (a : Int) (.mapr rm) (.sl rq 1 pre.length q.length) (up.length : Int) (a : Int) h := by
  intro d
  induction d with
  | zero =>
    intro V q rq pre h S hm hd M
    have : q = [] := List.eq_nil_of_length_eq_zero (by omega)
    subst this
    unfold s94l2
    rw [lenN_sl]
    refine ifT_neg (by simp) ?_
    rw [addOff_lptr]
    simp only [List.drop_zero, ld1_lptr]
    rw [hU.len]
    exact next V rq pre h S M
  | succ d ih =>
    intro V q rq pre h S hm hd M
    unfold s94l2
    rw [lenN_sl]
    cases q with
    | nil =>
      refine ifT_neg (by simp) ?_
      rw [addOff_lptr]
      simp only [List.drop_zero, ld1_lptr]
      rw [hU.len]
      exact next V rq pre h S M
    | cons x q =>
      have hx := S.reach x (S.sub x (by simp))
      obtain ⟨e, he, hie⟩ := hU.ix hx.1
      refine ifT_pos (by simp) ?_
      rw [addOff_lptr]
      simp only [List.drop_zero, ld1_lptr]
      refine ixS_sl (i := 0) (by omega) (by simp) ?_
      rw [show pre.length + (0 : Int).toNat = pre.length by simp]
      rw [ld1_ptr (e := .int .i64 (x : Int)) (M.get 2 _ rq rfl rfl) (by simp [natV]) rfl, tInt_int, hie, ld1_lptr, he.len]
      simp only [List.length_cons] at hm
      refine s94l3_in (up[x].length + 1) ?_
      refine orderF_l3 (N := d) hn hi he (hrl _ (List.getElem_mem hx.1)) (List.getElem?_eq_getElem hx.1) (fun V' q' rq' pre' h' S' D' hm' M' => ?_) up[x].length 0 (by omega) V q rq pre h S (fun i b hi => absurd hi (by omega)) (by omega) (by omega) M
      refine s94l2_go ?_
      have := ih V' q' rq' (pre' ++ [.int .i64 (x : Int)]) h' (S'.next (List.getElem?_eq_getElem hx.1) D') hm' (by omega) (by unfold MQ; rw [List.append_assoc]; exact M')
      simpa using this
end
end Go.Proofs.YtobpfhmjdoekfaaGreat

namespace Go.Proofs.YtobpfhmjdoekfaaGreat
open Go Go.Sym Go.Proofs.Tryz

variable {K : AVal → Heap → Prop} {h0 : Heap} {up : List (List Int)} {mU mV : AVal}

/-- a row of numbers as plain data -/
noncomputable def rowLit (l : List Nat) : AVal := .lsl 1 ((natI l).map (.int .i64))
/-- the order as plain data -/
noncomputable def ordLit (up : List (List Int)) : AVal := .lsl 1 ((List.range up.length).map fun a => rowLit (aboveL up a))
theorem ordLit_rows : Intss (ordLit up) (ordUp up) := by
  refine ⟨_, .lsl 1 _, ?_⟩
  unfold ordUp
  have : ∀ l : List Nat, All2 Ints (l.map fun a => rowLit (aboveL up a)) (l.map fun a => natI (aboveL up a)) := fun l => by
    induction l with
    | nil => exact .nil
    | cons a l ih => exact .cons (.lsl 1 _) ih
  exact this _
/-- the rows that are done -/
structure RO (up : List (List Int)) (a : Nat) (R : List AVal) : Prop where
  len : R.length = up.length
  done : ∀ a', a' < a → R[a']? = some (rowLit (aboveL up a'))
  rest : ∀ a', a' < up.length → a ≤ a' → R[a']? = some .nilsl

theorem orderF_l5 (hn : up.length ≤ 512) {a : Nat} (ha : a < up.length) {ro rm rq : Nat} {Wc : List Nat} (hW : ∀ x, x ∈ Wc ↔ Reach up a x) {Q : AObj} {F : AVal → AVal → Int → Int → Heap → Prop}
    (good : ∀ R' h', RO up (a + 1) R' → Own h0 [.cell ro (.row 1 R')] h' → F (.lptr [mU, mV]) (.sl ro 1 0 up.length) up.length ((a : Int) + 1) h') :
    ∀ d b : Nat, b + d = up.length → ∀ R x h, R.length = up.length → (∀ a', a' < a → R[a']? = some (rowLit (aboveL up a'))) → (∀ a', a' < up.length → a < a' → R[a']? = some .nilsl) → R[a]? = some x →
      Own h0 [.cell ro (.row 1 R), .slc 1 x ((natI ((List.range b).filter (rb up a))).map (.int .i64)), .cell rm (.map (mapV Wc)), .cell rq Q] h →
      s94l5 K (s94l1_G F) (d + 1) (.lptr [mU, mV]) (.sl ro 1 0 up.length) (a : Int) (.mapr rm) up.length (a : Int) up.length (b : Int) h
  | 0, b, hd, R, x, h, hl, hdone, hrest, hx, W => by
    obtain rfl : b = up.length := by omega
    unfold s94l5
    refine ifT_neg (by simp) (rg_of (by omega) (by omega) ?_)
    have hne : (natI ((List.range up.length).filter (rb up a))).map (AVal.int .i64) ≠ [] := by
      have : a ∈ (List.range up.length).filter (rb up a) := List.mem_filter.2 ⟨List.mem_range.2 ha, rb_iff.2 .refl⟩
      intro e
      simp only [natI, List.map_eq_nil_iff] at e
      rw [e] at this
      cases this
    have lx : Go.Sym.Lit h (nameOf x) x (rowLit (aboveL up a)) := by
      rcases W.fit 1 _ rfl with ⟨_, e⟩ | ⟨r, rfl⟩
      · exact absurd e hne
      · exact .sl rfl (W.get 1 _ r rfl rfl) (by simp) (by rw [List.drop_zero, List.take_of_length_le (Nat.le_refl _)]; exact Lits.refl _)
    obtain ⟨h', g, W'⟩ := W.step (nameOf x) [.cell ro (.row 1 (R.set a (rowLit (aboveL up a))))] (fun n hn => W.new 1 _ n rfl hn) (fun j y' hj => by
      match j, hj with
      | 0, hj =>
        cases hj
        exact ⟨_, rfl, trivial, fun n hn => ⟨hn, fun hm => absurd (W.one 0 1 _ _ n rfl rfl hn hm) (by decide)⟩, .row (Lits.set hx lx)⟩
      | j + 1, hj => simp at hj)
    refine ⟨_, _, h', Lits.refl _, g, rfl, good (R.set a (rowLit (aboveL up a))) h' ⟨by simp [hl], fun a' ha' => ?_, fun a' ha' hle => ?_⟩ W'⟩
    · by_cases e : a' = a
      · subst e
        exact List.getElem?_set_self (by rw [hl]; exact ha)
      · rw [List.getElem?_set_ne (Ne.symm e)]
        exact hdone a' (by omega)
    · rw [List.getElem?_set_ne (by omega)]
      exact hrest a' ha' (by omega)
  | d + 1, b, hd, R, x, h, hl, hdone, hrest, hx, W => by
    have hb : b < up.length := by omega
    unfold s94l5
    refine ifT_pos (by simp; omega) ?_
    have hlen : ((natI ((List.range b).filter (rb up a))).map (AVal.int .i64)).length ≤ b := by
      simp only [natI, List.length_map]
      have := List.length_filter_le (rb up a) (List.range b)
      simpa using this
    have hsucc := range_filter_succ (rb up a) b
    by_cases hin : b ∈ Wc
    · have hrb : rb up a b = true := rb_iff.2 ((hW b).1 hin)
      refine mapGet_in (W.get 2 _ rm rfl rfl) hin ?_
      rw [tInt_int]
      have hagg := (W.sc (i := 1) rfl).2.2
      refine ifT_pos rfl (ixS_sl0 ha ?_)
      rw [ld1_ptr (W.get 0 _ ro rfl rfl) hx hagg]
      refine W.app (i := 1) rfl (by omega) (by omega) fun x2 h2 W2 => ixS_sl0 ha (chk_iff.2 ⟨(W2.sc (i := 1) rfl).1, st_elem (W2.get 0 _ ro rfl rfl) hx hagg ?_⟩)
      refine rg_of (by omega) (by omega) (s94l5_go ?_)
      refine orderF_l5 (rm := rm) (rq := rq) (Q := Q) hn ha hW good d (b + 1) (by omega) (R.set a x2) x2 _ (by simp [hl]) (fun a' ha' => ?_) (fun a' ha' hlt => ?_) (List.getElem?_set_self (by rw [hl]; exact ha)) ?_
      · rw [List.getElem?_set_ne (by omega)]; exact hdone a' ha'
      · rw [List.getElem?_set_ne (by omega)]; exact hrest a' ha' hlt
      · rw [hsucc, if_pos hrb]
        have W3 := W2.put (i := 0) rfl (.row 1 (R.set a x2))
        simpa [natI] using W3
    · have hrb : rb up a b = false := by
        cases e : rb up a b with
        | false => rfl
        | true => exact absurd ((hW b).2 (rb_iff.1 e)) hin
      refine mapGet_out (W.get 2 _ rm rfl rfl) hin ?_
      rw [tInt_int]
      refine ifT_neg rfl (rg_of (by omega) (by omega) (s94l5_go ?_))
      refine orderF_l5 (rm := rm) (rq := rq) (Q := Q) hn ha hW good d (b + 1) (by omega) R x h hl hdone hrest hx ?_
      rw [hsucc, hrb]
      simpa using W

theorem orderF_l1 (hn : up.length ≤ 512) (hU : Intss mU up) (hrl : ∀ r ∈ up, r.length ≤ 1048576) (hi : InR up) {ro : Nat} (good : K (ordLit up) h0) :
    ∀ d a : Nat, a + d = up.length → ∀ R h, RO up a R → Own h0 [.cell ro (.row 1 R)] h → s94l1 K (d + 1) (.lptr [mU, mV]) (.sl ro 1 0 up.length) (up.length : Int) (a : Int) h
  | 0, a, hd, R, h, T, W => by
    obtain rfl : a = up.length := by omega
    unfold s94l1
    refine ifT_neg (by simp) ?_
    have hR : R = (List.range up.length).map fun a => rowLit (aboveL up a) := List.ext_getElem (by rw [T.len]; simp) fun i h1 h2 => by
      have := T.done i (by rw [← T.len]; exact h1)
      rw [List.getElem?_eq_getElem h1] at this
      simpa using this
    refine ⟨fun q => q = ro, .lsl 1 R, h0, .whole rfl (W.get 0 _ ro rfl rfl) T.len.symm, ⟨fun _ _ => trivial, fun q o hq => ⟨o, W.old q o hq, (fun e => by
      have := W.new 0 _ q rfl e
      rw [this] at hq; cases hq), .refl o⟩⟩, ?_⟩
    rw [hR]
    exact good
  | d + 1, a, hd, R, h, T, W => by
    have ha : a < up.length := by omega
    unfold s94l1
    refine ifT_pos (by simp; omega) (fun rm hrm _ => ?_)
    have W1 := W.newC hrm (.map (mapV []))
    refine mapPut_out (W1.get 1 _ rm rfl rfl) (by simp) ?_
    have W2 := W1.put (i := 1) rfl (.map (mapV ([] ++ [a])))
    refine newRow_in fun rq hrq => ?_
    have W3 := (W2.newC hrq (.row 1 ([] ++ natV [a])))
    have S0 : SQ up a [a] [a] := ⟨by simp, fun x hx => by rw [List.mem_singleton.1 hx]; exact ⟨ha, .refl⟩, fun x hx => hx, fun x hx hq => absurd hx hq⟩
    have ho := outN_le (n := up.length) (V := []) (W := [a]) (by simp)
    have hz : outN up.length [] ≤ up.length := by
      unfold outN
      have := List.length_filter_le (fun x => decide (x ∉ ([] : List Nat))) (List.range up.length)
      simpa using this
    refine s94l2_in (514 + 1) ?_
    refine orderF_l2 (ro := ro) (rm := rm) (R := R) hn hi hU hrl (fun V rq' pre h' S M => ?_) 514 [a] [a] rq [] _ S0 (by simp only [List.length_singleton]; omega) (by omega) W3
    refine s94l5_in (up.length + 1) ?_
    have W5 := M.newN 1
    have W6 : Own h0 [.cell ro (.row 1 R), .slc 1 .nilsl ((natI ((List.range 0).filter (rb up a))).map (.int .i64)), .cell rm (.map (mapV V)), .cell rq' (.row 1 (pre ++ natV []))] h' := by
      refine W5.renum _ (fun m => if m = 0 then 0 else if m = 1 then 3 else if m = 2 then 1 else 2) (fun m w hm => ?_) (fun m hm p hp e => ?_)
      · match m, hm with
        | 0, hm => cases hm; rfl
        | 1, hm => cases hm; rfl
        | 2, hm => cases hm; rfl
        | 3, hm => cases hm; rfl
        | m + 4, hm => simp at hm
      · have hm : m < 4 := hm
        have hp : p < 4 := hp
        split at e <;> split at e <;> (try split at e) <;> (try split at e) <;> (try split at e) <;> (try split at e) <;> omega
    refine orderF_l5 hn ha S.all (fun R' h' T' W' => ?_) up.length 0 (by omega) R .nilsl _ T.len (fun a' ha' => T.done a' ha') (fun a' ha' hlt => T.rest a' ha' (by omega)) (T.rest a ha (Nat.le_refl _)) W6
    exact orderF_l1 hn hU hrl hi good d (a + 1) (by omega) R' h' T' W'

/-- the order, as plain data, and nothing else is changed -/
theorem orderF_ok (hn : up.length ≤ 512) (hU : Intss mU up) (hrl : ∀ r ∈ up, r.length ≤ 1048576) (hi : InR up) (good : K (ordLit up) h0) : ACalls prog 94 [.agg [mU, mV]] h0 K := by
  refine s94_ok ?_
  unfold s94
  rw [hU.len]
  refine mkS_own (bytes := 24) (n := up.length) (by omega) (by omega) fun ro hro => ?_
  rw [hU.len]
  refine s94l1_in (up.length + 1) ?_
  refine orderF_l1 hn hU hrl hi good up.length 0 (by omega) (List.replicate up.length .nilsl) _ ⟨by simp, fun a' ha' => by omega, fun a' ha' _ => by rw [List.getElem?_replicate, if_pos ha']⟩ ((Own.start h0).newC hro _)
end Go.Proofs.YtobpfhmjdoekfaaGreat

namespace Go.Proofs.YtobpfhmjdoekfaaGreat
open Go Go.Sym Go.Proofs.Tryz

variable {K : AVal → Heap → Prop} {h h0 hb : Heap}

/- ---- a memo ---- -/
def keyA (p : Nat × Nat) : AVal := .agg [.int .i64 (p.1 : Int), .int .i64 (p.2 : Int)]
def kv2 (f : Nat × Nat → Int) (L : List (Nat × Nat)) : List (AVal × AVal) := L.map fun p => (keyA p, .int .i64 (f p))
theorem keyEq_pair (p q : Nat × Nat) : keyEq (keyA p) (keyA q) = some (decide (p = q)) := by
  obtain ⟨a, b⟩ := p
  obtain ⟨c, d⟩ := q
  have e : keyEq (keyA (a, b)) (keyA (c, d)) = some (((a : Int) == (c : Int)) && (((b : Int) == (d : Int)) && true)) := rfl
  rw [e]
  congr 1
  rw [Bool.eq_iff_iff]
  simp
  omega
theorem findM_kv2 (f : Nat × Nat → Int) (k : Nat × Nat) : ∀ (L : List (Nat × Nat)) (p : Nat), findM (keyA k) (kv2 f L) p = some (if k ∈ L then some (p + L.idxOf k, .int .i64 (f k)) else none)
  | [], p => by simp [kv2, findM]
  | j :: L, p => by
    show findM _ ((keyA j, .int .i64 (f j)) :: kv2 f L) p = _
    unfold findM
    rw [keyEq_pair]
    by_cases hij : k = j
    · subst hij
      simp
    · rw [decide_eq_false hij]
      simp only
      rw [findM_kv2 f k L (p + 1)]
      by_cases hm : k ∈ L
      · rw [if_pos hm, if_pos (List.mem_cons_of_mem _ hm), List.idxOf_cons]
        rw [show (j == k) = false by rw [beq_eq_false_iff_ne]; exact fun e => hij e.symm]
        simp only [cond_false]
        rw [show p + 1 + L.idxOf k = p + (L.idxOf k + 1) by omega]
      · rw [if_neg hm, if_neg (fun h => (List.mem_cons.1 h).elim hij hm)]
theorem findM_app (k : Nat × Nat) (c : Int) (f : Nat × Nat → Int) : ∀ (L : List (Nat × Nat)) (p : Nat), k ∉ L → findM (keyA k) (kv2 f L ++ [(keyA k, .int .i64 c)]) p = some (some (p + L.length, .int .i64 c))
  | [], p, _ => by
    show findM _ [(keyA k, .int .i64 c)] p = _
    unfold findM
    rw [keyEq_pair]
    simp
  | j :: L, p, h => by
    have hj : k ≠ j ∧ k ∉ L := by simpa using h
    show findM _ ((keyA j, .int .i64 (f j)) :: (kv2 f L ++ [(keyA k, .int .i64 c)])) p = _
    unfold findM
    rw [keyEq_pair, decide_eq_false hj.1]
    simp only
    rw [findM_app k c f L (p + 1) hj.2]
    simp only [List.length_cons]
    rw [show p + 1 + L.length = p + (L.length + 1) by omega]
theorem findM_set (k : Nat × Nat) (c : Int) (f : Nat × Nat → Int) : ∀ (L : List (Nat × Nat)) (p : Nat), k ∈ L → findM (keyA k) ((kv2 f L).set (L.idxOf k) (keyA k, .int .i64 c)) p = some (some (p + L.idxOf k, .int .i64 c))
  | [], p, h => by simp at h
  | j :: L, p, h => by
    by_cases hij : k = j
    · subst hij
      show findM _ (((keyA k, .int .i64 (f k)) :: kv2 f L).set ((k :: L).idxOf k) _) p = _
      rw [List.idxOf_cons_self, List.set_cons_zero]
      unfold findM
      rw [keyEq_pair]
      simp
    · have hm : k ∈ L := (List.mem_cons.1 h).resolve_left hij
      show findM _ (((keyA j, .int .i64 (f j)) :: kv2 f L).set ((j :: L).idxOf k) _) p = _
      rw [List.idxOf_cons, show (j == k) = false by rw [beq_eq_false_iff_ne]; exact fun e => hij e.symm]
      simp only [cond_false, List.set_cons_succ]
      unfold findM
      rw [keyEq_pair, decide_eq_false hij]
      simp only
      rw [findM_set k c f L (p + 1) hm]
      rw [show p + 1 + L.idxOf k = p + (L.idxOf k + 1) by omega]
theorem set_self_kv2 (k : Nat × Nat) (f : Nat × Nat → Int) : ∀ (L : List (Nat × Nat)), k ∈ L → (kv2 f L).set (L.idxOf k) (keyA k, .int .i64 (f k)) = kv2 f L := fun L hk => by
  have hlt := List.idxOf_lt_length_of_mem hk
  refine List.ext_getElem (by simp) fun i h1 h2 => ?_
  rw [List.getElem_set]
  split
  · rename_i e
    subst e
    simp [kv2]
  · rfl
/-- a write, and a second one on the same entry -/
theorem memo_put (f : Nat × Nat → Int) (L : List (Nat × Nat)) (k : Nat × Nat) : ∃ (X : Int → List (AVal × AVal)) (p : Nat) (L2 : List (Nat × Nat)), (∀ c, putM (keyA k) (.int .i64 c) (kv2 f L) = some (X c)) ∧ (∀ c, findM (keyA k) (X c) 0 = some (some (p, .int .i64 c))) ∧
    (∀ c, p < (X c).length) ∧ (∀ c c', (X c).set p (keyA k, .int .i64 c') = X c') ∧ X (f k) = kv2 f L2 := by
  by_cases hk : k ∈ L
  · refine ⟨fun c => (kv2 f L).set (L.idxOf k) (keyA k, .int .i64 c), L.idxOf k, L, fun c => ?_, fun c => ?_, fun c => ?_, fun c c' => ?_, set_self_kv2 k f L hk⟩
    · unfold putM
      rw [findM_kv2, if_pos hk]
      simp
    · have := findM_set k c f L 0 hk
      simpa using this
    · have := List.idxOf_lt_length_of_mem hk
      simpa [kv2] using this
    · simp
  · refine ⟨fun c => kv2 f L ++ [(keyA k, .int .i64 c)], L.length, L ++ [k], fun c => ?_, fun c => ?_, fun c => ?_, fun c c' => ?_, by simp [kv2]⟩
    · unfold putM
      rw [findM_kv2, if_neg hk]
    · have := findM_app k c f L 0 hk
      simpa using this
    · simp [kv2]
    · have : (kv2 f L).length = L.length := by simp [kv2]
      rw [← this]
      simp

/- ---- where a formula is forced ---- -/
noncomputable def frc (up : List (List Int)) (val : List (List ByteArray)) (xs : List Nd) (i : Nat) (w : Nat) : Bool :=
  match xs[i]? with
  | none => false
  | some x =>
    if x.k = 1 then inS (val.getD w []) x.s
    else if hh : (0 ≤ x.l ∧ x.l < i) ∧ 0 ≤ x.r ∧ x.r < i then
      (if x.k = 3 then frc up val xs x.l.toNat w && frc up val xs x.r.toNat w
       else if x.k = 4 then frc up val xs x.l.toNat w || frc up val xs x.r.toNat w
       else if x.k = 5 then !((aboveL up w).any fun b => frc up val xs x.l.toNat b && !frc up val xs x.r.toNat b)
       else false)
    else false
  termination_by i
  decreasing_by all_goals omega
section
variable {up : List (List Int)} {val : List (List ByteArray)} {xs : List Nd} {i w : Nat} {x : Nd}
theorem frc_1 (hx : xs[i]? = some x) (hk : x.k = 1) : frc up val xs i w = inS (val.getD w []) x.s := by
  rw [frc, hx]
  exact if_pos hk
theorem frc_2 (hx : xs[i]? = some x) (hk : x.k = 2) : frc up val xs i w = false := by
  rw [frc, hx]
  simp only
  rw [if_neg (by omega)]
  split
  · rw [if_neg (by omega), if_neg (by omega), if_neg (by omega)]
  · rfl
theorem frc_3 (hx : xs[i]? = some x) (hk : x.k = 3) {a b : Nat} (ha : x.l = (a : Int)) (hb : x.r = (b : Int)) (hai : a < i) (hbi : b < i) : frc up val xs i w = (frc up val xs a w && frc up val xs b w) := by
  rw [frc, hx]
  simp only
  rw [if_neg (by omega), dif_pos ⟨⟨by omega, by omega⟩, by omega, by omega⟩, if_pos hk, ha, hb]
  simp only [Int.toNat_natCast]
theorem frc_4 (hx : xs[i]? = some x) (hk : x.k = 4) {a b : Nat} (ha : x.l = (a : Int)) (hb : x.r = (b : Int)) (hai : a < i) (hbi : b < i) : frc up val xs i w = (frc up val xs a w || frc up val xs b w) := by
  rw [frc, hx]
  simp only
  rw [if_neg (by omega), dif_pos ⟨⟨by omega, by omega⟩, by omega, by omega⟩, if_neg (by omega), if_pos hk, ha, hb]
  simp only [Int.toNat_natCast]
theorem frc_5 (hx : xs[i]? = some x) (hk : x.k = 5) {a b : Nat} (ha : x.l = (a : Int)) (hb : x.r = (b : Int)) (hai : a < i) (hbi : b < i) : frc up val xs i w = !((aboveL up w).any fun v => frc up val xs a v && !frc up val xs b v) := by
  rw [frc, hx]
  simp only
  rw [if_neg (by omega), dif_pos ⟨⟨by omega, by omega⟩, by omega, by omega⟩, if_neg (by omega), if_neg (by omega), if_pos hk, ha, hb]
  simp only [Int.toNat_natCast]
end

/- ---- is there one? asked of a function that remembers ---- -/
theorem idxFIm_loop {J : Heap → Prop} {v f : AVal} {l : List Int} {p : Int → Bool} (hv : Ints v l) (hm : l.length ≤ 1073741824)
    (hf : ∀ s ∈ l, ∀ (h : Heap) (K : AVal → Heap → Prop), J h → (∀ h', J h' → K (.bool (p s)) h') → callV prog f [.int .i64 s] h K) (hk : ∀ (n : Int) (h' : Heap), (0 ≤ n ↔ ∃ s ∈ l, p s = true) → J h' → K (.int .i64 n) h') : ∀ (d i : Nat) (h : Heap), i + d = l.length → (∀ s ∈ l.take i, p s = false) → J h →
    s109l1 K (d + 1) v f (l.length : Int) (i : Int) h
  | 0, i, h, hd, hn, j => by
    unfold s109l1
    refine ifT_neg (by simp; omega) (retG_of (hk _ _ ?_ j))
    rw [List.take_of_length_le (by omega)] at hn
    constructor
    · intro h0; omega
    · rintro ⟨s, hs, hp⟩; rw [hn s hs] at hp; cases hp
  | d + 1, i, h, hd, hn, j => by
    have hi : i < l.length := by omega
    unfold s109l1
    refine ifT_pos (by simp; omega) ?_
    rw [hv.ix hi, ld1_lptr, tInt_int]
    refine hf _ (List.getElem_mem hi) _ _ j fun h' j' => ?_
    rw [tBool_bool]
    cases he : p l[i] with
    | true => exact ifT_pos rfl (retG_of (hk _ _ ⟨fun _ => ⟨_, List.getElem_mem hi, he⟩, fun _ => by omega⟩ j'))
    | false =>
      refine ifT_neg rfl (rg_of (by omega) (by omega) (s109l1_go (idxFIm_loop hv hm hf hk d (i + 1) h' (by omega) ?_ j')))
      rw [List.take_succ_eq_append_getElem hi]
      intro s hs
      rcases List.mem_append.1 hs with hs | hs
      · exact hn s hs
      · simp at hs; rw [hs, he]
theorem containsFIm_ok {J : Heap → Prop} {v f : AVal} {l : List Int} {p : Int → Bool} (hv : Ints v l) (hm : l.length ≤ 1073741824)
    (hf : ∀ s ∈ l, ∀ (h : Heap) (K : AVal → Heap → Prop), J h → (∀ h', J h' → K (.bool (p s)) h') → callV prog f [.int .i64 s] h K) (j : J h) (hk : ∀ h', J h' → K (.bool (l.any p)) h') : ACalls prog 96 [v, f] h K := by
  refine s96_ok (callG_of (s109_ok ?_))
  unfold s109
  rw [hv.len]
  refine s109l1_in (l.length + 1) (idxFIm_loop hv hm hf (fun n h' hn j' => ?_) l.length 0 h (by omega) (by simp) j)
  rw [tInt_int]
  refine retG_of ?_
  have := hk h' j'
  rwa [show decide (0 ≤ n) = l.any p by rw [Bool.eq_iff_iff]; simpa using hn]
end Go.Proofs.YtobpfhmjdoekfaaGreat

namespace Go.Proofs.YtobpfhmjdoekfaaGreat
open Go Go.Sym Go.Proofs.Tryz

variable {h h0 hb : Heap}

theorem nilCheckA_lptr (l : List AVal) (X : AVal → Prop) : nilCheckA (.lptr l) X = X (.lptr l) := rfl
/-- what is known of a world and a formula -/
noncomputable def knV (up : List (List Int)) (val : List (List ByteArray)) (xs : List Nd) (p : Nat × Nat) : Int := if frc up val xs p.2 p.1 = true then 2 else 1
noncomputable def eyeV (t mU mV : AVal) (up : List (List Int)) (rm : Nat) : AVal := .lptr [t, mU, mV, ordLit up, .mapr rm]
/-- the eye's memory -/
abbrev EM (hb : Heap) (rm : Nat) (up : List (List Int)) (val : List (List ByteArray)) (xs : List Nd) (L : List (Nat × Nat)) (R : List Ow) (h : Heap) : Prop := Own hb (.cell rm (.map (kv2 (knV up val xs) L)) :: R) h

section
variable {t mU mV : AVal} {up : List (List Int)} {val : List (List ByteArray)} {xs : List Nd} {rm : Nat}

theorem memo_write {L : List (Nat × Nat)} {R : List Ow} (W : EM hb rm up val xs L R h) {i w : Nat} {b : Bool} (hf : frc up val xs i w = b) {K : AVal → Heap → Prop} (hk : ∀ L' h', EM hb rm up val xs L' R h' → K (.bool b) h') :
    s53c1 K (w : Int) (i : Int) (.lptr [eyeV t mU mV up rm]) b h := by
  obtain ⟨X, p, L2, h1, h2, h3, h4, h5⟩ := memo_put (knV up val xs) L (w, i)
  have hkey : AVal.agg [.int .i64 (w : Int), .int .i64 (i : Int)] = keyA (w, i) := rfl
  unfold s53c1
  rw [ld1_lptr]
  unfold eyeV
  rw [nilCheckA_lptr, addOff_lptr]
  simp only [List.drop_succ_cons, List.drop_zero, ld1_lptr]
  rw [hkey]
  refine Eq.mpr (mapPut_map (W.get 0 _ rm rfl rfl) (h1 1) _) ?_
  have W2 : Own hb (.cell rm (.map (X 1)) :: R) _ := W.put (i := 0) rfl (.map (X 1))
  cases b with
  | false =>
    refine ifT_neg rfl (retG_of ?_)
    have e : knV up val xs (w, i) = 1 := by unfold knV; rw [if_neg (by simp [hf])]
    rw [e] at h5
    rw [h5] at W2 ⊢
    exact hk L2 _ W2
  | true =>
    refine ifT_pos rfl ?_
    rw [nilCheckA_lptr, addOff_lptr]
    simp only [List.drop_succ_cons, List.drop_zero, ld1_lptr]
    have hr := W2.get 0 _ rm rfl rfl
    have hr' : (h.set rm (.map (X 1))) rm = some (.map (X 1)) := hr
    have get1 : ∀ (H : Heap) (Y : AVal → Bool → Prop), H rm = some (.map (X 1)) → Y (.int .i64 1) true → mapGet (.int .i64 0) H (.mapr rm) (keyA (w, i)) Y := fun H Y hH hY => by
      unfold mapGet mapGetR entsA
      simp only [hH, h2 1]
      exact hY
    refine get1 _ _ hr' ?_
    rw [tInt_int]
    refine rg_of (by omega) (by omega) ?_
    unfold mapEnt
    simp only [hr', h2 1]
    intro b
    rw [h4 1 1]
    refine ⟨?_, ?_⟩
    · unfold mapGet mapGetR entsA
      simp only [Heap.set_same, h2 1]
    · unfold entSt
      simp only [Heap.set_same]
      refine ⟨trivial, ?_⟩
      have hp := h3 1
      have hx : (X 1)[p]? = some (X 1)[p] := List.getElem?_eq_getElem hp
      have hkey1 : (X 1)[p].1 = keyA (w, i) := by
        have e := h4 1 1
        have := congrArg (fun l => l[p]?) e
        simp only [List.getElem?_set_self hp] at this
        rw [hx] at this
        rw [← Option.some.inj this]
      rw [hx]
      simp only
      rw [hkey1]
      have e2 : (X 1).set p (keyA (w, i), .int .i64 (1 + 1)) = X 2 := h4 1 2
      rw [e2, Heap.set_set]
      have W3 : Own hb (.cell rm (.map (X 2)) :: R) _ := W2.put (i := 0) rfl (.map (X 2))
      have e : knV up val xs (w, i) = 2 := by unfold knV; rw [if_pos (by simpa using hf)]
      rw [e] at h5
      rw [h5] at W3 ⊢
      exact retG_of (hk L2 _ W3)
end
end Go.Proofs.YtobpfhmjdoekfaaGreat

namespace Go.Proofs.YtobpfhmjdoekfaaGreat
open Go Go.Sym Go.Proofs.Tryz

variable {h h0 hb : Heap} {t mU mV : AVal} {up : List (List Int)} {val : List (List ByteArray)} {xs : List Nd} {rm : Nat}

theorem EM.known {L : List (Nat × Nat)} {R : List Ow} (W : EM hb rm up val xs L R h) (w i : Nat) {X : AVal → Bool → Prop} (yes : ∀ b, X (.int .i64 (knV up val xs (w, i))) b) (no : X (.int .i64 0) false) : mapGet (.int .i64 0) h (.mapr rm) (.agg [.int .i64 (w : Int), .int .i64 (i : Int)]) X := by
  show mapGet (.int .i64 0) h (.mapr rm) (keyA (w, i)) X
  unfold mapGet mapGetR entsA
  have := W.get 0 _ rm rfl rfl
  simp only [this, Ow.obj, findM_kv2]
  by_cases hk : (w, i) ∈ L
  · simp only [if_pos hk]
    exact yes true
  · simp only [if_neg hk]
    exact no

theorem forces_ok (P : PRd hb t xs) (G : GoodT xs) (S : Small up val) (hn : up.length ≤ 512) (hV : Strss mV val) (hvl : val.length = up.length) :
    ∀ (i w : Nat) (L : List (Nat × Nat)) (R : List Ow) (h : Heap) (K : AVal → Heap → Prop), i < xs.length → w < up.length → EM hb rm up val xs L R h → (∀ L' h', EM hb rm up val xs L' R h' → K (.bool (frc up val xs i w)) h') →
      ACalls prog 53 [eyeV t mU mV up rm, .int .i64 (w : Int), .int .i64 (i : Int)] h K := by
  intro i
  induction i using Nat.strongRecOn with
  | ind i ih =>
  intro w L R h K hi hw W hk
  refine s53_ok ?_
  unfold s53
  refine chk_iff.2 ⟨rfl, ?_⟩
  unfold eyeV
  rw [nilCheckA_lptr, addOff_lptr]
  simp only [List.drop_succ_cons, List.drop_zero, ld1_lptr]
  refine W.known w i (fun b => ?_) ?_
  · rw [tInt_int]
    have hk2 := hk L h W
    unfold knV
    cases hf : frc up val xs i w with
    | true =>
      rw [hf] at hk2
      rw [if_pos rfl]
      exact ifT_pos rfl (retG_of hk2)
    | false =>
      rw [hf] at hk2
      rw [if_neg (by simp)]
      exact ifT_pos rfl (retG_of hk2)
  rw [tInt_int]
  refine ifT_neg rfl ?_
  rw [nilCheckA_lptr, addOff_lptr]
  simp only [List.drop_zero, ld1_lptr]
  refine callG_of (nodeP_ok (P.ext W.old) _ (fun a x ha hx => ?_) (fun hno => ?_))
  rotate_left
  · have := hasN_iff.2 (⟨by omega, by omega⟩ : 0 ≤ (i : Int) ∧ (i : Int) < xs.length)
    rw [this] at hno
    cases hno
  obtain rfl : i = a := by omega
  rw [tTup_tuple, tCons_cons, tCons_cons, tBool_bool, tNil_nil]
  unfold nodeV nodeC
  rw [tAgg_agg, tCons_cons, tInt_int, tCons_cons, tStr_str, tCons_cons, tInt_int, tCons_cons, tInt_int, tNil_nil]
  refine newRow_in fun r1 hr1 => st4 (Heap.set_same _ _ _) rfl rfl ?_
  rw [Heap.set_set, ld1_fld (o := 0) (Heap.set_same _ _ _) rfl, tInt_int]
  have W1 : EM hb rm up val xs L (R ++ [.cell r1 (.row 4 [.agg [.int .i64 x.k, .str x.s, .int .i64 x.l, .int .i64 x.r]])]) (h.set r1 (.row 4 [.agg [.int .i64 x.k, .str x.s, .int .i64 x.l, .int .i64 x.r]])) := W.newC hr1 _
  have rd : ∀ L' h', EM hb rm up val xs L' (R ++ [.cell r1 (.row 4 [.agg [.int .i64 x.k, .str x.s, .int .i64 x.l, .int .i64 x.r]])]) h' → h' r1 = some (.row 4 [.agg [.int .i64 x.k, .str x.s, .int .i64 x.l, .int .i64 x.r]]) := fun L' h' W' => W'.get (R.length + 1) (.cell r1 (.row 4 [.agg [.int .i64 x.k, .str x.s, .int .i64 x.l, .int .i64 x.r]])) r1 (by simp) rfl
  have fin : ∀ (b : Bool) L' h', frc up val xs i w = b → EM hb rm up val xs L' (R ++ [.cell r1 (.row 4 [.agg [.int .i64 x.k, .str x.s, .int .i64 x.l, .int .i64 x.r]])]) h' → s53c1 K (w : Int) (i : Int) (.lptr [.lptr [t, mU, mV, ordLit up, .mapr rm]]) b h' := fun b L' h' hb' W' => by
    have W2 : EM hb rm up val xs L' R h' := Own.pop W'
    exact memo_write W2 hb' (fun L2 h2 W3 => by rw [← hb']; exact hk L2 h2 W3)
  generalize h.set r1 (.row 4 [.agg [.int .i64 x.k, .str x.s, .int .i64 x.l, .int .i64 x.r]]) = H1 at W1 ⊢
  rcases G _ x hx with e | e | ⟨e, ⟨l1, l2⟩, r1', r2'⟩
  · refine ifT_pos (by simpa using e) ?_
    rw [nilCheckA_lptr, addOff_lptr]
    simp only [List.drop_succ_cons, List.drop_zero]
    rw [addOff_lptr]
    simp only [List.drop_succ_cons, List.drop_zero, ld1_lptr]
    have hwl : w < val.length := by omega
    obtain ⟨c, hc, hic⟩ := hV.ix hwl
    rw [hic, ld1_lptr, ld1_fld (o := 1) (rd L _ W1) rfl, tStr_str]
    refine callG_of (containsS_ok hc (S.names _ (List.getElem_mem hwl)).1.1 ?_)
    rw [tBool_bool]
    exact fin _ L _ (by rw [frc_1 hx e, List.getD_eq_getElem?_getD, List.getElem?_eq_getElem hwl]; rfl) W1
  · refine ifT_neg (by simp [e]) (ifT_neg (by simp [e]) (ifT_neg (by simp [e]) (ifT_neg (by simp [e]) ?_)))
    exact fin _ L _ (frc_2 hx e) W1
  · obtain ⟨a, ha'⟩ := Int.eq_ofNat_of_zero_le l1
    obtain ⟨b, hb'⟩ := Int.eq_ofNat_of_zero_le r1'
    have hai : a < i := by omega
    have hbi : b < i := by omega
    rcases e with e | e | e
    · refine ifT_neg (by simp [e]) (ifT_pos (by simp [e]) ?_)
      rw [ld1_fld (o := 2) (rd L _ W1) rfl, tInt_int, ha']
      refine callG_of (ih a hai w L _ _ _ (by omega) hw W1 fun L2 h2 W2 => ?_)
      rw [tBool_bool]
      have hf := frc_3 (up := up) (val := val) (w := w) hx e ha' hb' hai hbi
      cases he : frc up val xs a w with
      | false => exact ifT_neg rfl (fin _ L2 h2 (by rw [hf, he]; rfl) W2)
      | true =>
        refine ifT_pos rfl ?_
        rw [ld1_fld (o := 3) (rd L2 _ W2) rfl, tInt_int, hb']
        refine callG_of (ih b hbi w L2 _ _ _ (by omega) hw W2 fun L3 h3 W3 => ?_)
        rw [tBool_bool]
        exact fin _ L3 h3 (by rw [hf, he]; rfl) W3
    · refine ifT_neg (by simp [e]) (ifT_neg (by simp [e]) (ifT_pos (by simp [e]) ?_))
      rw [ld1_fld (o := 2) (rd L _ W1) rfl, tInt_int, ha']
      refine callG_of (ih a hai w L _ _ _ (by omega) hw W1 fun L2 h2 W2 => ?_)
      rw [tBool_bool]
      have hf := frc_4 (up := up) (val := val) (w := w) hx e ha' hb' hai hbi
      cases he : frc up val xs a w with
      | true => exact ifT_pos rfl (fin _ L2 h2 (by rw [hf, he]; rfl) W2)
      | false =>
        refine ifT_neg rfl ?_
        rw [ld1_fld (o := 3) (rd L2 _ W2) rfl, tInt_int, hb']
        refine callG_of (ih b hbi w L2 _ _ _ (by omega) hw W2 fun L3 h3 W3 => ?_)
        rw [tBool_bool]
        exact fin _ L3 h3 (by rw [hf, he]; rfl) W3
    · refine ifT_neg (by simp [e]) (ifT_neg (by simp [e]) (ifT_neg (by simp [e]) (ifT_pos (by simp [e]) ?_)))
      rw [nilCheckA_lptr, addOff_lptr]
      simp only [List.drop_succ_cons, List.drop_zero, ld1_lptr]
      obtain ⟨eo, heo, hio⟩ := (ordLit_rows (up := up)).ix (i := w) (by rw [ordUp_len]; exact hw)
      rw [ordUp_get hw] at heo
      rw [hio, ld1_lptr]
      have hlen := above_len (up := up) (a := w)
      refine callG_of (containsFIm_ok (J := fun h' => ∃ L', EM hb rm up val xs L' (R ++ [.cell r1 (.row 4 [.agg [.int .i64 x.k, .str x.s, .int .i64 x.l, .int .i64 x.r]])]) h') (p := fun s => frc up val xs a s.toNat && !frc up val xs b s.toNat) heo (by simp [natI]; omega) (fun s hs h2 K2 j hk2 => ?_) ⟨L, W1⟩ fun h2 ⟨L2, W2⟩ => ?_)
      · obtain ⟨c, hc, rfl⟩ := mem_natI.1 hs
        have hcl : c < up.length := List.mem_range.1 (List.mem_filter.1 hc).1
        obtain ⟨L2, W2⟩ := j
        simp only [Int.toNat_natCast] at hk2
        show callG prog 97 ([] ++ [.int .i64 (c : Int)] ++ [.lptr [.lptr [t, mU, mV, ordLit up, .mapr rm]], .ptr r1 0 0]) h2 K2
        refine callG_of (s97_ok ?_)
        unfold s97
        rw [ld1_lptr, addOff_ptr, ld1_fld (o := 0 + 2) (rd L2 _ W2) rfl, tInt_int, ha']
        refine callG_of (ih a hai c L2 _ _ _ (by omega) hcl W2 fun L3 h3 W3 => ?_)
        rw [tBool_bool]
        cases he : frc up val xs a c with
        | false =>
          refine ifT_neg rfl (retG_of ?_)
          have := hk2 h3 ⟨L3, W3⟩
          rw [he] at this
          exact this
        | true =>
          refine ifT_pos rfl ?_
          rw [ld1_lptr, addOff_ptr, ld1_fld (o := 0 + 3) (rd L3 _ W3) rfl, tInt_int, hb']
          refine callG_of (ih b hbi c L3 _ _ _ (by omega) hcl W3 fun L4 h4 W4 => ?_)
          rw [tBool_bool]
          have := hk2 h4 ⟨L4, W4⟩
          rw [he] at this
          exact retG_of this
      · rw [tBool_bool]
        refine fin _ L2 h2 ?_ W2
        rw [frc_5 hx e ha' hb' hai hbi]
        unfold natI
        rw [List.any_map]
        rfl
end Go.Proofs.YtobpfhmjdoekfaaGreat

namespace Go.Proofs.YtobpfhmjdoekfaaGreat
open Go Go.Sym Go.Proofs.Tryz

variable {K : AVal → Heap → Prop} {h h0 hb : Heap} {t mU mV : AVal} {up : List (List Int)} {val : List (List ByteArray)} {xs : List Nd}

theorem look_ok (P : PRd h t xs) (hx : xs.length ≤ 1024) (ht : sc t = true) (S : Small up val) (hU : Intss mU up) (hV : Strss mV val) (bad : ¬ WF up val → K (.tuple [.nilptr, .int .i64 170]) h)
    (good : WF up val → ∀ rm h', EM h rm up val xs [] [] h' → K (.tuple [eyeV t mU mV up rm, .int .i64 0]) h') : ACalls prog 51 [t, .agg [mU, mV]] h K := by
  refine s51_ok ?_
  unfold s51
  refine callG_of (copyP_ok P (by omega) fun r => ?_)
  rw [nilP_ptr]
  refine ifT_neg rfl (callG_of (check_ok S hU hV (fun hW => ?_) (fun W => ?_)))
  · rw [tInt_int]
    exact ifT_pos rfl (retG_of (bad hW))
  · rw [tInt_int]
    have ord : ∀ H : Heap, callG prog 94 [.agg [mU, mV]] H fun v h2 => v = ordLit up ∧ h2 = H := fun H => callG_of (orderF_ok W.max hU S.row W.inR ⟨rfl, rfl⟩)
    refine ifT_neg rfl ⟨ordLit up, ord h, fun rm hrm _ => ⟨ord _, rfl, rfl, chk_iff.2 ⟨ht, chk_iff.2 ⟨rfl, retG_of (good W rm _ ?_)⟩⟩⟩⟩
    exact (Own.start h).newC hrm (.map [])

theorem hasF_ok (P : PRd h t xs) (i : Int) (hk : ∀ h', Ext h h' → K (.bool (hasN xs.length i)) h') : ACalls prog 52 [t, .int .i64 i] h K := by
  refine s52_ok ?_
  unfold s52
  refine callG_of (nodeP_ok P i (fun j x hj hx => ?_) (fun hno => ?_))
  · rw [tTup_tuple, tCons_cons, tCons_cons, tBool_bool, tNil_nil]
    unfold nodeV nodeC
    rw [tAgg_agg, tCons_cons, tInt_int, tCons_cons, tStr_str, tCons_cons, tInt_int, tCons_cons, tInt_int, tNil_nil]
    refine newRow_in fun r hr => st4 (Heap.set_same _ _ _) rfl rfl (retG_of ?_)
    rw [Heap.set_set]
    have hh : hasN xs.length i = true := by
      have := (List.getElem?_eq_some_iff.1 hx).1
      exact hasN_iff.2 ⟨by omega, by omega⟩
    have := hk _ (Ext.new hr (.row 4 [.agg [.int .i64 x.k, .str x.s, .int .i64 x.l, .int .i64 x.r]]))
    rwa [hh] at this
  · rw [tTup_tuple, tCons_cons, tCons_cons, tBool_bool, tNil_nil]
    unfold nodeV nodeC
    rw [tAgg_agg, tCons_cons, tInt_int, tCons_cons, tStr_str, tCons_cons, tInt_int, tCons_cons, tInt_int, tNil_nil]
    refine newRow_in fun r hr => st4 (Heap.set_same _ _ _) rfl rfl (retG_of ?_)
    rw [Heap.set_set]
    have := hk _ (Ext.new hr (.row 4 [.agg [.int .i64 ndZ.k, .str ndZ.s, .int .i64 ndZ.l, .int .i64 ndZ.r]]))
    rwa [hno] at this

/-- the worlds that force a formula -/
noncomputable def onL (up : List (List Int)) (val : List (List ByteArray)) (xs : List Nd) (i : Nat) : List Nat := (List.range up.length).filter (frc up val xs i)

section
variable {rm : Nat}
theorem worldsF_l1 (P : PRd h0 t xs) (G : GoodT xs) (S : Small up val) (W : WF up val) (hV : Strss mV val) {i : Nat} (hi : i < xs.length)
    (good : ∀ v, Ints v (natI (onL up val xs i)) → K (.tuple [v, .int .i64 0]) h0) :
    ∀ d w : Nat, w + d = up.length → ∀ L v h, EM h0 rm up val xs L [.slc 1 v ((natI ((List.range w).filter (frc up val xs i))).map (.int .i64))] h →
      s18l1 K (d + 1) (i : Int) (eyeV t mU mV up rm) v (up.length : Int) (w : Int) h
  | 0, w, hd, L, v, h, M => by
    obtain rfl : w = up.length := by omega
    unfold s18l1
    refine ifT_neg (by simp) ?_
    obtain ⟨v', lv, sv⟩ := M.lit (i := 1) rfl (S := nameOf v) (fun _ h => h) (Lits.refl _)
    exact ⟨nameOf v, _, h0, .tuple (.cons lv (.cons (.refl _) .nil)), Own.toBase M _ (fun n hn => M.new 1 _ n rfl hn), good v' sv⟩
  | d + 1, w, hd, L, v, h, M => by
    have hmax := W.max
    have hw : w < up.length := by omega
    unfold s18l1
    refine ifT_pos (decide_eq_true (by omega)) ?_
    have hsucc := range_filter_succ (frc up val xs i) w
    have hlen : ((natI ((List.range w).filter (frc up val xs i))).map (AVal.int .i64)).length ≤ w := by
      simp only [natI, List.length_map]
      have := List.length_filter_le (frc up val xs i) (List.range w)
      simpa using this
    refine callG_of (forces_ok P G S hmax hV W.len i w L _ _ _ hi hw M fun L2 h2 M2 => ?_)
    rw [tBool_bool]
    cases hf : frc up val xs i w with
    | true =>
      refine ifT_pos rfl (Own.app M2 (i := 1) rfl (by omega) (by omega) fun v3 h3 M3 => rg_of (by omega) (by omega) (s18l1_go ?_))
      refine worldsF_l1 P G S W hV hi good d (w + 1) (by omega) L2 v3 h3 ?_
      rw [hsucc, hf]
      simpa [natI] using M3
    | false =>
      refine ifT_neg rfl (rg_of (by omega) (by omega) (s18l1_go ?_))
      refine worldsF_l1 P G S W hV hi good d (w + 1) (by omega) L2 v h2 ?_
      rw [hsucc, hf]
      simpa using M2
end

theorem worldsF_ok (P : PRd h t xs) (G : GoodT xs) (hx : xs.length ≤ 1024) (ht : sc t = true) (S : Small up val) (hU : Intss mU up) (hV : Strss mV val) (i : Int) (bad : ¬ WF up val → K (.tuple [.nilsl, .int .i64 170]) h) (no : WF up val → hasN xs.length i = false → K (.tuple [.nilsl, .int .i64 31]) h)
    (good : WF up val → ∀ j : Nat, i = (j : Int) → j < xs.length → ∀ v, Ints v (natI (onL up val xs j)) → K (.tuple [v, .int .i64 0]) h) : ACalls prog 18 [t, .agg [mU, mV], .int .i64 i] h K := by
  refine s18_ok ?_
  unfold s18
  refine callG_of (look_ok P hx ht S hU hV (fun hW => ?_) (fun W rm h' M => ?_))
  · rw [tTup_tuple, tCons_cons, tCons_cons, tInt_int, tNil_nil]
    exact ifT_pos rfl (retG_of (bad hW))
  · rw [tTup_tuple, tCons_cons, tCons_cons, tInt_int, tNil_nil]
    refine ifT_neg rfl (callG_of (hasF_ok (P.ext M.old) i fun h2 x => ?_))
    rw [tBool_bool]
    have M2 : EM h rm up val xs [] [] h2 := Own.ext M x
    cases hh : hasN xs.length i with
    | false => exact ifT_pos rfl (retG_drop M2.old (no W hh))
    | true =>
      obtain ⟨j, y, rfl, hy⟩ := hasN_get hh
      have hj := (List.getElem?_eq_some_iff.1 hy).1
      refine ifT_neg rfl ?_
      rw [hU.len]
      refine s18l1_in (up.length + 1) (worldsF_l1 P G S W hV hj (good W j rfl hj) up.length 0 (by omega) [] .nilsl h2 ?_)
      exact Own.newN M2 1
end Go.Proofs.YtobpfhmjdoekfaaGreat

namespace Go.Proofs.YtobpfhmjdoekfaaGreat
open Go Go.Sym Go.Proofs.Tryz

theorem mUp_len (n : Nat) : (mUp n).length = n := by simp [mUp]
theorem mVal_len (n : Nat) (s : ByteArray) : (mVal n s).length = n := by simp [mVal]
theorem mUp_step {n a b : Nat} : Step (mUp n) a b ↔ a < n ∧ a - 3 ≤ b ∧ b < a - 1 := by
  unfold Step mUp
  constructor
  · rintro ⟨r, hr, hb⟩
    have ha : a < n := by
      have := (List.getElem?_eq_some_iff.1 hr).1
      simpa using this
    rw [range_get _ ha] at hr
    cases hr
    obtain ⟨c, hc, e⟩ := mem_natI.1 hb
    unfold upRow at hc
    rw [List.mem_range'_1] at hc
    omega
  · rintro ⟨ha, h1, h2⟩
    refine ⟨_, range_get _ ha, mem_natI.2 ⟨b, ?_, rfl⟩⟩
    unfold upRow
    rw [List.mem_range'_1]
    omega
theorem mUp_reach {n : Nat} {w : Nat} (hw : w < n) (b : Nat) : Reach (mUp n) w b ↔ b = w ∨ b + 2 ≤ w := by
  constructor
  · intro h
    induction h with
    | refl => exact .inl rfl
    | tail _ hs ih =>
      have := mUp_step.1 hs
      omega
  · intro h
    rcases h with rfl | h
    · exact .refl
    · induction w using Nat.strongRecOn with
      | ind w ih =>
        by_cases e : w ≤ b + 3
        · exact .tail .refl (mUp_step.2 ⟨hw, by omega, by omega⟩)
        · exact Reach.trans (.tail .refl (mUp_step.2 ⟨hw, by omega, by omega⟩)) (ih (w - 2) (by omega) (by omega) (by omega))
theorem mUp_inR (n : Nat) : InR (mUp n) := by
  intro r hr b hb
  obtain ⟨w, hw, rfl⟩ := List.mem_map.1 hr
  obtain ⟨c, hc, rfl⟩ := mem_natI.1 hb
  unfold upRow at hc
  rw [List.mem_range'_1] at hc
  rw [mUp_len]
  have := List.mem_range.1 hw
  omega
theorem mUp_above {n w b : Nat} (hw : w < n) : b ∈ aboveL (mUp n) w ↔ b = w ∨ b + 2 ≤ w := by
  rw [mem_aboveL (mUp_inR n) (by rw [mUp_len]; exact hw)]
  exact mUp_reach hw b
theorem mVal_get {n w : Nat} (s : ByteArray) (hw : w < n) : (mVal n s).getD w [] = vRow s w := by
  unfold mVal
  rw [List.getD_eq_getElem?_getD, range_get _ hw]
  rfl
theorem mWF {n : Nat} {s : ByteArray} (h1 : 1 ≤ n) (h2 : n ≤ 512) (hs : wordB s = true) : WF (mUp n) (mVal n s) where
  pos := by rw [mUp_len]; exact h1
  max := by rw [mUp_len]; exact h2
  len := by rw [mUp_len, mVal_len]
  inR := mUp_inR n
  fine l hl := by
    obtain ⟨w, hw, rfl⟩ := List.mem_map.1 hl
    unfold vRow
    split
    · simp [fineB, fine1, List.range', hs]
    · rfl
  cond a b ha hb hR hne := by
    rw [mUp_len] at ha hb
    have h3 := (mUp_reach ha b).1 hR
    refine ⟨fun h => ?_, fun x hx => ?_⟩
    · have := (mUp_reach hb a).1 h
      omega
    · rw [mVal_get s ha] at hx
      unfold vRow at hx
      split at hx
      · omega
      · cases hx
theorem frc_rung {n : Nat} {p : ByteArray} {xs : List Nd} (G : GoodT xs) : ∀ (j : Nat), (∀ c x, Sub xs j c → xs[c]? = some x → x.k = 1 → x.s = p) → ∀ w, w < n → frc (mUp n) (mVal n p) xs j w = (rungOf xs j).has w := by
  intro j
  induction j using Nat.strongRecOn with
  | ind j ih =>
  intro hp w hw
  cases hx : xs[j]? with
  | none => rw [frc, rungOf, hx]; simp [Rung.has, Rung.zero]
  | some x =>
    rcases G _ x hx with e | e | ⟨e, ⟨l1, l2⟩, r1', r2'⟩
    · rw [frc_1 hx e, rungOf_1 hx e, mVal_get p hw, hp j x (.refl _) hx e]
      unfold vRow
      by_cases h0 : w = 0
      · subst h0; simp [inS, Rung.has]
      · rw [if_neg h0]
        simp [inS, Rung.has]
        omega
    · rw [frc_2 hx e, rungOf_2 hx e]; simp [Rung.has, Rung.zero]
    · obtain ⟨a, ha'⟩ := Int.eq_ofNat_of_zero_le l1
      obtain ⟨b, hb'⟩ := Int.eq_ofNat_of_zero_le r1'
      have hai : a < j := by omega
      have hbi : b < j := by omega
      have hk3 : 3 ≤ x.k := by omega
      have fa := ih a hai (fun c y hc => hp c y (.step ⟨x, hx, hk3, .inl ha'⟩ hc))
      have fb := ih b hbi (fun c y hc => hp c y (.step ⟨x, hx, hk3, .inr hb'⟩ hc))
      rcases e with e | e | e
      · rw [frc_3 hx e ha' hb' hai hbi, rungOf_3 hx e ha' hb' hai hbi, Bool.eq_iff_iff, meet_has, fa w hw, fb w hw, Bool.and_eq_true]
      · rw [frc_4 hx e ha' hb' hai hbi, rungOf_4 hx e ha' hb' hai hbi, Bool.eq_iff_iff, join_has, fa w hw, fb w hw, Bool.or_eq_true]
      · rw [frc_5 hx e ha' hb' hai hbi, rungOf_5 hx e ha' hb' hai hbi, Bool.eq_iff_iff, imp_has, Bool.not_eq_true', List.any_eq_false]
        constructor
        · intro hall
          have one : ∀ v, v = w ∨ v + 2 ≤ w → barB (rungOf xs a) (rungOf xs b) v = true := fun v hv => by
            have := hall v ((mUp_above hw).2 hv)
            rw [fa v (by omega), fb v (by omega)] at this
            unfold barB
            cases e1 : ((rungOf xs a).has v && !(rungOf xs b).has v) with
            | true => exact absurd e1 this
            | false => rfl
          exact ⟨one w (.inl rfl), fun v hv => one v (.inr hv)⟩
        · rintro ⟨h1, h2⟩ v hv
          have hv' := (mUp_above hw).1 hv
          have hb : barB (rungOf xs a) (rungOf xs b) v = true := by
            rcases hv' with rfl | hv'
            · exact h1
            · exact h2 v hv'
          rw [fa v (by omega), fb v (by omega)]
          unfold barB at hb
          intro e1
          rw [e1] at hb
          cases hb
end Go.Proofs.YtobpfhmjdoekfaaGreat

namespace Go.Proofs.YtobpfhmjdoekfaaGreat
open Go Go.Sym Go.Proofs.Tryz

variable {K : AVal → Heap → Prop} {h h0 hb : Heap}

theorem rK_has (r : Rung) (w : Nat) : (rK r.num).has w = r.has w := by
  unfold Rung.num
  by_cases ha : r.all = true
  · rw [if_pos ha]
    simp [rK, Rung.has, ha]
  · have ha' : r.all = false := by simpa using ha
    rw [if_neg ha]
    by_cases hg : r.gap = true
    · rw [if_pos hg]
      unfold rK
      rw [if_neg (by omega), if_neg (by omega), if_neg (by omega)]
      unfold Rung.has
      rw [ha', hg, Bool.eq_iff_iff]
      simp
      omega
    · have hg' : r.gap = false := by simpa using hg
      rw [if_neg hg]
      by_cases h0 : r.low = 0
      · rw [if_pos h0]
        simp [rK, Rung.has, Rung.zero, ha', hg', h0]
      · rw [if_neg h0]
        unfold rK
        rw [if_neg (by omega), if_neg (by omega), if_pos (by omega)]
        unfold Rung.has
        rw [ha', hg', Bool.eq_iff_iff]
        simp

theorem filter_at (p : Nat → Bool) {n w : Nat} (hw : w < n) (hp : p w = true) : ((List.range n).filter p)[((List.range w).filter p).length]? = some w := by
  have e : List.range n = List.range (w + 1) ++ List.range' (w + 1) (n - (w + 1)) := by
    have h := (List.range'_append_1 : List.range' 0 (w + 1) ++ List.range' (0 + (w + 1)) (n - (w + 1)) = List.range' 0 (w + 1 + (n - (w + 1))))
    rw [Nat.zero_add, show w + 1 + (n - (w + 1)) = n by omega] at h
    rw [List.range_eq_range', List.range_eq_range', h]
  rw [e, List.filter_append, range_filter_succ, hp, if_pos rfl, List.append_assoc, List.getElem?_append_right (Nat.le_refl _)]
  simp

def pN : ByteArray := ByteArray.mk #[112]
theorem pN_word : wordB pN = true := by decide +kernel

theorem forcesL_l4 (H : HeadsOK) (hk : ∀ h', K (.bool true) h') {up : List (List Int)} {n : Nat} (hn : n ≤ 512) {on : AVal} {k : Int} {p : Nat → Bool} (hK : ∀ w, w < n → (rK k).has w = p w) (h1 : -1 ≤ k) (h2 : k ≤ 1000000) (ho : Ints on (natI ((List.range n).filter p))) :
    ∀ (d w : Nat) (h : Heap), w + d = n → s5l4 K (d + 1) (n : Int) k on 0 (((List.range w).filter p).length : Int) (w : Int) h
  | 0, w, h, hd => by
    obtain rfl : w = n := by omega
    unfold s5l4
    refine ifT_neg (by simp) (callG_of (num26_ok ?_))
    rw [tInt_int]
    refine ifT_pos rfl ?_
    rw [ho.len]
    exact ifT_pos (by simp [natI]) (headsRet H hk)
  | d + 1, w, h, hd => by
    have hw : w < n := by omega
    have hF := List.length_filter_le p (List.range w)
    rw [List.length_range] at hF
    have hsucc := range_filter_succ p w
    unfold s5l4
    refine ifT_pos (decide_eq_true (by omega)) (callG_of (hasD_ok h1 h2 w ?_))
    rw [tBool_bool, hK w hw]
    cases hp : p w with
    | false =>
      refine ifT_pos rfl (rg_of (by omega) (by omega) (s5l4_go ?_))
      have := forcesL_l4 (up := up) H hk hn hK h1 h2 ho d (w + 1) h (by omega)
      rw [hsucc, hp] at this
      simpa using this
    | true =>
      have hat := filter_at p hw hp
      have hlt := (List.getElem?_eq_some_iff.1 hat).1
      have hlt' : ((List.range w).filter p).length < (natI ((List.range n).filter p)).length := by simpa [natI] using hlt
      refine ifT_neg rfl ?_
      rw [ho.len]
      refine ifT_neg (by simp [natI]; omega) ?_
      rw [ho.ix hlt', ld1_lptr, tInt_int]
      have hg : (natI ((List.range n).filter p))[((List.range w).filter p).length] = (w : Int) := by
        have e := (List.getElem?_eq_some_iff.1 hat).2
        simp only [natI, List.getElem_map]
        rw [e]
      rw [hg]
      refine ifT_neg (by simp) (rg_of (by omega) (by omega) (rg_of (by omega) (by omega) (s5l4_go ?_)))
      have := forcesL_l4 (up := up) H hk hn hK h1 h2 ho d (w + 1) h (by omega)
      rw [hsucc, hp, if_pos rfl] at this
      simpa using this

theorem forcesL_l2 (H : HeadsOK) (hk : ∀ h', K (.bool true) h') {xs : List Nd} {rt rd rm j n : Nat} {vU vV l : AVal} (G : GoodT xs) (hl : xs.length ≤ 1024) (hj : j < xs.length) (h1 : 1 ≤ n) (hn : n ≤ 512)
    (hU : Intss vU (mUp n)) (hV : Strss vV (mVal n pN)) (hv : Ints l (natI (subL xs j))) (P : PRd h (.ptr rt 0 0) xs) (D : DRd h (.ptr rd 0 0) xs) (hm : h rm = some (.row 2 [.agg [vU, vV]])) :
    ∀ (d i : Nat), i + d = (subL xs j).length → (∀ c x, c ∈ (subL xs j).take i → xs[c]? = some x → x.k = 1 → x.s = pN) →
      s5l2 K (d + 1) (j : Int) (n : Int) (.ptr rt 0 0) (.ptr rd 0 0) (rungOf xs j).num (.ptr rm 0 0) l (i : Int) h
  | 0, i, hd, hp => by
    unfold s5l2
    rw [hv.len]
    have hlen : (natI (subL xs j)).length = (subL xs j).length := by simp [natI]
    refine ifT_neg (by rw [hlen]; simp; omega) ?_
    rw [ldN2 hm, tCons_cons, tCons_cons, tNil_nil]
    have S : Small (mUp n) (mVal n pN) := small_m n hn (by decide)
    have W := mWF (s := pN) h1 hn pN_word
    refine callG_of (copy_ok S hU hV fun vU' vV' hU' hV' => ?_)
    rw [tAgg_agg, tCons_cons, tCons_cons, tNil_nil]
    refine callG_of (worldsF_ok P G hl rfl S hU' hV' (j : Int) (fun hW => absurd W hW) (fun _ hno => ?_) (fun _ j' hj' hjl v hvo => ?_))
    · rw [hasN_nat hj] at hno
      cases hno
    · obtain rfl : j = j' := by omega
      rw [tTup_tuple, tCons_cons, tCons_cons, tInt_int, tNil_nil]
      rw [List.take_of_length_le (by omega)] at hp
      have hf : ∀ w, w < n → frc (mUp n) (mVal n pN) xs j w = (rungOf xs j).has w := frc_rung G j (fun c x hc hx hk1 => hp c x ((mem_subL G).2 hc) hx hk1)
      have hlow := rungOf_low G j
      have hnum1 : -1 ≤ (rungOf xs j).num := by unfold Rung.num; split; · omega
                                                split; · omega
                                                split <;> omega
      have hnum2 : (rungOf xs j).num ≤ 1000000 := by unfold Rung.num; split; · omega
                                                     split; · omega
                                                     split <;> omega
      have hon : onL (mUp n) (mVal n pN) xs j = (List.range n).filter (frc (mUp n) (mVal n pN) xs j) := by unfold onL; rw [mUp_len]
      rw [hon] at hvo
      refine s5l4_in (n + 1) ?_
      exact forcesL_l4 (up := mUp n) H hk hn (fun w hw => by rw [rK_has, hf w hw]) hnum1 hnum2 hvo n 0 h (by omega)
  | d + 1, i, hd, hp => by
    have hi : i < (subL xs j).length := by omega
    have hlen : (natI (subL xs j)).length = (subL xs j).length := by simp [natI]
    have hsl := subL_len xs j
    have hc := ((mem_subL G).1 (List.getElem_mem hi)).le G
    have hx := List.getElem?_eq_getElem (show (subL xs j)[i] < xs.length by omega)
    obtain ⟨vN, hR, hld⟩ := D.ld
    unfold s5l2
    rw [hv.len]
    refine ifT_pos (by rw [hlen]; exact decide_eq_true (by omega)) ?_
    have hg : (natI (subL xs j))[i]'(by omega) = (((subL xs j)[i] : Nat) : Int) := by simp [natI]
    rw [hld, hv.ix (i := i) (by omega), ld1_lptr, hg, tInt_int]
    refine hR.fld hx (o := 0) rfl ?_
    rw [tInt_int]
    have next : (∀ x, xs[(subL xs j)[i]]? = some x → x.k = 1 → x.s = pN) → s5c3 K (s5l2_G (s5l2 K (d + 1))) (j : Int) (n : Int) (.ptr rt 0 0) (.ptr rd 0 0) (rungOf xs j).num (.ptr rm 0 0) l (i : Int) false h := fun hq => by
      unfold s5c3
      refine ifT_neg rfl (rg_of (by omega) (by omega) (s5l2_go ?_))
      refine forcesL_l2 H hk G hl hj h1 hn hU hV hv P D hm d (i + 1) (by omega) (fun c x hc hx hk1 => ?_)
      rw [List.take_succ_eq_append_getElem hi] at hc
      rcases List.mem_append.1 hc with hc | hc
      · exact hp c x hc hx hk1
      · rw [List.mem_singleton.1 hc] at hx
        exact hq x hx hk1
    by_cases e : xs[(subL xs j)[i]].k = 1
    · refine ifT_pos (by simpa using e) ?_
      rw [hld, hv.ix (i := i) (by omega), ld1_lptr, hg, tInt_int]
      refine hR.fld hx (o := 1) rfl ?_
      rw [tStr_str]
      by_cases es : xs[(subL xs j)[i]].s = pN
      · rw [show (!strEq xs[(subL xs j)[i]].s (ByteArray.mk #[112])) = false by rw [strEq_dec]; show (!decide (_ = pN)) = false; rw [decide_eq_true es]; rfl]
        exact next (fun x hx' _ => by rw [hx] at hx'; rw [← Option.some.inj hx']; exact es)
      · rw [show (!strEq xs[(subL xs j)[i]].s (ByteArray.mk #[112])) = true by rw [strEq_dec]; show (!decide (_ = pN)) = true; rw [decide_eq_false es]; rfl]
        unfold s5c3
        exact ifT_pos rfl (headsRet H hk)
    · refine ifT_neg (by simpa using e) ?_
      exact next (fun x hx' h1 => by rw [hx] at hx'; rw [← Option.some.inj hx'] at h1; exact absurd h1 e)

theorem forcesL_ok (H : HeadsOK) {v : AVal} {xs : List Nd} (hv : Nodes v xs) (hxs : xs.length ≤ 1048576) (hns : ∀ x ∈ xs, x.s.size ≤ 1073741824) (a n : Int) (hk : ∀ h', K (.bool true) h') : ACalls prog 5 [v, .int .i64 a, .int .i64 n] h K := by
  refine s5_ok ?_
  unfold s5
  refine callG_of (tables_ok hv hxs hns fun ys ok hl hnn rt rd h1 W => ?_)
  rw [tTup_tuple, tCons_cons, tCons_cons, tNil_nil]
  obtain ⟨P, D⟩ := W.reads
  have G := okTab_good ok
  refine callG_of (rungP_f P G hl a ?_)
  rw [tTup_tuple, tCons_cons, tInt_int, tCons_cons, tInt_int, tNil_nil]
  have rest : ∀ (vU vV : AVal) (g : Int), (g = 0 → ∃ m : Nat, n = (m : Int) ∧ 1 ≤ m ∧ m ≤ 512 ∧ Intss vU (mUp m) ∧ Strss vV (mVal m pN)) →
      (Sym.newRow 2 [(.agg [.nilsl, .nilsl])] h1 fun r h_3 => st false h_3 (.ptr r 0 0) [vU, vV] fun h_4 => callG prog 9 [(.int .i64 (rungOut ys a).2)] h_4 fun v49 h_13 => tInt .i64 v49 fun v50 =>
        ifT (v50 != 0) (s5c1 K a n (.ptr rt 0 0) (.ptr rd 0 0) (rungOut ys a).1 (.ptr r 0 0) true h_13) (
          callG prog 9 [(.int .i64 g)] h_13 fun v51 h_14 => tInt .i64 v51 fun v52 => s5c1 K a n (.ptr rt 0 0) (.ptr rd 0 0) (rungOut ys a).1 (.ptr r 0 0) (v52 != 0) h_14)) := by
    intro vU vV g hg
    refine newRow_in fun r hr => st_all (Heap.set_same _ _ _) rfl (callG_of (num26_ok ?_))
    rw [Heap.set_set, tInt_int]
    have D2 := D.ext (h' := h1.set r (.row 2 [.agg [vU, vV]])) (Heap.set_sub hr)
    have P2 := P.ext (h' := h1.set r (.row 2 [.agg [vU, vV]])) (Heap.set_sub hr)
    by_cases he : (rungOut ys a).2 = 0
    · refine ifT_neg (by simp [he]) (callG_of (num26_ok ?_))
      rw [tInt_int]
      unfold s5c1
      by_cases h0 : g = 0
      · refine ifT_neg (by simp [h0]) ?_
        obtain ⟨m, rfl, hm1, hm2, hU, hV⟩ := hg h0
        cases hh : hasN ys.length a with
        | false => rw [out_no hh] at he; cases he
        | true =>
          obtain ⟨j, y, rfl, hy⟩ := hasN_get hh
          have hj := (List.getElem?_eq_some_iff.1 hy).1
          by_cases hat : 1 < (atomL ys j).length
          · rw [out_many hj hat] at he; cases he
          · rw [out_yes hj (by omega)]
            refine callG_of (belowT_ok D2 G hl hj fun l hvl => ?_)
            rw [tTup_tuple, tCons_cons, tCons_cons, tInt_int, tNil_nil]
            refine s5l2_in ((subL ys j).length + 1) ?_
            exact forcesL_l2 H hk G hl hj hm1 hm2 hU hV hvl P2 D2 (Heap.set_same _ _ _) _ 0 (by omega) (fun c x hc => by simp at hc)
      · exact ifT_pos (by simpa using h0) (headsRet H hk)
    · refine ifT_pos (by simpa using he) ?_
      unfold s5c1
      exact ifT_pos rfl (headsRet H hk)
  refine callG_of (modelP_ok (s := ByteArray.mk #[112]) (by decide) n (fun hw => ?_) (fun _ hn => ?_) (fun _ hn1 hn2 vU vV hU hV => ?_))
  · have := pN_word
    unfold pN at this
    rw [this] at hw
    cases hw
  · rw [tTup_tuple, tCons_cons, tCons_cons, tInt_int, tNil_nil, tAgg_agg, tCons_cons, tCons_cons, tNil_nil]
    exact rest _ _ 2 (fun h => by omega)
  · rw [tTup_tuple, tCons_cons, tCons_cons, tInt_int, tNil_nil, tAgg_agg, tCons_cons, tCons_cons, tNil_nil]
    exact rest _ _ 0 (fun _ => ⟨n.toNat, by omega, by omega, by omega, hU, hV⟩)
end Go.Proofs.YtobpfhmjdoekfaaGreat

/- Abstract values, abstract memory, and what it means that they stand for the model's values and memory. No condition: definitions and laws over any program. How the abstract memory follows the model's: a new block, a write, a draw, what is dropped, what becomes literal. No condition: laws over any program. What was written and is written no more becomes literal. No condition: laws over any program. Operations that only compute: what the abstract ones say, and that the model's do just that. No condition: laws over any program. Equality at a type: what is computed is what the model's '==' gives. No condition: laws over any program. Operations that only compute, all together. No condition: laws over any program. Operations that only compute: places in rows, parts of slices, lengths, literals. No condition: laws over any program. Rows that are filled, cells that are stored. No condition: laws over any program. All operations that only compute, as one: 'vop'. No condition: laws over any program. 'vop': what an operation without memory computes. No condition: laws over any program. -/
import Derived.WalkKit
import Derived.Laws.OwnMore
import Derived.KernelRfl
import Derived.RangeFuncRecord
import Derived.Laws.StructEq
import Derived.ChangeKeysEq

set_option linter.unusedVariables false
set_option linter.unusedSimpArgs false

namespace Go.Sym
open Go
inductive AVal where
  | undef
  | bool (b : Bool)
  | int (k : IntKind) (n : Int)
  | str (s : ByteArray)
  | nilptr
  | ptr (r i o : Nat)
  | lptr (cells : List AVal)
  | nilsl
  | sl (r es off len : Nat)
  | lsl (es : Nat) (elems : List AVal)
  | nilmap
  | mapr (r : Nat)
  | func (f : Fn) (first cap : List AVal)
  | nilfunc
  | niliface
  | agg (cells : List AVal)
  | tuple (vs : List AVal)
  | iter (r : Nat)
  deriving Inhabited
def cellsOf : AVal → List AVal
  | .agg cs => cs
  | v => [v]
@[simp] theorem cellsOf_agg (cs : List AVal) : cellsOf (.agg cs) = cs := rfl
def AVal.isAgg : AVal → Bool
  | .agg _ => true
  | _ => false
inductive LSt where
  | ready
  | busy
  | done (jump : Code)
  | over
def LSt.ok : LSt → Loop → Prop
  | .ready, r => r.state = .ready ∧ r.pending = none
  | .busy, r => r.state = .busy
  | .done c, r => r.state = .done ∧ r.pending = some c
  | .over, _ => True
inductive AObj where
  | row (es : Nat) (elems : List AVal)
  | map (entries : List (AVal × AVal))
  | fmap (entries : List (AVal × AVal))
  | miter (left : List (AVal × AVal)) (last : Option (AVal × AVal))
  /-- a map of which one entry's stamp is known -/
  | mapS (entries : List (AVal × AVal)) (i : Nat) (stamp : Int)
  /-- the record of a loop over a function: its block, the temporaries, the loop variables, the code, how it stands -/
  | loop (l N : Nat) (σ : Nat → AVal) (ps : Array Tmp) (assign body : Code) (st : LSt)
def AObj.owned : AObj → Bool
  | .fmap _ => false
  | _ => true
abbrev Heap := Nat → Option AObj
def Heap.set (h : Heap) (r : Nat) (o : AObj) : Heap := fun r' => if r' = r then some o else h r'
def Heap.del (h : Heap) (r : Nat) : Heap := fun r' => if r' = r then none else h r'
@[simp] theorem Heap.set_same (h : Heap) (r : Nat) (o : AObj) : h.set r o r = some o := by simp [Heap.set]
theorem Heap.set_other (h : Heap) {r r' : Nat} (o : AObj) (hne : r' ≠ r) : h.set r o r' = h r' := by simp [Heap.set, hne]
@[simp] theorem Heap.del_same (h : Heap) (r : Nat) : h.del r r = none := by simp [Heap.del]
theorem Heap.del_other (h : Heap) {r r' : Nat} (hne : r' ≠ r) : h.del r r' = h r' := by simp [Heap.del, hne]
class Nam where
  G : Heap → Nat → Prop
  old : ∀ {h : Heap} {n r : Nat} {o o' : AObj}, h r = some o → G h n → G (h.set r o') n
  new : ∀ {h : Heap} {n : Nat} {o : AObj}, h n = none → G h n → G (h.set n o) (n + 1)
  ren : ∀ {h : Heap} {n r : Nat} {o o' : AObj}, h r = some o → h n = none → G h n → G ((h.del r).set n o') (n + 1)
  I : (Nat → Option Obj) → Prop
  mono : ∀ {i i' : Nat → Option Obj}, (∀ b o, i b = some o → i' b = some o) → I i → I i'
instance (priority := low) Nam.any : Nam := ⟨fun _ _ => True, fun _ _ => trivial, fun _ _ => trivial, fun _ _ _ => trivial, fun _ => True, fun _ _ => trivial⟩
structure Place where
  b : Nat
  base : Nat
  es : Nat
  cap : Nat
structure Ghost where
  imm : Nat → Option Obj
  loc : Nat → Option Place
  nref : Nat
  env : World
  mks : Nat → Prop
structure Ghost.Le (κ κ' : Ghost) : Prop where
  imm : ∀ b o, κ.imm b = some o → κ'.imm b = some o
  loc : ∀ r L, κ.loc r = some L → κ'.loc r = some L
  os : κ'.env.os = κ.env.os
  tape : κ'.env.tape = κ.env.tape
  output : κ'.env.output = κ.env.output
  drawn : κ'.env.drawn = κ.env.drawn
  mks : κ'.mks = κ.mks
theorem Ghost.Le.refl (κ : Ghost) : κ.Le κ := ⟨fun _ _ h => h, fun _ _ h => h, rfl, rfl, rfl, rfl, rfl⟩
theorem Ghost.Le.trans {a b c : Ghost} (h : a.Le b) (h' : b.Le c) : a.Le c :=
  ⟨fun x o e => h'.imm x o (h.imm x o e), fun r L e => h'.loc r L (h.loc r L e), h'.os.trans h.os, h'.tape.trans h.tape, h'.output.trans h.output, h'.drawn.trans h.drawn, h'.mks.trans h.mks⟩
mutual
inductive RelV (κ : Ghost) : AVal → Value → Prop
  | undef (x : Value) : RelV κ .undef x
  | bool (b : Bool) : RelV κ (.bool b) (.bool b)
  | int (k : IntKind) (n : Int) : RelV κ (.int k n) (.int k n)
  | str (s : ByteArray) : RelV κ (.str s) (.string s)
  | nilptr : RelV κ .nilptr (.pointer none)
  | ptr {r i o : Nat} {L : Place} (h : κ.loc r = some L) : RelV κ (.ptr r i o) (.pointer (some ⟨L.b, L.base + i * L.es + o, none⟩))
  | lptr {cells : List AVal} {b off : Nat} {C : Array Value} {e : TypeId} {fz : Nat × Nat} (h : κ.imm b = some (.cells C e fz))
      (h1 : ∀ c ∈ (C.toList.drop off).take cells.length, c.oneCell' = true) (hv : RelVs κ cells ((C.toList.drop off).take cells.length)) : RelV κ (.lptr cells) (.pointer (some ⟨b, off, none⟩))
  | nilsl : RelV κ .nilsl (.slice none 0 0)
  | sl {r es off len : Nat} {L : Place} {x : Nat} (h : κ.loc r = some L) (he : L.es = es) (hl : off + len ≤ L.cap) (hm : L.cap ≤ maxLen) (hx : x = L.base + off * L.es ∨ off = L.cap) :
      RelV κ (.sl r es off len) (.slice (some ⟨L.b, x, none⟩) len (L.cap - off))
  | lsl {es : Nat} {elems : List AVal} {b off cap n : Nat} {C : Array Value} {e : TypeId} {fz : Nat × Nat} (h : κ.imm b = some (.cells C e fz))
      (hn : n = elems.length) (hc : n ≤ cap) (hm : cap ≤ maxLen) (h1 : ∀ c ∈ (C.toList.drop off).take (elems.length * es), c.oneCell' = true) (hv : RelEl κ es elems (C.toList.drop off)) : RelV κ (.lsl es elems) (.slice (some ⟨b, off, none⟩) n cap)
  | lsl0 {es cap : Nat} {a : Addr} (hm : cap ≤ maxLen) : RelV κ (.lsl es []) (.slice (some a) 0 cap)
  | nilmap : RelV κ .nilmap (.map none)
  | mapr {r : Nat} {L : Place} (h : κ.loc r = some L) : RelV κ (.mapr r) (.map (some L.b))
  | func {f : Fn} {first cap : List AVal} {fs cs : List Value} (hf : RelVs κ first fs) (hc : RelVs κ cap cs) : RelV κ (.func f first cap) (.func f fs.toArray cs.toArray)
  | nilfunc : RelV κ .nilfunc .nilFunc
  | niliface : RelV κ .niliface .nilIface
  | agg {cs : List AVal} {xs : List Value} (h1 : ∀ x ∈ xs, x.oneCell' = true) (h : RelVs κ cs xs) : RelV κ (.agg cs) (.agg xs.toArray)
  | tuple {cs : List AVal} {xs : List Value} (h : RelVs κ cs xs) : RelV κ (.tuple cs) (.tuple xs.toArray)
  | iter {r : Nat} {L : Place} (h : κ.loc r = some L) : RelV κ (.iter r) (.pointer (some ⟨L.b, 0, none⟩))
inductive RelVs (κ : Ghost) : List AVal → List Value → Prop
  | nil : RelVs κ [] []
  | cons {v : AVal} {x : Value} {vs : List AVal} {xs : List Value} (h : RelV κ v x) (hs : RelVs κ vs xs) : RelVs κ (v :: vs) (x :: xs)
inductive RelC (κ : Ghost) : AVal → List Value → Prop
  | agg {cs : List AVal} {xs : List Value} (h : RelVs κ cs xs) : RelC κ (.agg cs) xs
  | one {v : AVal} {x : Value} (hv : v.isAgg = false) (h : RelV κ v x) : RelC κ v [x]
inductive RelEl (κ : Ghost) : Nat → List AVal → List Value → Prop
  | nil {es : Nat} {xs : List Value} : RelEl κ es [] xs
  | cons {es : Nat} {v : AVal} {vs : List AVal} {xs ys : List Value} (hl : xs.length = es) (h : RelC κ v xs) (hs : RelEl κ es vs ys) : RelEl κ es (v :: vs) (xs ++ ys)
end
structure Ghost.LeW (κ κ' : Ghost) : Prop where
  imm : ∀ (b : Nat) (o : Obj), κ.imm b = some o → (∀ d, o ≠ Obj.deferred d) → κ'.imm b = some o
  loc : ∀ r L, κ.loc r = some L → κ'.loc r = some L
theorem Ghost.Le.w {κ κ' : Ghost} (le : κ.Le κ') : κ.LeW κ' := ⟨fun b o h _ => le.imm b o h, le.loc⟩
mutual
theorem RelV.monoW {κ κ' : Ghost} (le : κ.LeW κ') : ∀ {v : AVal} {x : Value}, RelV κ v x → RelV κ' v x
  | _, _, .undef x => .undef x
  | _, _, .bool b => .bool b
  | _, _, .int k n => .int k n
  | _, _, .str s => .str s
  | _, _, .nilptr => .nilptr
  | _, _, .ptr h => .ptr (le.loc _ _ h)
  | _, _, .lptr h h1 hv => .lptr (le.imm _ _ h (fun _ e => by cases e)) h1 (RelVs.monoW le hv)
  | _, _, .nilsl => .nilsl
  | _, _, .sl h he hl hm hx => .sl (le.loc _ _ h) he hl hm hx
  | _, _, .lsl h hn hc hm h1 hv => .lsl (le.imm _ _ h (fun _ e => by cases e)) hn hc hm h1 (RelEl.monoW le hv)
  | _, _, .lsl0 hm => .lsl0 hm
  | _, _, .nilmap => .nilmap
  | _, _, .mapr h => .mapr (le.loc _ _ h)
  | _, _, .func hf hc => .func (RelVs.monoW le hf) (RelVs.monoW le hc)
  | _, _, .nilfunc => .nilfunc
  | _, _, .niliface => .niliface
  | _, _, .agg h1 h => .agg h1 (RelVs.monoW le h)
  | _, _, .tuple h => .tuple (RelVs.monoW le h)
  | _, _, .iter h => .iter (le.loc _ _ h)
theorem RelVs.monoW {κ κ' : Ghost} (le : κ.LeW κ') : ∀ {vs : List AVal} {xs : List Value}, RelVs κ vs xs → RelVs κ' vs xs
  | _, _, .nil => .nil
  | _, _, .cons h hs => .cons (RelV.monoW le h) (RelVs.monoW le hs)
theorem RelC.monoW {κ κ' : Ghost} (le : κ.LeW κ') : ∀ {v : AVal} {xs : List Value}, RelC κ v xs → RelC κ' v xs
  | _, _, .agg h => .agg (RelVs.monoW le h)
  | _, _, .one hv h => .one hv (RelV.monoW le h)
theorem RelEl.monoW {κ κ' : Ghost} (le : κ.LeW κ') : ∀ {es : Nat} {vs : List AVal} {xs : List Value}, RelEl κ es vs xs → RelEl κ' es vs xs
  | _, _, _, .nil => .nil
  | _, _, _, .cons hl h hs => .cons hl (RelC.monoW le h) (RelEl.monoW le hs)
end
theorem RelV.mono {κ κ' : Ghost} (le : κ.Le κ') {v : AVal} {x : Value} (h : RelV κ v x) : RelV κ' v x := h.monoW le.w
theorem RelVs.mono {κ κ' : Ghost} (le : κ.Le κ') {vs : List AVal} {xs : List Value} (h : RelVs κ vs xs) : RelVs κ' vs xs := h.monoW le.w
theorem RelC.mono {κ κ' : Ghost} (le : κ.Le κ') {v : AVal} {xs : List Value} (h : RelC κ v xs) : RelC κ' v xs := h.monoW le.w
theorem RelEl.mono {κ κ' : Ghost} (le : κ.Le κ') {es : Nat} {vs : List AVal} {xs : List Value} (h : RelEl κ es vs xs) : RelEl κ' es vs xs := h.monoW le.w
theorem win_sub {C : List Value} {a b n m : Nat} (h : ∀ c ∈ (C.drop a).take n, c.oneCell' = true) (h1 : a ≤ b) (h2 : b + m ≤ a + n) : ∀ c ∈ (C.drop b).take m, c.oneCell' = true := by
  intro c hc
  refine h c ?_
  have e : (C.drop b).take m = (((C.drop a).take n).drop (b - a)).take m := by
    rw [List.drop_take, List.drop_drop, List.take_take, show a + (b - a) = b by omega, show min m (n - (b - a)) = m by omega]
  rw [e] at hc
  exact List.mem_of_mem_drop (List.mem_of_mem_take hc)
theorem win_all {C : List Value} {a n : Nat} (h : ∀ c ∈ C, c.oneCell' = true) : ∀ c ∈ (C.drop a).take n, c.oneCell' = true := fun c hc => h c (List.mem_of_mem_drop (List.mem_of_mem_take hc))
inductive RelEs (κ : Ghost) : List (AVal × AVal) → List MapEntry → Prop
  | nil : RelEs κ [] []
  | cons {k v : AVal} {e : MapEntry} {l : List (AVal × AVal)} {es : List MapEntry} (hk : RelV κ k e.key) (hv : RelV κ v e.val) (hs : RelEs κ l es) : RelEs κ ((k, v) :: l) (e :: es)
theorem RelEs.monoW {κ κ' : Ghost} (le : κ.LeW κ') {l : List (AVal × AVal)} {es : List MapEntry} (h : RelEs κ l es) : RelEs κ' l es := by
  induction h with
  | nil => exact .nil
  | cons hk hv _ ih => exact .cons (hk.monoW le) (hv.monoW le) ih
theorem RelEs.mono {κ κ' : Ghost} (le : κ.Le κ') {l : List (AVal × AVal)} {es : List MapEntry} (h : RelEs κ l es) : RelEs κ' l es := h.monoW le.w
def RelO (κ : Ghost) (L : Place) (w : World) : AObj → Prop
  | .row es elems => L.es = es ∧ 0 < es ∧ ∃ C e fz, w.heap[L.b]? = some (.cells C e fz) ∧ (fz.1 = fz.2 ∨ C.size ≤ fz.1) ∧ C.size = L.base + L.cap * es ∧ elems.length ≤ L.cap ∧
      L.cap ≤ maxLen ∧ (∀ c ∈ C.toList, c.oneCell' = true) ∧ RelEl κ es elems (C.toList.drop L.base)
  | .map l => ∃ es clock, w.heap[L.b]? = some (.map es clock) ∧ RelEs κ l es.toList ∧ (∀ e ∈ es.toList, e.born < clock) ∧ es.toList.Pairwise (fun a b => a.born ≠ b.born)
  | .fmap l => ∃ es clock, κ.imm L.b = some (.map es clock) ∧ w.heap[L.b]? = some (.map es clock) ∧ RelEs κ l es.toList ∧ (∀ e ∈ es.toList, e.born < clock) ∧ es.toList.Pairwise (fun a b => a.born ≠ b.born)
  | .mapS l i b => ∃ es clock, w.heap[L.b]? = some (.map es clock) ∧ RelEs κ l es.toList ∧ (∀ e ∈ es.toList, e.born < clock) ∧ es.toList.Pairwise (fun a b => a.born ≠ b.born) ∧ ∃ e, es[i]? = some e ∧ (e.born : Int) = b
  | .miter left last => ∃ m es clock seen, w.heap[L.b]? = some (.mapIter (some m) clock seen clock) ∧ κ.imm m = some (.map es clock) ∧
      (∀ e ∈ es.toList, e.born < clock) ∧ es.toList.Pairwise (fun a b => a.born ≠ b.born) ∧ RelEs κ left (es.filter fun e => !seen.contains e.born).toList ∧
      ∀ kv, last = some kv → ∃ e ∈ es.toList, seen.back? = some e.born ∧ RelV κ kv.1 e.key ∧ RelV κ kv.2 e.val
  | .loop l N σ ps as bd st => L.b = l ∧ ∃ r : Loop, w.heap[L.b]? = some (.loop r) ∧ r.params = ps ∧ r.assign = as ∧ r.body = bd ∧ r.tmps.size = N ∧ (∀ t, RelV κ (σ t) (r.tmps.getD t undef)) ∧ st.ok r
theorem RelO.monoW {κ κ' : Ghost} (le : κ.LeW κ') {L : Place} {w : World} {o : AObj} (h : RelO κ L w o) : RelO κ' L w o := by
  cases o with
  | row es elems =>
    obtain ⟨h1, h2, C, e, fz, h3, h4, h5, h6, h7, h8, h9⟩ := h
    exact ⟨h1, h2, C, e, fz, h3, h4, h5, h6, h7, h8, h9.monoW le⟩
  | map l =>
    obtain ⟨es, clock, h1, h2, h3⟩ := h
    exact ⟨es, clock, h1, h2.monoW le, h3⟩
  | fmap l =>
    obtain ⟨es, clock, h1, h2, h3, h4⟩ := h
    exact ⟨es, clock, le.imm _ _ h1 (fun _ e => by cases e), h2, h3.monoW le, h4⟩
  | mapS l i b =>
    obtain ⟨es, clock, h1, h2, h3⟩ := h
    exact ⟨es, clock, h1, h2.monoW le, h3⟩
  | loop l N σ ps as bd st =>
    obtain ⟨h0, r, h1, h2, h3, h4, h5, h6, h7⟩ := h
    exact ⟨h0, r, h1, h2, h3, h4, h5, fun t => (h6 t).monoW le, h7⟩
  | miter left last =>
    obtain ⟨m, es, clock, seen, h1, h2, h3, h4, h5, h6⟩ := h
    refine ⟨m, es, clock, seen, h1, le.imm _ _ h2 (fun _ e => by cases e), h3, h4, h5.monoW le, fun kv e => ?_⟩
    obtain ⟨x, a, b, c, d⟩ := h6 kv e
    exact ⟨x, a, b, c.monoW le, d.monoW le⟩
theorem RelO.mono {κ κ' : Ghost} (le : κ.Le κ') {L : Place} {w : World} {o : AObj} (h : RelO κ L w o) : RelO κ' L w o := h.monoW le.w
structure RelH0 (κ : Ghost) (h : Heap) (w : World) : Prop where
  imm : ∀ b o, κ.imm b = some o → w.heap[b]? = some o
  obj : ∀ r o, h r = some o → ∃ L, κ.loc r = some L ∧ (o.owned = true → κ.imm L.b = none) ∧ RelO κ L w o
  sep : ∀ r r' o o' L L', h r = some o → h r' = some o' → κ.loc r = some L → κ.loc r' = some L' → L.b = L'.b → r = r'
  fin : ∀ r, κ.nref ≤ r → κ.loc r = none
  os : w.os = κ.env.os
  tape : w.tape = κ.env.tape
  output : w.output = κ.env.output
  drawn : κ.env.drawn ≤ w.drawn
  mks : ∀ b, κ.mks b → ∃ o, κ.imm b = some o
structure RelH [Nam] (κ : Ghost) (h : Heap) (w : World) : Prop extends RelH0 κ h w where
  nam : Nam.G h κ.nref
  glob : Nam.I κ.imm
theorem RelO.lt {κ : Ghost} {L : Place} {w : World} {o : AObj} (h : RelO κ L w o) : L.b < w.heap.size := by
  cases o with
  | row es elems => obtain ⟨_, _, C, e, fz, h3, _⟩ := h; exact (Array.getElem?_eq_some_iff.1 h3).1
  | map l => obtain ⟨es, clock, h1, _⟩ := h; exact (Array.getElem?_eq_some_iff.1 h1).1
  | fmap l => obtain ⟨es, clock, _, h1, _⟩ := h; exact (Array.getElem?_eq_some_iff.1 h1).1
  | mapS l i b => obtain ⟨es, clock, h1, _⟩ := h; exact (Array.getElem?_eq_some_iff.1 h1).1
  | miter left last => obtain ⟨m, es, clock, seen, h1, _⟩ := h; exact (Array.getElem?_eq_some_iff.1 h1).1
  | loop l N σ ps as bd st => obtain ⟨_, r, h1, _⟩ := h; exact (Array.getElem?_eq_some_iff.1 h1).1
theorem RelO.congr {κ : Ghost} {L : Place} {w w' : World} {o : AObj} (h : RelO κ L w o) (hb : w'.heap[L.b]? = w.heap[L.b]?) : RelO κ L w' o := by
  cases o <;> simpa only [RelO, hb] using h
end Go.Sym

namespace Go.Sym
open Go
theorem heap_alloc_new (w : World) (o : Obj) : (w.alloc o).heap[w.heap.size]? = some o := by unfold World.alloc; exact Array.getElem?_push_size
theorem heap_alloc_old (w : World) (o : Obj) {b : Nat} (h : b < w.heap.size) : (w.alloc o).heap[b]? = w.heap[b]? := by
  unfold World.alloc
  rw [Array.getElem?_push, if_neg (by omega)]
section
variable {κ : Ghost} {h : Heap} {w : World}
theorem RelH0.imm_lt (H : RelH0 κ h w) {b : Nat} {o : Obj} (hb : κ.imm b = some o) : b < w.heap.size :=
  (Array.getElem?_eq_some_iff.1 (H.imm b o hb)).1
theorem RelH0.imm_new (H : RelH0 κ h w) : κ.imm w.heap.size = none := by
  cases e : κ.imm w.heap.size with
  | none => rfl
  | some o => exact absurd (H.imm_lt e) (Nat.lt_irrefl _)
theorem RelH0.nref_none (H : RelH0 κ h w) : h κ.nref = none := by
  cases e : h κ.nref with
  | none => rfl
  | some o =>
    obtain ⟨L, hL, _⟩ := H.obj _ _ e
    rw [H.fin _ (Nat.le_refl _)] at hL
    cases hL
theorem RelH0.same (H : RelH0 κ h w) {w' : World} (hh : w'.heap = w.heap) (h1 : w'.os = w.os) (h2 : w'.tape = w.tape) (h3 : w'.output = w.output) (h4 : w.drawn ≤ w'.drawn) : RelH0 κ h w' :=
  ⟨fun b o hb => by rw [hh]; exact H.imm b o hb,
   fun r o hr => by
    obtain ⟨L, a, b, c⟩ := H.obj r o hr
    exact ⟨L, a, b, c.congr (by rw [hh])⟩,
   H.sep, H.fin, h1.trans H.os, h2.trans H.tape, h3.trans H.output, Nat.le_trans H.drawn h4, H.mks⟩
theorem RelH0.drew (H : RelH0 κ h w) : RelH0 κ h w.drew := H.same rfl rfl rfl rfl (Nat.le_succ _)
def Ghost.addImm (κ : Ghost) (b : Nat) (o : Obj) : Ghost := { κ with imm := fun b' => if b' = b then some o else κ.imm b' }
def Ghost.addLoc (κ : Ghost) (L : Place) : Ghost := { κ with loc := fun r => if r = κ.nref then some L else κ.loc r, nref := κ.nref + 1 }
theorem Ghost.le_addImm {b : Nat} (o : Obj) (hb : κ.imm b = none) : κ.Le (κ.addImm b o) :=
  ⟨fun b' o' e => by
    simp only [Ghost.addImm]
    split
    · rename_i e'; subst e'; rw [hb] at e; cases e
    · exact e,
   fun _ _ e => e, rfl, rfl, rfl, rfl, rfl⟩
theorem Ghost.le_addLoc (hf : κ.loc κ.nref = none) (L : Place) : κ.Le (κ.addLoc L) :=
  ⟨fun _ _ e => e,
   fun r L' e => by
    simp only [Ghost.addLoc]
    split
    · rename_i e'; subst e'; rw [hf] at e; cases e
    · exact e,
   rfl, rfl, rfl, rfl, rfl⟩
@[simp] theorem Ghost.addImm_same (b : Nat) (o : Obj) : (κ.addImm b o).imm b = some o := by simp [Ghost.addImm]
@[simp] theorem Ghost.addLoc_same (L : Place) : (κ.addLoc L).loc κ.nref = some L := by simp [Ghost.addLoc]
theorem RelH0.alloc_imm (H : RelH0 κ h w) (o : Obj) : RelH0 (κ.addImm w.heap.size o) h (w.alloc o) where
  imm b o' e := by
    simp only [Ghost.addImm] at e
    split at e
    · rename_i e'; subst e'; cases e; exact heap_alloc_new w o
    · rw [heap_alloc_old w o (H.imm_lt e)]; exact H.imm b o' e
  obj r x hr := by
    obtain ⟨L, a, b, c⟩ := H.obj r x hr
    have hlt := c.lt
    refine ⟨L, a, fun ho => ?_, (c.mono (Ghost.le_addImm o H.imm_new)).congr (heap_alloc_old w o hlt)⟩
    simp only [Ghost.addImm]
    rw [if_neg (by omega)]
    exact b ho
  sep := H.sep
  fin := H.fin
  os := H.os
  tape := H.tape
  output := H.output
  drawn := H.drawn
  mks b hb := by
    obtain ⟨o', ho⟩ := H.mks b hb
    exact ⟨o', (Ghost.le_addImm o H.imm_new).imm _ _ ho⟩
theorem RelH0.alloc_loc (H : RelH0 κ h w) (o : Obj) (x : AObj) (es cap : Nat)
    (hO : RelO (κ.addLoc ⟨w.heap.size, 0, es, cap⟩) ⟨w.heap.size, 0, es, cap⟩ (w.alloc o) x) :
    RelH0 (κ.addLoc ⟨w.heap.size, 0, es, cap⟩) (h.set κ.nref x) (w.alloc o) where
  imm b o' e := by rw [heap_alloc_old w o (H.imm_lt (κ := κ) e)]; exact H.imm b o' e
  obj r y hr := by
    simp only [Heap.set] at hr
    split at hr
    · rename_i e; subst e; cases hr
      exact ⟨_, Ghost.addLoc_same _, fun _ => H.imm_new, hO⟩
    · obtain ⟨L, a, b, c⟩ := H.obj r y hr
      exact ⟨L, (Ghost.le_addLoc (H.fin _ (Nat.le_refl _)) _).loc _ _ a, b, (c.mono (Ghost.le_addLoc (H.fin _ (Nat.le_refl _)) _)).congr (heap_alloc_old w o c.lt)⟩
  sep r r' y y' L L' hr hr' hL hL' hb := by
    simp only [Heap.set] at hr hr'
    simp only [Ghost.addLoc] at hL hL'
    split at hr <;> split at hr'
    · rename_i a b; exact a.trans b.symm
    · rename_i a b
      rw [if_pos a] at hL; rw [if_neg b] at hL'
      cases hL
      obtain ⟨L2, e2, _, c⟩ := H.obj r' y' hr'
      rw [hL'] at e2; cases e2
      have := c.lt
      simp only at hb
      omega
    · rename_i a b
      rw [if_neg a] at hL; rw [if_pos b] at hL'
      cases hL'
      obtain ⟨L2, e2, _, c⟩ := H.obj r y hr
      rw [hL] at e2; cases e2
      have := c.lt
      simp only at hb
      omega
    · rename_i a b
      rw [if_neg a] at hL; rw [if_neg b] at hL'
      exact H.sep r r' y y' L L' hr hr' hL hL' hb
  fin r hr := by
    simp only [Ghost.addLoc] at hr ⊢
    rw [if_neg (by omega)]
    exact H.fin r (by omega)
  os := H.os
  tape := H.tape
  output := H.output
  drawn := H.drawn
  mks := H.mks
theorem RelH0.sub (H : RelH0 κ h w) {h' : Heap} (hs : ∀ r o, h' r = some o → h r = some o) : RelH0 κ h' w :=
  ⟨H.imm, fun r o e => H.obj r o (hs r o e), fun r r' o o' L L' a b c d e => H.sep r r' o o' L L' (hs r o a) (hs r' o' b) c d e, H.fin, H.os, H.tape, H.output, H.drawn, H.mks⟩
theorem RelH0.write (H : RelH0 κ h w) {r : Nat} {o o' : AObj} {L : Place} (hr : h r = some o) (ho : o.owned = true) (hL : κ.loc r = some L) {w' : World}
    (hsame : ∀ b, b ≠ L.b → w'.heap[b]? = w.heap[b]?) (h1 : w'.os = w.os) (h2 : w'.tape = w.tape) (h3 : w'.output = w.output) (h4 : w.drawn ≤ w'.drawn) (hO : RelO κ L w' o') :
    RelH0 κ (h.set r o') w' := by
  have himm : κ.imm L.b = none := by
    obtain ⟨L2, a, b, _⟩ := H.obj r o hr
    rw [hL] at a; cases a
    exact b ho
  refine ⟨fun b x e => ?_, fun r' y e => ?_, fun r1 r2 y1 y2 L1 L2 e1 e2 f1 f2 hb => ?_, H.fin, h1.trans H.os, h2.trans H.tape, h3.trans H.output, Nat.le_trans H.drawn h4, H.mks⟩
  · rw [hsame b (fun e' => by subst e'; rw [himm] at e; cases e)]
    exact H.imm b x e
  · simp only [Heap.set] at e
    split at e
    · rename_i e'; subst e'; cases e
      exact ⟨L, hL, fun _ => himm, hO⟩
    · rename_i hne
      obtain ⟨L2, a, b, c⟩ := H.obj r' y e
      exact ⟨L2, a, b, c.congr (hsame _ (fun hb => hne (H.sep r' r y o L2 L e hr a hL hb)))⟩
  · have hd : ∀ q z, h.set r o' q = some z → ∃ z', h q = some z' := by
      intro q z hq
      simp only [Heap.set] at hq
      split at hq
      · rename_i e'; subst e'; exact ⟨o, hr⟩
      · exact ⟨z, hq⟩
    obtain ⟨z1, g1⟩ := hd _ _ e1
    obtain ⟨z2, g2⟩ := hd _ _ e2
    exact H.sep r1 r2 z1 z2 L1 L2 g1 g2 f1 f2 hb
theorem RelH0.rename (H : RelH0 κ h w) {r : Nat} {o o' : AObj} {L L' : Place} (hr : h r = some o) (ho : o.owned = true) (hL : κ.loc r = some L) (hb : L'.b = L.b) {w' : World}
    (hsame : ∀ b, b ≠ L.b → w'.heap[b]? = w.heap[b]?) (h1 : w'.os = w.os) (h2 : w'.tape = w.tape) (h3 : w'.output = w.output) (h4 : w.drawn ≤ w'.drawn) (hO : RelO (κ.addLoc L') L' w' o') :
    RelH0 (κ.addLoc L') ((h.del r).set κ.nref o') w' := by
  have hne : κ.nref ≠ r := fun e => by
    have := H.fin r (by omega)
    rw [this] at hL; cases hL
  have himm : κ.imm L.b = none := by
    obtain ⟨L2, a, b, _⟩ := H.obj r o hr
    rw [hL] at a; cases a
    exact b ho
  have le : κ.Le (κ.addLoc L') := Ghost.le_addLoc (H.fin _ (Nat.le_refl _)) _
  have hold : ∀ q z, ((h.del r).set κ.nref o') q = some z → q ≠ κ.nref → q ≠ r ∧ h q = some z := by
    intro q z hq hn
    simp only [Heap.set, if_neg hn, Heap.del] at hq
    split at hq
    · cases hq
    · rename_i hr'; exact ⟨hr', hq⟩
  refine ⟨fun b x e => ?_, fun r' y e => ?_, fun r1 r2 y1 y2 L1 L2 e1 e2 f1 f2 hbb => ?_, fun r' hr' => ?_, h1.trans H.os, h2.trans H.tape, h3.trans H.output, Nat.le_trans H.drawn h4, H.mks⟩
  · have e : κ.imm b = some x := e
    rw [hsame b (fun e' => by subst e'; rw [himm] at e; cases e)]
    exact H.imm b x e
  · by_cases hn : r' = κ.nref
    · subst hn
      simp only [Heap.set_same] at e
      cases e
      exact ⟨L', Ghost.addLoc_same _, fun _ => by rw [hb]; exact himm, hO⟩
    · obtain ⟨hn2, e2⟩ := hold r' y e hn
      obtain ⟨L2, a, b, c⟩ := H.obj r' y e2
      exact ⟨L2, le.loc _ _ a, b, (c.mono le).congr (hsame _ (fun hb2 => hn2 (H.sep r' r y o L2 L e2 hr a hL hb2)))⟩
  · have hloc : ∀ q M, q ≠ κ.nref → (κ.addLoc L').loc q = some M → κ.loc q = some M := by
      intro q M hn hq
      simpa only [Ghost.addLoc, if_neg hn] using hq
    by_cases n1 : r1 = κ.nref <;> by_cases n2 : r2 = κ.nref
    · exact n1.trans n2.symm
    · subst n1
      rw [Ghost.addLoc_same] at f1; cases f1
      obtain ⟨a, b⟩ := hold _ _ e2 n2
      exact absurd (H.sep r2 r y2 o L2 L b hr (hloc _ _ n2 f2) hL (hbb.symm.trans hb)) a
    · subst n2
      rw [Ghost.addLoc_same] at f2; cases f2
      obtain ⟨a, b⟩ := hold _ _ e1 n1
      exact absurd (H.sep r1 r y1 o L1 L b hr (hloc _ _ n1 f1) hL (hbb.trans hb)) a
    · obtain ⟨_, a⟩ := hold _ _ e1 n1
      obtain ⟨_, b⟩ := hold _ _ e2 n2
      exact H.sep r1 r2 y1 y2 L1 L2 a b (hloc _ _ n1 f1) (hloc _ _ n2 f2) hbb
  · simp only [Ghost.addLoc] at hr' ⊢
    rw [if_neg (by omega)]
    exact H.fin r' (by omega)
variable [Nam]
theorem RelH.same (H : RelH κ h w) {w' : World} (hh : w'.heap = w.heap) (h1 : w'.os = w.os) (h2 : w'.tape = w.tape) (h3 : w'.output = w.output) (h4 : w.drawn ≤ w'.drawn) : RelH κ h w' := ⟨H.toRelH0.same hh h1 h2 h3 h4, H.nam, H.glob⟩
theorem RelH.drew (H : RelH κ h w) : RelH κ h w.drew := H.same rfl rfl rfl rfl (Nat.le_succ _)
theorem RelH.alloc_imm (H : RelH κ h w) (o : Obj) : RelH (κ.addImm w.heap.size o) h (w.alloc o) := ⟨H.toRelH0.alloc_imm o, H.nam, Nam.mono (Ghost.le_addImm o H.imm_new).imm H.glob⟩
theorem RelH.alloc_loc (H : RelH κ h w) (o : Obj) (x : AObj) (es cap : Nat)
    (hO : RelO (κ.addLoc ⟨w.heap.size, 0, es, cap⟩) ⟨w.heap.size, 0, es, cap⟩ (w.alloc o) x) :
    RelH (κ.addLoc ⟨w.heap.size, 0, es, cap⟩) (h.set κ.nref x) (w.alloc o) := ⟨H.toRelH0.alloc_loc o x es cap hO, Nam.new H.nref_none H.nam, H.glob⟩
theorem RelH.write (H : RelH κ h w) {r : Nat} {o o' : AObj} {L : Place} (hr : h r = some o) (ho : o.owned = true) (hL : κ.loc r = some L) {w' : World}
    (hsame : ∀ b, b ≠ L.b → w'.heap[b]? = w.heap[b]?) (h1 : w'.os = w.os) (h2 : w'.tape = w.tape) (h3 : w'.output = w.output) (h4 : w.drawn ≤ w'.drawn) (hO : RelO κ L w' o') :
    RelH κ (h.set r o') w' := ⟨H.toRelH0.write hr ho hL hsame h1 h2 h3 h4 hO, Nam.old hr H.nam, H.glob⟩
theorem RelH.rename (H : RelH κ h w) {r : Nat} {o o' : AObj} {L L' : Place} (hr : h r = some o) (ho : o.owned = true) (hL : κ.loc r = some L) (hb : L'.b = L.b) {w' : World}
    (hsame : ∀ b, b ≠ L.b → w'.heap[b]? = w.heap[b]?) (h1 : w'.os = w.os) (h2 : w'.tape = w.tape) (h3 : w'.output = w.output) (h4 : w.drawn ≤ w'.drawn) (hO : RelO (κ.addLoc L') L' w' o') :
    RelH (κ.addLoc L') ((h.del r).set κ.nref o') w' := ⟨H.toRelH0.rename hr ho hL hb hsame h1 h2 h3 h4 hO, Nam.ren hr H.nref_none H.nam, H.glob⟩
end
end Go.Sym

namespace Go.Sym
open Go
mutual
inductive Lit (h : Heap) (S : Nat → Prop) : AVal → AVal → Prop
  | refl (v : AVal) : Lit h S v v
  | sl {r off len es : Nat} {elems els : List AVal} (hs : S r) (hr : h r = some (.row es elems)) (hl : off + len ≤ elems.length)
      (ht : Lits h S ((elems.drop off).take len) els) : Lit h S (.sl r es off len) (.lsl es els)
  | ptr {r i o es : Nat} {elems : List AVal} {e : AVal} {cs : List AVal} (hs : S r) (hr : h r = some (.row es elems)) (he : elems[i]? = some e)
      (ht : Lits h S ((cellsOf e).drop o) cs) : Lit h S (.ptr r i o) (.lptr cs)
  | lsl {es : Nat} {elems els : List AVal} (ht : Lits h S elems els) : Lit h S (.lsl es elems) (.lsl es els)
  | lptr {cs ds : List AVal} (ht : Lits h S cs ds) : Lit h S (.lptr cs) (.lptr ds)
  | agg {cs ds : List AVal} (ht : Lits h S cs ds) : Lit h S (.agg cs) (.agg ds)
  | tuple {cs ds : List AVal} (ht : Lits h S cs ds) : Lit h S (.tuple cs) (.tuple ds)
  | func {f : Fn} {a b c d : List AVal} (h1 : Lits h S a b) (h2 : Lits h S c d) : Lit h S (.func f a c) (.func f b d)
  | forget (v : AVal) (hv : v.isAgg = false) : Lit h S v .undef
inductive Lits (h : Heap) (S : Nat → Prop) : List AVal → List AVal → Prop
  | nil : Lits h S [] []
  | cons {v v' : AVal} {vs vs' : List AVal} (hv : Lit h S v v') (hs : Lits h S vs vs') : Lits h S (v :: vs) (v' :: vs')
end
theorem Lits.refl {h : Heap} {S : Nat → Prop} : ∀ vs : List AVal, Lits h S vs vs
  | [] => .nil
  | v :: vs => .cons (.refl v) (Lits.refl vs)
theorem Lits.length {h : Heap} {S : Nat → Prop} : ∀ {vs ws : List AVal}, Lits h S vs ws → ws.length = vs.length
  | _, _, .nil => rfl
  | _, _, .cons _ hs => by simp [Lits.length hs]
theorem Lit.isAgg {h : Heap} {S : Nat → Prop} {v v' : AVal} (hl : Lit h S v v') : v'.isAgg = v.isAgg := by
  cases hl <;> first | rfl | simp_all [AVal.isAgg]
theorem RelVs.length {κ : Ghost} : ∀ {vs : List AVal} {xs : List Value}, RelVs κ vs xs → xs.length = vs.length
  | _, _, .nil => rfl
  | _, _, .cons _ hs => by simp [RelVs.length hs]
theorem RelVs.drop {κ : Ghost} : ∀ {vs : List AVal} {xs : List Value} (n : Nat), RelVs κ vs xs → RelVs κ (vs.drop n) (xs.drop n)
  | _, _, 0, h => by simpa using h
  | _, _, _ + 1, .nil => .nil
  | _, _, n + 1, .cons _ hs => by simpa using RelVs.drop n hs
theorem RelVs.take {κ : Ghost} : ∀ {vs : List AVal} {xs : List Value} (n : Nat), RelVs κ vs xs → RelVs κ (vs.take n) (xs.take n)
  | _, _, 0, _ => by simpa using RelVs.nil
  | _, _, _ + 1, .nil => by simpa using RelVs.nil
  | _, _, n + 1, .cons h hs => by simpa using RelVs.cons h (RelVs.take n hs)
theorem RelVs.get {κ : Ghost} : ∀ {vs : List AVal} {xs : List Value} {i : Nat} {v : AVal}, RelVs κ vs xs → vs[i]? = some v → ∃ x, xs[i]? = some x ∧ RelV κ v x
  | _, _, _, _, .nil, e => by simp at e
  | _, _, 0, _, .cons h _, e => by simp at e; subst e; exact ⟨_, by simp, h⟩
  | _, _, i + 1, _, .cons _ hs, e => by simp at e; simpa using RelVs.get hs e
theorem RelVs.append {κ : Ghost} : ∀ {vs : List AVal} {xs : List Value} {ws : List AVal} {ys : List Value}, RelVs κ vs xs → RelVs κ ws ys → RelVs κ (vs ++ ws) (xs ++ ys)
  | _, _, _, _, .nil, h => h
  | _, _, _, _, .cons h hs, h' => .cons h (RelVs.append hs h')
theorem RelC.cells {κ : Ghost} {v : AVal} {xs : List Value} (h : RelC κ v xs) : RelVs κ (cellsOf v) xs := by
  cases h with
  | agg h => exact h
  | one hv h => cases v <;> first | exact .cons h .nil | simp [AVal.isAgg] at hv
theorem RelC.of_cells {κ : Ghost} {v : AVal} {xs : List Value} (h : RelVs κ (cellsOf v) xs) : RelC κ v xs := by
  cases v with
  | agg cs => exact .agg h
  | _ => cases h with | cons h hs => cases hs; exact .one rfl h
theorem RelEl.drop {κ : Ghost} {es : Nat} : ∀ {vs : List AVal} {xs : List Value} (n : Nat), n ≤ vs.length → RelEl κ es vs xs → RelEl κ es (vs.drop n) (xs.drop (n * es))
  | _, _, 0, _, h => by simpa using h
  | _, _, n + 1, hn, .nil => by simp at hn
  | _, _, n + 1, hn, .cons (xs := a) (ys := b) hl _ hs => by
    have := RelEl.drop n (by simpa using hn) hs
    rw [List.drop_succ_cons]
    have e : (n + 1) * es = a.length + n * es := by rw [hl, Nat.add_mul, Nat.one_mul, Nat.add_comm]
    rw [e, List.drop_append]
    simpa [List.drop_eq_nil_of_le (show a.length ≤ a.length + n * es by omega)] using this
theorem RelEl.take {κ : Ghost} {es : Nat} : ∀ {vs : List AVal} {xs : List Value} (n : Nat), RelEl κ es vs xs → RelEl κ es (vs.take n) xs
  | _, _, 0, _ => by simpa using RelEl.nil
  | _, _, _ + 1, .nil => by simpa using RelEl.nil
  | _, _, n + 1, .cons hl h hs => by simpa using RelEl.cons hl h (RelEl.take n hs)
theorem RelEl.get {κ : Ghost} {es : Nat} : ∀ {vs : List AVal} {xs : List Value} {i : Nat} {v : AVal}, RelEl κ es vs xs → vs[i]? = some v → RelC κ v ((xs.drop (i * es)).take es)
  | _, _, _, _, .nil, e => by simp at e
  | _, _, 0, _, .cons hl h _, e => by
    simp at e; subst e
    simpa [← hl] using h
  | _, _, i + 1, _, .cons (xs := a) (ys := b) hl _ hs, e => by
    simp at e
    have := RelEl.get hs e
    have e2 : (i + 1) * es = a.length + i * es := by rw [hl, Nat.add_mul, Nat.one_mul, Nat.add_comm]
    rw [e2, List.drop_append]
    simpa [List.drop_eq_nil_of_le (show a.length ≤ a.length + i * es by omega)] using this
theorem RelEl.length {κ : Ghost} {es : Nat} : ∀ {vs : List AVal} {xs : List Value}, RelEl κ es vs xs → vs.length * es ≤ xs.length
  | _, _, .nil => by simp
  | _, _, .cons hl _ hs => by
    have := RelEl.length hs
    simp only [List.length_cons, List.length_append, Nat.add_mul, Nat.one_mul]
    omega
open Classical in
noncomputable def Ghost.frz (κ : Ghost) (h : Heap) (w : World) (S : Nat → Prop) : Ghost :=
  { κ with imm := fun b => if (κ.imm b).isSome then κ.imm b else if ∃ r es elems L, S r ∧ h r = some (.row es elems) ∧ κ.loc r = some L ∧ L.b = b then w.heap[b]? else none }
theorem Ghost.le_frz (κ : Ghost) (h : Heap) (w : World) (S : Nat → Prop) : κ.Le (κ.frz h w S) :=
  ⟨fun b o e => by simp [Ghost.frz, e], fun _ _ e => e, rfl, rfl, rfl, rfl, rfl⟩
section
variable {κ : Ghost} {h : Heap} {w : World} {S : Nat → Prop}
theorem frz_row (H : RelH0 κ h w) {r es : Nat} {elems : List AVal} (hs : S r) (hr : h r = some (.row es elems)) :
    ∃ L C e fz, κ.loc r = some L ∧ (κ.frz h w S).imm L.b = some (.cells C e fz) ∧ L.es = es ∧ RelEl κ es elems (C.toList.drop L.base) ∧ L.cap ≤ maxLen ∧ elems.length ≤ L.cap ∧ ∀ c ∈ C.toList, c.oneCell' = true := by
  obtain ⟨L, hL, ho, h1, _, C, e, fz, h2, _, _, h5, h6, h8, h7⟩ := H.obj r _ hr
  refine ⟨L, C, e, fz, hL, ?_, h1, h7, h6, h5, h8⟩
  simp only [Ghost.frz, ho rfl]
  rw [if_neg (by simp), if_pos ⟨r, es, elems, L, hs, hr, hL, rfl⟩]
  exact h2
def LitOK (κ κ' : Ghost) (v v' : AVal) : Prop := (∀ x, RelV κ v x → RelV κ' v' x) ∧ (∀ xs, RelC κ v xs → RelC κ' v' xs)
def LitsOK (κ κ' : Ghost) (vs ws : List AVal) : Prop := (∀ xs, RelVs κ vs xs → RelVs κ' ws xs) ∧ (∀ es xs, RelEl κ es vs xs → RelEl κ' es ws xs)
theorem LitOK.of_one {κ κ' : Ghost} {v v' : AVal} (h1 : v.isAgg = false) (h2 : v'.isAgg = false) (h : ∀ x, RelV κ v x → RelV κ' v' x) : LitOK κ κ' v v' :=
  ⟨h, fun xs hx => by
    cases hx with
    | agg _ => simp [AVal.isAgg] at h1
    | one _ hv => exact .one h2 (h _ hv)⟩
theorem lit_sl (H : RelH0 κ h w) {r off len es : Nat} {elems els : List AVal} (hs : S r) (hr : h r = some (.row es elems)) (hl : off + len ≤ elems.length)
    (ht : Lits h S ((elems.drop off).take len) els) (ih : LitsOK κ (κ.frz h w S) ((elems.drop off).take len) els) (x : Value) (hx : RelV κ (.sl r es off len) x) :
    RelV (κ.frz h w S) (.lsl es els) x := by
  obtain ⟨L, C, e, fz, hL, him, hes, hel, hm, hcap, h1c⟩ := frz_row (S := S) H hs hr
  cases hx with
  | sl h1 _ h2 _ h3 =>
    rename_i L2 a
    rw [hL] at h1; cases h1
    have hlen : els.length = len := by
      rw [Lits.length ht]; simp; omega
    refine .lsl him hlen.symm (by omega) (by omega) (win_all h1c) ?_
    rcases h3 with h3 | h3
    · have := ih.2 es _ (RelEl.take len (RelEl.drop off (by omega) hel))
      rw [List.drop_drop, ← hes, ← h3] at this
      rw [← hes]
      exact this
    · have : len = 0 := by omega
      subst this
      have : els = [] := List.eq_nil_of_length_eq_zero hlen
      subst this
      exact .nil
theorem lit_ptr (H : RelH0 κ h w) {r i o es : Nat} {elems : List AVal} {e : AVal} {cs : List AVal} (hs : S r) (hr : h r = some (.row es elems)) (he : elems[i]? = some e)
    (ih : LitsOK κ (κ.frz h w S) ((cellsOf e).drop o) cs) (x : Value) (hx : RelV κ (.ptr r i o) x) : RelV (κ.frz h w S) (.lptr cs) x := by
  obtain ⟨L, C, te, fz, hL, him, hes, hel, hm, hcap, h1c⟩ := frz_row (S := S) H hs hr
  cases hx with
  | ptr h1 =>
    rw [hL] at h1; cases h1
    refine .lptr him (win_all h1c) ?_
    have h2 := ((hel.get he).cells).drop o
    have h3 := ih.1 _ h2
    have hlen := h3.length
    have e3 : List.drop o (List.take es (List.drop (i * es) (List.drop L.base C.toList))) = List.take (es - o) (List.drop (L.base + i * L.es + o) C.toList) := by
      rw [List.drop_take, List.drop_drop, List.drop_drop, hes]
      congr 2
      omega
    rw [e3] at hlen h3
    rw [← hlen, List.length_take, ← List.take_eq_take_min]
    exact h3
theorem lit_main (H : RelH0 κ h w) : (∀ {v v' : AVal}, Lit h S v v' → LitOK κ (κ.frz h w S) v v') ∧ (∀ {vs ws : List AVal}, Lits h S vs ws → LitsOK κ (κ.frz h w S) vs ws) := by
  have le := Ghost.le_frz κ h w S
  have main : ∀ {v v' : AVal}, Lit h S v v' → LitOK κ (κ.frz h w S) v v' := by
    intro v v' hv
    refine Lit.rec (motive_1 := fun v v' _ => LitOK κ (κ.frz h w S) v v') (motive_2 := fun vs ws _ => LitsOK κ (κ.frz h w S) vs ws)
      ?_ ?_ ?_ ?_ ?_ ?_ ?_ ?_ ?_ ?_ ?_ hv
    · exact fun v => ⟨fun x hx => hx.mono le, fun xs hx => hx.mono le⟩
    · exact fun hs hr hl ht ih => .of_one rfl rfl (lit_sl H hs hr hl ht ih)
    · exact fun hs hr he ht ih => .of_one rfl rfl (lit_ptr H hs hr he ih)
    · intro es elems els ht ih
      refine .of_one rfl rfl fun x hx => ?_
      cases hx with
      | lsl h1 h2 h3 h4 h6 h5 => exact .lsl (le.imm _ _ h1) (by rw [Lits.length ht]; exact h2) h3 h4 (by rw [Lits.length ht]; exact h6) (ih.2 _ _ h5)
      | lsl0 hm => cases ht; exact .lsl0 hm
    · intro cs ds ht ih
      refine .of_one rfl rfl fun x hx => ?_
      cases hx with
      | lptr h1 h3 h2 => exact .lptr (le.imm _ _ h1) (by rw [Lits.length ht]; exact h3) (by rw [Lits.length ht]; exact ih.1 _ h2)
    · intro cs ds ht ih
      refine ⟨fun x hx => ?_, fun xs hx => ?_⟩
      · cases hx with
        | agg h0 h1 => exact .agg h0 (ih.1 _ h1)
      · cases hx with
        | agg h1 => exact .agg (ih.1 _ h1)
        | one hv _ => simp [AVal.isAgg] at hv
    · intro cs ds ht ih
      refine .of_one rfl rfl fun x hx => ?_
      cases hx with
      | tuple h1 => exact .tuple (ih.1 _ h1)
    · intro f a b c d h1 h2 ih1 ih2
      refine .of_one rfl rfl fun x hx => ?_
      cases hx with
      | func g1 g2 => exact .func (ih1.1 _ g1) (ih2.1 _ g2)
    · exact fun v hv => .of_one hv rfl fun x _ => .undef x
    · refine ⟨fun xs hx => ?_, fun es xs hx => ?_⟩
      · cases hx; exact .nil
      · cases hx; exact .nil
    · intro v v' vs ws hv hs ih1 ih2
      refine ⟨fun xs hx => ?_, fun es xs hx => ?_⟩
      · cases hx with
        | cons a b => exact .cons (ih1.1 _ a) (ih2.1 _ b)
      · cases hx with
        | cons hl a b => exact .cons hl (ih1.2 _ a) (ih2.2 _ _ b)
  refine ⟨main, ?_⟩
  intro vs ws hl
  induction vs generalizing ws with
  | nil =>
    cases hl
    refine ⟨fun xs hx => ?_, fun es xs hx => ?_⟩
    · cases hx; exact .nil
    · cases hx; exact .nil
  | cons v vs ihv =>
    cases hl with
    | cons a b =>
      have ih2 := ihv b
      refine ⟨fun xs hx => ?_, fun es xs hx => ?_⟩
      · cases hx with
        | cons c d => exact .cons ((main a).1 _ c) (ih2.1 _ d)
      · cases hx with
        | cons hl c d => exact .cons hl ((main a).2 _ c) (ih2.2 _ _ d)
theorem Lit.rel (H : RelH0 κ h w) {v v' : AVal} {x : Value} (hl : Lit h S v v') (hx : RelV κ v x) : RelV (κ.frz h w S) v' x := ((lit_main H).1 hl).1 _ hx
theorem Lits.relVs (H : RelH0 κ h w) {vs ws : List AVal} {xs : List Value} (hl : Lits h S vs ws) (hx : RelVs κ vs xs) : RelVs (κ.frz h w S) ws xs := ((lit_main H).2 hl).1 _ hx
theorem Lits.relEl (H : RelH0 κ h w) {es : Nat} {vs ws : List AVal} {xs : List Value} (hl : Lits h S vs ws) (hx : RelEl κ es vs xs) : RelEl (κ.frz h w S) es ws xs := ((lit_main H).2 hl).2 _ _ hx
end
inductive LitEs (h : Heap) (S : Nat → Prop) : List (AVal × AVal) → List (AVal × AVal) → Prop
  | nil : LitEs h S [] []
  | cons {k v v' : AVal} {l l' : List (AVal × AVal)} (hv : Lit h S v v') (hs : LitEs h S l l') : LitEs h S ((k, v) :: l) ((k, v') :: l')
inductive LitO (h : Heap) (S : Nat → Prop) : AObj → AObj → Prop
  | refl (o : AObj) : LitO h S o o
  | row {es : Nat} {a b : List AVal} (ht : Lits h S a b) : LitO h S (.row es a) (.row es b)
  | map {a b : List (AVal × AVal)} (ht : LitEs h S a b) : LitO h S (.map a) (.map b)
def GStep [Nam] (h h' : Heap) (S : Nat → Prop) : Prop := (∀ n, Nam.G h n → Nam.G h' n) ∧ ∀ r o', h' r = some o' → ∃ o, h r = some o ∧ ¬ S r ∧ LitO h S o o'
theorem GStep.refl [Nam] (h : Heap) : GStep h h fun _ => False := ⟨fun _ e => e, fun _ o e => ⟨o, e, id, .refl o⟩⟩
theorem LitEs.rel {κ : Ghost} {h : Heap} {w : World} {S : Nat → Prop} (H : RelH0 κ h w) : ∀ {l l' : List (AVal × AVal)} {es : List MapEntry}, LitEs h S l l' → RelEs κ l es → RelEs (κ.frz h w S) l' es
  | _, _, _, .nil, .nil => .nil
  | _, _, _, .cons a b, .cons hk hv hs => .cons (hk.mono (Ghost.le_frz κ h w S)) (a.rel H hv) (LitEs.rel H b hs)
theorem RelH0.frz {κ : Ghost} {h h' : Heap} {w : World} {S : Nat → Prop} (H : RelH0 κ h w) (hg : ∀ r o', h' r = some o' → ∃ o, h r = some o ∧ ¬ S r ∧ LitO h S o o') : RelH0 (κ.frz h w S) h' w where
  imm b o e := by
    simp only [Ghost.frz] at e
    split at e
    · exact H.imm b o e
    · split at e
      · exact e
      · cases e
  obj r o' hr := by
    obtain ⟨o, ho, hs, hl⟩ := hg r o' hr
    obtain ⟨L, hL, him, hO⟩ := H.obj r o ho
    have hown : o'.owned = o.owned := by cases hl <;> rfl
    refine ⟨L, hL, fun hw => ?_, ?_⟩
    · rw [hown] at hw
      simp only [Ghost.frz, him hw]
      rw [if_neg (by simp), if_neg]
      rintro ⟨r2, es, elems, L2, s2, e2, f2, hb⟩
      have := H.sep r2 r _ _ L2 L e2 ho f2 hL hb
      subst this
      exact hs s2
    · cases hl with
      | refl => exact hO.mono (Ghost.le_frz κ h w S)
      | row ht =>
        obtain ⟨h1, h2, C, e, fz, h3, h4, h5, h6, h7, h8, h9⟩ := hO
        exact ⟨h1, h2, C, e, fz, h3, h4, h5, by rw [Lits.length ht]; exact h6, h7, h8, Lits.relEl H ht h9⟩
      | map ht =>
        obtain ⟨es, clock, h1, h2, h3, h4⟩ := hO
        exact ⟨es, clock, h1, ht.rel H h2, h3, h4⟩
  sep r r' o o' L L' a b c d e := by
    obtain ⟨x, hx, _⟩ := hg r o a
    obtain ⟨y, hy, _⟩ := hg r' o' b
    exact H.sep r r' x y L L' hx hy c d e
  fin := H.fin
  os := H.os
  tape := H.tape
  output := H.output
  drawn := H.drawn
  mks b hb := by
    obtain ⟨o, ho⟩ := H.mks b hb
    exact ⟨o, (Ghost.le_frz κ h w S).imm _ _ ho⟩
theorem RelH.frz [Nam] {κ : Ghost} {h h' : Heap} {w : World} {S : Nat → Prop} (H : RelH κ h w) (hg : GStep h h' S) : RelH (κ.frz h w S) h' w := ⟨H.toRelH0.frz hg.2, hg.1 _ H.nam, Nam.mono (Ghost.le_frz κ h w S).imm H.glob⟩
end Go.Sym

namespace Go.Sym
open Go
def absC : Value → AVal
  | .bool b => .bool b
  | .int k n => .int k n
  | .string s => .str s
  | .pointer none => .nilptr
  | .slice none 0 0 => .nilsl
  | .map none => .nilmap
  | .nilFunc => .nilfunc
  | .nilIface => .niliface
  | _ => .undef
def absV : Value → AVal
  | .agg cs => if cs.toList.all (·.oneCell') then .agg (cs.toList.map absC) else .undef
  | v => absC v
theorem absC_rel (κ : Ghost) (v : Value) : RelV κ (absC v) v := by
  unfold absC
  split <;> first | exact .undef _ | constructor
theorem absCs_rel (κ : Ghost) : ∀ l : List Value, RelVs κ (l.map absC) l
  | [] => .nil
  | v :: l => .cons (absC_rel κ v) (absCs_rel κ l)
theorem absV_rel (κ : Ghost) (v : Value) : RelV κ (absV v) v := by
  unfold absV
  split
  · rename_i cs
    split
    · rename_i h1
      exact RelV.agg (List.all_eq_true.1 h1) (absCs_rel κ cs.toList)
    · exact .undef _
  · exact absC_rel κ v
def chk (b : Bool) (p : Prop) : Prop :=
  match b with
  | true => p
  | false => False
/- what stands in no text, but in the evaluator alone, is of great height: so the kernel unfolds it ahead of what stands in the texts -/
namespace J
def u0 : Unit := ()
def u1 : Unit := u0
def u2 : Unit := u1
def u3 : Unit := u2
def u4 : Unit := u3
def u5 : Unit := u4
def u6 : Unit := u5
def u7 : Unit := u6
def u8 : Unit := u7
def u9 : Unit := u8
def u10 : Unit := u9
def u11 : Unit := u10
def u12 : Unit := u11
def u13 : Unit := u12
def u14 : Unit := u13
def u15 : Unit := u14
def u16 : Unit := u15
def u17 : Unit := u16
def u18 : Unit := u17
def u19 : Unit := u18
def u20 : Unit := u19
def u21 : Unit := u20
def u22 : Unit := u21
def u23 : Unit := u22
def u24 : Unit := u23
def u25 : Unit := u24
def u26 : Unit := u25
def u27 : Unit := u26
def u28 : Unit := u27
def u29 : Unit := u28
def u30 : Unit := u29
def u31 : Unit := u30
def u32 : Unit := u31
def u33 : Unit := u32
def u34 : Unit := u33
def u35 : Unit := u34
def u36 : Unit := u35
def u37 : Unit := u36
def u38 : Unit := u37
def u39 : Unit := u38
def u40 : Unit := u39
def u41 : Unit := u40
def u42 : Unit := u41
def u43 : Unit := u42
def u44 : Unit := u43
def u45 : Unit := u44
def u46 : Unit := u45
def u47 : Unit := u46
def u48 : Unit := u47
def u49 : Unit := u48
def u50 : Unit := u49
def u51 : Unit := u50
def u52 : Unit := u51
def u53 : Unit := u52
def u54 : Unit := u53
def u55 : Unit := u54
def u56 : Unit := u55
def u57 : Unit := u56
def u58 : Unit := u57
def u59 : Unit := u58
def u60 : Unit := u59
def u61 : Unit := u60
def u62 : Unit := u61
def u63 : Unit := u62
def u64 : Unit := u63
def u65 : Unit := u64
def u66 : Unit := u65
def u67 : Unit := u66
def u68 : Unit := u67
def u69 : Unit := u68
def u70 : Unit := u69
def u71 : Unit := u70
def u72 : Unit := u71
def u73 : Unit := u72
def u74 : Unit := u73
def u75 : Unit := u74
def u76 : Unit := u75
def u77 : Unit := u76
def u78 : Unit := u77
def u79 : Unit := u78
def u80 : Unit := u79
def u81 : Unit := u80
def u82 : Unit := u81
def u83 : Unit := u82
def u84 : Unit := u83
def u85 : Unit := u84
def u86 : Unit := u85
def u87 : Unit := u86
def u88 : Unit := u87
def u89 : Unit := u88
def u90 : Unit := u89
def u91 : Unit := u90
def u92 : Unit := u91
def u93 : Unit := u92
def u94 : Unit := u93
def u95 : Unit := u94
def u96 : Unit := u95
def u97 : Unit := u96
def u98 : Unit := u97
def u99 : Unit := u98
def u100 : Unit := u99
def u101 : Unit := u100
def u102 : Unit := u101
def u103 : Unit := u102
def u104 : Unit := u103
def u105 : Unit := u104
def u106 : Unit := u105
def u107 : Unit := u106
def u108 : Unit := u107
def u109 : Unit := u108
def u110 : Unit := u109
def u111 : Unit := u110
def u112 : Unit := u111
def u113 : Unit := u112
def u114 : Unit := u113
def u115 : Unit := u114
def u116 : Unit := u115
def u117 : Unit := u116
def u118 : Unit := u117
def u119 : Unit := u118
def u120 : Unit := u119
def u121 : Unit := u120
def u122 : Unit := u121
def u123 : Unit := u122
def u124 : Unit := u123
def u125 : Unit := u124
def u126 : Unit := u125
def u127 : Unit := u126
def u128 : Unit := u127
def u129 : Unit := u128
def u130 : Unit := u129
def u131 : Unit := u130
def u132 : Unit := u131
def u133 : Unit := u132
def u134 : Unit := u133
def u135 : Unit := u134
def u136 : Unit := u135
def u137 : Unit := u136
def u138 : Unit := u137
def u139 : Unit := u138
def u140 : Unit := u139
def u141 : Unit := u140
def u142 : Unit := u141
def u143 : Unit := u142
def u144 : Unit := u143
def u145 : Unit := u144
def u146 : Unit := u145
def u147 : Unit := u146
def u148 : Unit := u147
def u149 : Unit := u148
def u150 : Unit := u149
def u151 : Unit := u150
def u152 : Unit := u151
def u153 : Unit := u152
def u154 : Unit := u153
def u155 : Unit := u154
def u156 : Unit := u155
def u157 : Unit := u156
def u158 : Unit := u157
def u159 : Unit := u158
def u160 : Unit := u159
end J
def chkH (b : Bool) (p : Prop) : Prop := (fun _ : Unit =>
  match b with
  | true => p
  | false => False) J.u160
theorem chk_iff {b : Bool} {p : Prop} : chk b p ↔ b = true ∧ p := by cases b <;> simp [chk]
@[simp] theorem chkH_true (p : Prop) : chkH true p = p := rfl
@[simp] theorem chk_true (p : Prop) : chk true p = p := rfl
def rg (n : Int) (p : Prop) : Prop := (-9223372036854775808 ≤ n ∧ n ≤ 9223372036854775807) ∧ p
def fitI (k : IntKind) (n : Int) (K : AVal → Prop) : Prop :=
  match k with
  | .i64 => rg n (K (.int .i64 n))
  | k => K (.int k (k.wrap n))
def bitsI (op : BinOp) (k : IntKind) (x y : Int) : Int :=
  match op with
  | .and => k.wrap (BitVec.ofInt k.bits x &&& BitVec.ofInt k.bits y).toNat
  | .or => k.wrap (BitVec.ofInt k.bits x ||| BitVec.ofInt k.bits y).toNat
  | .xor => k.wrap (BitVec.ofInt k.bits x ^^^ BitVec.ofInt k.bits y).toNat
  | _ => k.wrap (BitVec.ofInt k.bits x &&& ~~~BitVec.ofInt k.bits y).toNat
def strEq (a b : ByteArray) : Bool := a.toList == b.toList
def strLt (a b : ByteArray) : Bool := Op.bytesLess a.toList b.toList
def binA (op : BinOp) (x y : AVal) (K : AVal → Prop) : Prop :=
  match op, x, y with
  | .shl, .int k a, .int _ b => 0 ≤ b ∧ K (.int k (k.wrap (a * 2 ^ (min b.toNat k.bits))))
  | .shr, .int k a, .int _ b => 0 ≤ b ∧ K (.int k (a.fdiv (2 ^ (min b.toNat k.bits))))
  | .add, .int k a, .int k' b => chkH (decide (k = k')) (fitI k (a + b) K)
  | .sub, .int k a, .int k' b => chkH (decide (k = k')) (fitI k (a - b) K)
  | .mul, .int k a, .int k' b => chkH (decide (k = k')) (fitI k (a * b) K)
  | .quo, .int k a, .int k' b => chkH (decide (k = k')) (b ≠ 0 ∧ fitI k (a.tdiv b) K)
  | .rem, .int k a, .int k' b => chkH (decide (k = k')) (b ≠ 0 ∧ K (.int k (a.tmod b)))
  | .and, .int k a, .int k' b => chkH (decide (k = k')) (K (.int k (bitsI .and k a b)))
  | .or, .int k a, .int k' b => chkH (decide (k = k')) (K (.int k (bitsI .or k a b)))
  | .xor, .int k a, .int k' b => chkH (decide (k = k')) (K (.int k (bitsI .xor k a b)))
  | .andNot, .int k a, .int k' b => chkH (decide (k = k')) (K (.int k (bitsI .andNot k a b)))
  | .eql, .int k a, .int k' b => chkH (decide (k = k')) (K (.bool (a == b)))
  | .neq, .int k a, .int k' b => chkH (decide (k = k')) (K (.bool (a != b)))
  | .lss, .int k a, .int k' b => chkH (decide (k = k')) (K (.bool (decide (a < b))))
  | .leq, .int k a, .int k' b => chkH (decide (k = k')) (K (.bool (decide (a ≤ b))))
  | .gtr, .int k a, .int k' b => chkH (decide (k = k')) (K (.bool (decide (b < a))))
  | .geq, .int k a, .int k' b => chkH (decide (k = k')) (K (.bool (decide (b ≤ a))))
  | .add, .str a, .str b => (a.size + b.size ≤ 9223372036854775807) ∧ K (.str (a ++ b))
  | .eql, .str a, .str b => K (.bool (strEq a b))
  | .neq, .str a, .str b => K (.bool (!strEq a b))
  | .lss, .str a, .str b => K (.bool (strLt a b))
  | .leq, .str a, .str b => K (.bool (strLt a b || strEq a b))
  | .gtr, .str a, .str b => K (.bool (!(strLt a b || strEq a b)))
  | .geq, .str a, .str b => K (.bool (!strLt a b))
  | _, _, _ => False
def VOK (P : Program) (κ : Ghost) (m : Sem Value) (K : AVal → Prop) : Prop :=
  ∃ v av, (∀ w, m.run P w = .ok v w) ∧ RelV κ av v ∧ K av
theorem VOK.mk {P : Program} {κ : Ghost} {m : Sem Value} {K : AVal → Prop} (v : Value) (av : AVal) (h : ∀ w, m.run P w = .ok v w) (hr : RelV κ av v) (hk : K av) : VOK P κ m K := ⟨v, av, h, hr, hk⟩
theorem fitI_ok {P : Program} {κ : Ghost} {k : IntKind} {n : Int} {K : AVal → Prop} {m : Sem Value} (h : fitI k n K) (hm : ∀ w, m.run P w = .ok (.int k (k.wrap n)) w) : VOK P κ m K := by
  unfold fitI at h
  split at h
  · refine .mk _ (.int .i64 n) (fun w => ?_) (.int _ _) h.2
    rw [hm, IntWalk.i64_in n h.1]
  · exact .mk _ (.int k (k.wrap n)) hm (.int _ _) h
theorem strAdd_run {P : Program} {t : TypeId} {x y : Operand} {a b : ByteArray} (h : a.size + b.size ≤ 9223372036854775807) (w : World) :
    (do eqGuard .add t x y (.string a) (.string b); binOp .add t (.string a) (.string b) : Sem Value).run P w = .ok (.string (a ++ b)) w := by
  simp [eqGuard, binOp, Op.stringOp]
  omega
theorem binA_ok {P : Program} {κ : Ghost} {op : BinOp} {t : TypeId} {x y : Operand} {a b : AVal} {u v : Value} {K : AVal → Prop}
    (ha : RelV κ a u) (hb : RelV κ b v) (h : binA op a b K) : VOK P κ (do eqGuard op t x y u v; binOp op t u v) K := by
  unfold binA at h
  split at h <;> first
    | exact h.elim
    | (cases ha; cases hb
       first
         | (obtain ⟨h0, h⟩ := h
            refine .mk _ _ (fun w => ?_) (.int _ _) h
            simp [eqGuard, binOp, Op.shift, Int.not_lt.2 h0, pure, Sem.run])
         | (obtain ⟨hk, h2⟩ := chk_iff.1 h
            obtain rfl := of_decide_eq_true hk
            refine fitI_ok h2 fun w => ?_
            simp [eqGuard, binOp, Op.intArith, pure, Sem.run])
         | (obtain ⟨hk, h0, h2⟩ := chk_iff.1 h
            obtain rfl := of_decide_eq_true hk
            refine fitI_ok h2 fun w => ?_
            simp [eqGuard, binOp, Op.intDiv, h0, pure, Sem.run])
         | (obtain ⟨hk, h0, h2⟩ := chk_iff.1 h
            obtain rfl := of_decide_eq_true hk
            refine .mk _ _ (fun w => ?_) (.int _ _) h2
            simp [eqGuard, binOp, Op.intDiv, h0, pure, Sem.run])
         | (obtain ⟨hk, h2⟩ := chk_iff.1 h
            obtain rfl := of_decide_eq_true hk
            refine .mk _ _ (fun w => ?_) (.int _ _) h2
            simp [eqGuard, binOp, Op.intBits, bitsI, pure, Sem.run])
         | (obtain ⟨hk, h2⟩ := chk_iff.1 h
            obtain rfl := of_decide_eq_true hk
            refine .mk _ _ (fun w => ?_) (.bool _) h2
            simp [eqGuard, binOp, Op.intCmp, pure, Sem.run])
         | exact .mk _ _ (strAdd_run h.1) (.str _) h.2
         | (refine .mk _ _ (fun w => ?_) (.bool _) h
            simp [eqGuard, binOp, Op.stringOp, strEq, strLt, pure, Sem.run]))
def aggD : TypeDesc → Bool
  | .struct _ | .array _ _ => true
  | _ => false
def cellKind (P : Program) (t : TypeId) : Option (Option Nat) :=
  match P.underlying t, P.info? t with
  | some d, some i => some (if aggD d then some i.size else none)
  | _, _ => none
theorem cellKind_some {P : Program} {t : TypeId} {k : Option Nat} (h : cellKind P t = some k) :
    ∃ d i, P.underlying t = some d ∧ P.info? t = some i ∧ k = (if aggD d then some i.size else none) ∧ ∀ w, (isAgg t).run P w = .ok (aggD d) w := by
  unfold cellKind at h
  split at h
  · rename_i d i hu hi
    cases h
    refine ⟨d, i, hu, hi, rfl, fun w => ?_⟩
    simp only [isAgg, Sem.run_bind, run_underlying hu, Result.andThen_ok]
    cases d <;> rfl
  · cases h
theorem run_sizeOf' {P : Program} {t : TypeId} {i : TypeInfo} (h : P.info? t = some i) (w : World) : (sizeOf t).run P w = .ok i.size w := by
  simp [sizeOf, typeInfo, h]
def partA (P : Program) (t : TypeId) (cs : List AVal) (off : Nat) : Option AVal :=
  match cellKind P t with
  | some none => cs[off]?
  | some (some n) => if off + n ≤ cs.length then some (.agg ((cs.drop off).take n)) else none
  | none => none
def eqT (P : Program) : Nat → TypeId → AVal → AVal → Option Bool
  | 0, _, _, _ => none
  | d + 1, t, x, y =>
    match P.underlying t, x, y with
    | some .bool, .bool a, .bool b => some (a == b)
    | some (.int _), .int k a, .int k' b => if k = k' then some (a == b) else none
    | some .string, .str a, .str b => some (strEq a b)
    | some (.slice _), x, .nilsl => match x with | .nilsl => some true | .sl .. | .lsl .. => some false | _ => none
    | some (.map _ _), x, .nilmap => match x with | .nilmap => some true | .mapr _ => some false | _ => none
    | some (.func _ _ _), x, .nilfunc => match x with | .nilfunc => some true | .func .. => some false | _ => none
    | some (.pointer _), x, .nilptr => match x with | .nilptr => some true | .ptr .. | .lptr _ => some false | _ => none
    | some (.struct fs), .agg xs, .agg ys =>
      if P.stoodInHeld t then none else
      fs.toList.foldr (fun f acc => if f.name = "_" then none else
        match partA P f.type xs f.offset, partA P f.type ys f.offset with
        | some a, some b => match eqT P d f.type a b, acc with
          | some r, some r' => some (r && r')
          | _, _ => none
        | _, _ => none) (some true)
    | some (.array n e), .agg xs, .agg ys =>
      if (P.info? e).isNone then none else
      (List.range n).foldr (fun i acc =>
        match partA P e xs (i * P.cellsOf e), partA P e ys (i * P.cellsOf e) with
        | some a, some b => match eqT P d e a b, acc with
          | some r, some r' => some (r && r')
          | _, _ => none
        | _, _ => none) (some true)
    | _, _, _ => none
theorem partA_ok {P : Program} {κ : Ghost} {t : TypeId} {cs : List AVal} {xs : List Value} {off : Nat} {a : AVal} (h1x : ∀ x ∈ xs, x.oneCell' = true) (hr : RelVs κ cs xs) (h : partA P t cs off = some a) :
    ∃ v, (∀ w, (part t xs.toArray off).run P w = .ok v w) ∧ RelV κ a v := by
  unfold partA at h
  split at h
  · rename_i hk
    obtain ⟨d, i, hu, hi, hd, hagg⟩ := cellKind_some hk
    have hd : aggD d = false := by
      cases e : aggD d with
      | false => rfl
      | true => rw [e] at hd; cases hd
    obtain ⟨v, hv, hrel⟩ := hr.get h
    refine ⟨v, fun w => ?_, hrel⟩
    simp [part, hagg, hd, hv]
  · rename_i n hk
    obtain ⟨d, i, hu, hi, hd, hagg⟩ := cellKind_some hk
    split at h
    · rename_i hle
      cases h
      have hd2 : aggD d = true := by
        cases e : aggD d with
        | true => rfl
        | false => rw [e] at hd; cases hd
      have hn : n = i.size := by rw [hd2] at hd; simpa using hd
      refine ⟨.agg (xs.toArray.extract off (off + n)), fun w => ?_, ?_⟩
      · simp [part, hagg, hd2, run_sizeOf' hi, hn]
      · have h1 := (hr.drop off).take n
        have e : xs.toArray.extract off (off + n) = ((xs.drop off).take n).toArray := by
          rw [List.extract_toArray]
          congr 1
          simp [List.extract_eq_take_drop]
        rw [e]
        exact .agg (fun x hx => h1x x (List.mem_of_mem_drop (List.mem_of_mem_take hx))) h1
    · cases h
  · cases h
end Go.Sym

namespace Go.Sym
open Go
def EqOK (P : Program) (κ : Ghost) (d : Nat) : Prop :=
  ∀ (t : TypeId) (x y : AVal) (r : Bool) (u v : Value), eqT P d t x y = some r → RelV κ x u → RelV κ y v → ∀ m w, (Op.equalIn (d + m) t u v).run P w = .ok r w
theorem RelV.agg_inv {κ : Ghost} {cs : List AVal} {x : Value} (h : RelV κ (.agg cs) x) : ∃ xs, x = .agg (List.toArray xs) ∧ RelVs κ cs xs ∧ ∀ x ∈ xs, x.oneCell' = true := by
  cases h with
  | agg h1 h => exact ⟨_, rfl, h, h1⟩
theorem eqFields_ok {P : Program} {κ : Ghost} {d : Nat} (ih : EqOK P κ d) {xs ys : List AVal} {us vs : List Value} (hx : RelVs κ xs us) (hy : RelVs κ ys vs) (h1u : ∀ x ∈ us, x.oneCell' = true) (h1v : ∀ x ∈ vs, x.oneCell' = true) :
    ∀ (fs : List Field) (r : Bool), fs.foldr (fun f acc => if f.name = "_" then none else
        match partA P f.type xs f.offset, partA P f.type ys f.offset with
        | some a, some b => match eqT P d f.type a b, acc with
          | some r, some r' => some (r && r')
          | _, _ => none
        | _, _ => none) (some true) = some r → ∀ m w, (Op.eqFields (d + m) us.toArray vs.toArray fs).run P w = .ok r w
  | [], r, h, m, w => by
    simp only [List.foldr_nil] at h
    cases h
    rfl
  | f :: fs, r, h, m, w => by
    rw [List.foldr_cons] at h
    split at h
    · cases h
    · rename_i hne
      split at h
      · rename_i a b ha hb
        split at h
        · rename_i r1 r2 h1 h2
          cases h
          obtain ⟨u, hu, hru⟩ := partA_ok h1u hx ha
          obtain ⟨v, hv, hrv⟩ := partA_ok h1v hy hb
          have h3 := ih f.type a b r1 u v h1 hru hrv m
          have h4 := eqFields_ok ih hx hy h1u h1v fs r2 h2 m w
          simp only [Op.eqFields, ne_eq, hne, not_false_eq_true, if_true, Sem.run_bind, hu, hv, h3, Result.andThen_ok]
          cases r1
          · simp
          · simpa using h4
        · cases h
      · cases h
theorem eqItems_ok {P : Program} {κ : Ghost} {d : Nat} (ih : EqOK P κ d) {e : TypeId} {xs ys : List AVal} {us vs : List Value} (hx : RelVs κ xs us) (hy : RelVs κ ys vs) (h1u : ∀ x ∈ us, x.oneCell' = true) (h1v : ∀ x ∈ vs, x.oneCell' = true) :
    ∀ (l : List Nat) (r : Bool), l.foldr (fun i acc =>
        match partA P e xs (i * P.cellsOf e), partA P e ys (i * P.cellsOf e) with
        | some a, some b => match eqT P d e a b, acc with
          | some r, some r' => some (r && r')
          | _, _ => none
        | _, _ => none) (some true) = some r → ∀ m w, (Op.eqItems (d + m) e (P.cellsOf e) us.toArray vs.toArray l).run P w = .ok r w
  | [], r, h, m, w => by
    simp only [List.foldr_nil] at h
    cases h
    rfl
  | j :: l, r, h, m, w => by
    rw [List.foldr_cons] at h
    split at h
    · rename_i a b ha hb
      split at h
      · rename_i r1 r2 h1 h2
        cases h
        obtain ⟨u, hu, hru⟩ := partA_ok h1u hx ha
        obtain ⟨v, hv, hrv⟩ := partA_ok h1v hy hb
        have h3 := ih e a b r1 u v h1 hru hrv m
        have h4 := eqItems_ok ih hx hy h1u h1v l r2 h2 m w
        simp only [Op.eqItems, Sem.run_bind, hu, hv, h3, Result.andThen_ok]
        cases r1
        · simp
        · simpa using h4
      · cases h
    · cases h
theorem eqT_ok {P : Program} {κ : Ghost} : ∀ d : Nat, EqOK P κ d
  | 0 => fun t x y r u v h => by simp [eqT] at h
  | d + 1 => by
    intro t x y r u v h hx hy m w
    have ih := eqT_ok (P := P) (κ := κ) d
    rw [show d + 1 + m = (d + m) + 1 by omega]
    unfold eqT at h
    split at h
    · rename_i hu; cases hx; cases hy; cases h
      simp [Op.equalIn, run_underlying hu]
    · rename_i hu
      split at h
      · rename_i hk; subst hk; cases hx; cases hy; cases h
        simp [Op.equalIn, run_underlying hu]
      · cases h
    · rename_i hu; cases hx; cases hy; cases h
      simp [Op.equalIn, run_underlying hu, strEq, beq_toListBytes]
    · rename_i hu
      cases hy
      split at h <;> first
        | (simp at h; done)
        | (cases hx <;> cases h <;> simp [Op.equalIn, run_underlying hu])
    · rename_i hu
      cases hy
      split at h <;> first
        | (simp at h; done)
        | (cases hx <;> cases h <;> simp [Op.equalIn, run_underlying hu])
    · rename_i hu
      cases hy
      split at h <;> first
        | (simp at h; done)
        | (cases hx <;> cases h <;> simp [Op.equalIn, run_underlying hu])
    · rename_i hu
      cases hy
      split at h <;> first
        | (simp at h; done)
        | (cases hx <;> cases h <;> simp [Op.equalIn, run_underlying hu])
    · rename_i fs xs ys hu
      obtain ⟨us, rfl, hxs, h1u⟩ := hx.agg_inv
      obtain ⟨vs, rfl, hys, h1v⟩ := hy.agg_inv
      split at h
      · cases h
      · rename_i hst
        have hf : P.fieldsOf t = fs := by simp [Program.fieldsOf, hu]
        rw [run_equalIn_struct w (d + m) t us.toArray vs.toArray (by rw [hf]; exact hu) (by simpa using hst), hf]
        exact eqFields_ok ih hxs hys h1u h1v fs.toList r h m w
    · rename_i n e xs ys hu
      obtain ⟨us, rfl, hxs, h1u⟩ := hx.agg_inv
      obtain ⟨vs, rfl, hys, h1v⟩ := hy.agg_inv
      split at h
      · cases h
      · rename_i hi
        obtain ⟨i, hi⟩ : ∃ i, P.info? e = some i := by
          cases e' : P.info? e with
          | none => rw [e'] at hi; exact absurd rfl hi
          | some i => exact ⟨i, rfl⟩
        rw [run_equalIn_array w (d + m) us.toArray vs.toArray hu hi]
        exact eqItems_ok ih hxs hys h1u h1v (List.range n) r h m w
    · cases h
end Go.Sym

namespace Go.Sym
open Go
def scalarT (P : Program) (t : TypeId) : Bool :=
  match P.underlying t with
  | some (.int _) | some .string => true
  | _ => false
def eqGd (P : Program) (t : TypeId) (x y : AVal) : Prop :=
  match x, y with
  | .agg _, .agg _ => P.eqGuardType P.depth t = false
  | .agg _, _ => False
  | .niliface, _ => False
  | _, _ => True
def eqQ (P : Program) (t : TypeId) (x y : AVal) (K : Bool → Prop) : Prop :=
  eqGd P t x y ∧
  match eqT P 8 t x y with
  | some r => K r
  | none => False
def nilSR (x : AVal) : Option Bool :=
  match x with
  | .nilsl => some true
  | .sl .. | .lsl .. => some false
  | _ => none
def nilS (x : AVal) (K : Bool → Prop) : Prop :=
  match nilSR x with
  | some b => K b
  | none => False
def nilS0 (x : AVal) (K : Bool → Prop) : Prop :=
  match x with
  | .nilsl => K true
  | .sl .. => K false
  | .lsl .. => K false
  | _ => False
def nilM (x : AVal) (K : Bool → Prop) : Prop :=
  match x with
  | .nilmap => K true
  | .mapr _ => K false
  | _ => False
def nilF (x : AVal) (K : Bool → Prop) : Prop :=
  match x with
  | .nilfunc => K true
  | .func .. => K false
  | _ => False
def nilPR (x : AVal) : Option Bool :=
  match x with
  | .nilptr => some true
  | .ptr .. | .lptr _ => some false
  | _ => none
def nilP (x : AVal) (K : Bool → Prop) : Prop :=
  match nilPR x with
  | some b => K b
  | none => False
def nilP0 (x : AVal) (K : Bool → Prop) : Prop :=
  match x with
  | .nilptr => K true
  | .ptr .. => K false
  | .lptr _ => K false
  | _ => False
theorem nilS_eq (x : AVal) (K : Bool → Prop) : nilS x K = nilS0 x K := by cases x <;> rfl
theorem nilP_eq (x : AVal) (K : Bool → Prop) : nilP x K = nilP0 x K := by cases x <;> rfl
def isT (P : Program) (t : TypeId) (f : TypeDesc → Bool) : Bool :=
  match P.underlying t with
  | some d => f d
  | none => false
def dSlice : TypeDesc → Bool | .slice _ => true | _ => false
def dMap : TypeDesc → Bool | .map _ _ => true | _ => false
def dFunc : TypeDesc → Bool | .func _ _ _ => true | _ => false
def dPtr : TypeDesc → Bool | .pointer _ => true | _ => false
def eqK (op : BinOp) (K : AVal → Prop) (r : Bool) : Prop :=
  match op with
  | .eql => K (.bool r)
  | .neq => K (.bool (!r))
  | _ => False
def eqA (P : Program) (op : BinOp) (t : TypeId) (x y : AVal) (K : AVal → Prop) : Prop :=
  match y with
  | .nilsl => chkH (isT P t dSlice) (nilS x (eqK op K))
  | .nilmap => chkH (isT P t dMap) (nilM x (eqK op K))
  | .nilfunc => chkH (isT P t dFunc) (nilF x (eqK op K))
  | .nilptr => chkH (isT P t dPtr) (nilP x (eqK op K))
  | y => eqQ P t x y (eqK op K)
theorem eqT_undef {P : Program} {d : Nat} {t : TypeId} {y : AVal} : eqT P d t .undef y = none := by
  cases d with
  | zero => rfl
  | succ d =>
    unfold eqT
    split <;> simp_all
theorem binOp_eq {P : Program} {κ : Ghost} {d : Nat} {t : TypeId} {a b : AVal} {u v : Value} {r : Bool} (hs : scalarT P t = false)
    (ha : RelV κ a u) (hb : RelV κ b v) (hr : eqT P (d + 1) t a b = some r) :
    binOp .eql t u v = (do pure (.bool (← Op.equal t u v))) ∧ binOp .neq t u v = (do pure (.bool (!(← Op.equal t u v)))) := by
  unfold eqT at hr
  split at hr
  · cases ha; cases hb; exact ⟨rfl, rfl⟩
  · rename_i hu; simp [scalarT, hu] at hs
  · rename_i hu; simp [scalarT, hu] at hs
  · cases hb; split at hr <;> first | (simp at hr; done) | (cases ha <;> exact ⟨rfl, rfl⟩)
  · cases hb; split at hr <;> first | (simp at hr; done) | (cases ha <;> exact ⟨rfl, rfl⟩)
  · cases hb; split at hr <;> first | (simp at hr; done) | (cases ha <;> exact ⟨rfl, rfl⟩)
  · cases hb; split at hr <;> first | (simp at hr; done) | (cases ha <;> exact ⟨rfl, rfl⟩)
  · cases ha; cases hb; exact ⟨rfl, rfl⟩
  · cases ha; cases hb; exact ⟨rfl, rfl⟩
  · cases hr
theorem eqR_ok {P : Program} {κ : Ghost} {op : BinOp} {t : TypeId} {x y : Operand} {a b : AVal} {u v : Value} {K : AVal → Prop} (hs : scalarT P t = false)
    (ha : RelV κ a u) (hb : RelV κ b v) {r : Bool} (hr : eqT P 8 t a b = some r)
    (hg : eqGd P t a b) (h : eqK op K r) :
    VOK P κ (do eqGuard op t x y u v; binOp op t u v) K := by
  have key : ∀ w, (Op.equal t u v).run P w = .ok r w := fun w => by
    have := eqT_ok (P := P) (κ := κ) 8 t a b r u v hr ha hb 9992 w
    simpa [Op.equal, Op.maxDepth] using this
  have hguard : (op = .eql ∨ op = .neq) → ∀ w, (eqGuard op t x y u v).run P w = .ok () w := by
    intro hop w
    cases ha with
    | agg _ h1 =>
      cases hb with
      | agg _ h2 => exact run_eqGuard_agg w op t x y _ _ hg
      | _ => exact hg.elim
    | niliface => exact hg.elim
    | undef => rw [eqT_undef] at hr; cases hr
    | _ => rcases hop with rfl | rfl <;> rfl
  unfold eqK at h
  split at h
  · refine .mk (.bool r) _ (fun w => ?_) (.bool r) h
    rw [(binOp_eq hs ha hb hr).1]
    simp only [Sem.run_bind, hguard (.inl rfl) w, Result.andThen_ok, key w, Sem.run_pure]
  · refine .mk (.bool (!r)) _ (fun w => ?_) (.bool _) h
    rw [(binOp_eq hs ha hb hr).2]
    simp only [Sem.run_bind, hguard (.inr rfl) w, Result.andThen_ok, key w, Sem.run_pure]
  · exact h.elim
theorem isT_some {P : Program} {t : TypeId} {f : TypeDesc → Bool} (h : isT P t f = true) : ∃ d, P.underlying t = some d ∧ f d = true := by
  unfold isT at h
  split at h
  · exact ⟨_, by assumption, h⟩
  · cases h
theorem eqA_ok {P : Program} {κ : Ghost} {op : BinOp} {t : TypeId} {x y : Operand} {a b : AVal} {u v : Value} {K : AVal → Prop} (hs : scalarT P t = false)
    (ha : RelV κ a u) (hb : RelV κ b v) (h : eqA P op t a b K) : VOK P κ (do eqGuard op t x y u v; binOp op t u v) K := by
  unfold eqA at h
  split at h
  · obtain ⟨h1, h2⟩ := chk_iff.1 h
    obtain ⟨d, hu, hd⟩ := isT_some h1
    cases d <;> simp only [dSlice, Bool.false_eq_true] at hd
    rw [nilS_eq] at h2
    unfold nilS0 at h2
    split at h2 <;> first
      | exact h2.elim
      | exact eqR_ok hs ha hb (by simp [eqT, hu]) trivial h2
  · obtain ⟨h1, h2⟩ := chk_iff.1 h
    obtain ⟨d, hu, hd⟩ := isT_some h1
    cases d <;> simp only [dMap, Bool.false_eq_true] at hd
    unfold nilM at h2
    split at h2 <;> first
      | exact h2.elim
      | exact eqR_ok hs ha hb (by simp [eqT, hu]) trivial h2
  · obtain ⟨h1, h2⟩ := chk_iff.1 h
    obtain ⟨d, hu, hd⟩ := isT_some h1
    cases d <;> simp only [dFunc, Bool.false_eq_true] at hd
    unfold nilF at h2
    split at h2 <;> first
      | exact h2.elim
      | exact eqR_ok hs ha hb (by simp [eqT, hu]) trivial h2
  · obtain ⟨h1, h2⟩ := chk_iff.1 h
    obtain ⟨d, hu, hd⟩ := isT_some h1
    cases d <;> simp only [dPtr, Bool.false_eq_true] at hd
    rw [nilP_eq] at h2
    unfold nilP0 at h2
    split at h2 <;> first
      | exact h2.elim
      | exact eqR_ok hs ha hb (by simp [eqT, hu]) trivial h2
  · obtain ⟨hg, h⟩ := h
    split at h
    · rename_i r hr
      exact eqR_ok hs ha hb hr hg h
    · exact h.elim
def unA (op : UnOp) (x : AVal) (K : AVal → Prop) : Prop :=
  match op, x with
  | .not, .bool b => K (.bool (!b))
  | .neg, .int k n => fitI k (0 - n) K
  | .xor, .int k n => K (.int k (bitsI .xor k (if k.signed then -1 else k.max) n))
  | _, _ => False
theorem unA_ok {P : Program} {κ : Ghost} {op : UnOp} {a : AVal} {u : Value} {K : AVal → Prop} (ha : RelV κ a u) (h : unA op a K) : VOK P κ (Op.unary op u) K := by
  unfold unA at h
  split at h
  · cases ha; exact .mk _ _ (fun w => rfl) (.bool _) h
  · cases ha; exact fitI_ok h fun w => rfl
  · cases ha; exact .mk _ _ (fun w => rfl) (.int _ _) h
  · exact h.elim
def convA (P : Program) (src dst : TypeId) (x : AVal) (K : AVal → Prop) : Prop :=
  match P.underlying src, P.underlying dst, x with
  | some _, some (.int k), .int _ n => fitI k n K
  | some (.int _), some .string, .int _ n => K (.str (Utf8.encode n))
  | some .string, some .string, .str s => K (.str s)
  | _, _, _ => False
theorem convA_ok {P : Program} {κ : Ghost} {src dst : TypeId} {a : AVal} {u : Value} {K : AVal → Prop} (ha : RelV κ a u) (h : convA P src dst a K) : VOK P κ (convert src dst u) K := by
  unfold convA at h
  split at h
  · rename_i h1 h2
    cases ha
    exact fitI_ok h fun w => by simp [convert, run_underlying h1, run_underlying h2, Conv.intToInt]
  · rename_i h1 h2
    cases ha
    exact .mk _ _ (fun w => by simp [convert, run_underlying h1, run_underlying h2, Conv.intToString]) (.str _) h
  · rename_i h1 h2
    cases ha
    exact .mk _ _ (fun w => by simp [convert, run_underlying h1, run_underlying h2]) (.str _) h
  · exact h.elim
def fieldOff (P : Program) (s : TypeId) (f : Nat) : Option (Nat × TypeId) :=
  match P.underlying s with
  | some (.struct fs) => match fs[f]? with
    | some fd => match P.info? fd.type with
      | some i => if i.size = 0 then none else some (fd.offset, fd.type)
      | none => none
    | none => none
  | _ => none
def addOffR (p : AVal) (n : Nat) : Option AVal :=
  match p with
  | .ptr r i o => some (.ptr r i (o + n))
  | .lptr cs => some (.lptr (cs.drop n))
  | _ => none
def addOff (p : AVal) (n : Nat) (K : AVal → Prop) : Prop :=
  match addOffR p n with
  | some q => K q
  | none => False
def addOff0 (p : AVal) (n : Nat) (K : AVal → Prop) : Prop :=
  match p with
  | .ptr r i o => K (.ptr r i (o + n))
  | .lptr cs => K (.lptr (cs.drop n))
  | _ => False
theorem addOff_eq (p : AVal) (n : Nat) (K : AVal → Prop) : addOff p n K = addOff0 p n K := by cases p <;> rfl
theorem addr_add (b off n : Nat) : (⟨b, off, none⟩ : Addr).add n = ⟨b, off + n, none⟩ := by
  unfold Addr.add
  split <;> simp_all
theorem addOff_rel {κ : Ghost} {p : AVal} {n : Nat} {u : Value} {K : AVal → Prop} (hp : RelV κ p u) (h : addOff p n K) :
    ∃ a av, u = .pointer (some a) ∧ RelV κ av (.pointer (some (a.add n))) ∧ K av := by
  rw [addOff_eq] at h
  unfold addOff0 at h
  split at h
  · rename_i r i o
    cases hp with
    | ptr hL => exact ⟨_, _, rfl, by rw [addr_add, Nat.add_assoc]; exact .ptr hL, h⟩
  · rename_i cs
    cases hp with
    | lptr him h1c hv =>
      rename_i b off C e fz
      refine ⟨_, _, rfl, ?_, h⟩
      rw [addr_add]
      refine .lptr him ?_ ?_
      · by_cases hn : n ≤ cs.length
        · refine win_sub h1c (by omega) (by simp; omega)
        · rw [List.drop_eq_nil_of_le (by omega)]; simp
      have h2 := hv.drop n
      rw [List.drop_take, List.drop_drop] at h2
      simpa using h2
  · exact h.elim
def fieldAddrA (P : Program) (s : TypeId) (f : Nat) (p : AVal) (K : AVal → Prop) : Prop :=
  match fieldOff P s f with
  | some (n, _) => addOff p n K
  | none => False
theorem fieldAddrA_ok {P : Program} {κ : Ghost} {s : TypeId} {f : Nat} {a : AVal} {u : Value} {K : AVal → Prop} (ha : RelV κ a u) (h : fieldAddrA P s f a K) :
    VOK P κ (Instr.fieldAt s u f) K := by
  unfold fieldAddrA at h
  split at h
  · rename_i n t hf
    obtain ⟨ad, av, rfl, hrel, hk⟩ := addOff_rel ha h
    unfold fieldOff at hf
    split at hf
    · rename_i fs hu
      split at hf
      · rename_i fd hfd
        split at hf
        · rename_i i hi
          split at hf
          · cases hf
          · rename_i hne
            cases hf
            refine .mk _ _ (fun w => ?_) hrel hk
            simp [Instr.fieldAt, run_underlying hu, hfd, Instr.sureAddr, fieldPlace, run_sizeOf' hi, hne]
        · cases hf
      · cases hf
    · cases hf
  · exact h.elim
def prt (k : Option Nat) (cs : List AVal) (off : Nat) (K : AVal → Prop) : Prop :=
  match k with
  | none => match cs[off]? with
    | some v => K v
    | none => False
  | some n => chk (Nat.ble (off + n) cs.length) (K (.agg ((cs.drop off).take n)))
theorem prt_part {P : Program} {t : TypeId} {k : Option Nat} {cs : List AVal} {off : Nat} {K : AVal → Prop} (hk : cellKind P t = some k) (h : prt k cs off K) : ∃ v, partA P t cs off = some v ∧ K v := by
  unfold prt at h
  split at h
  · split at h
    · rename_i v hv
      exact ⟨v, by simp [partA, hk, hv], h⟩
    · exact h.elim
  · obtain ⟨h1, h2⟩ := chk_iff.1 h
    have := Nat.le_of_ble_eq_true h1
    exact ⟨_, by simp [partA, hk, this], h2⟩
def fld (k : Option Nat) (off : Nat) (x : AVal) (K : AVal → Prop) : Prop :=
  match x with
  | .agg cs => prt k cs off K
  | _ => False
def fieldA (P : Program) (s : TypeId) (f : Nat) (x : AVal) (K : AVal → Prop) : Prop :=
  match fieldOff P s f with
  | some (n, t) => match cellKind P t with
    | some k => fld k n x K
    | none => False
  | none => False
theorem fieldA_ok {P : Program} {κ : Ghost} {s : TypeId} {f : Nat} {a : AVal} {u : Value} {K : AVal → Prop} (ha : RelV κ a u) (h : fieldA P s f a K) :
    VOK P κ (Instr.field s u f) K := by
  unfold fieldA at h
  split at h
  · rename_i n t hf
    split at h
    · rename_i k hk
      unfold fld at h
      split at h
      · rename_i cs
        obtain ⟨v, hv, hK⟩ := prt_part hk h
        obtain ⟨xs, rfl, hxs, h1x⟩ := ha.agg_inv
        obtain ⟨y, hy, hrel⟩ := partA_ok h1x hxs hv
        unfold fieldOff at hf
        split at hf
        · rename_i fs hu
          split at hf
          · rename_i fd hfd
            split at hf
            · rename_i i hi
              split at hf
              · cases hf
              · cases hf
                refine .mk _ _ (fun w => ?_) hrel hK
                simp [Instr.field, run_underlying hu, hfd, asAgg, hy]
            · cases hf
          · cases hf
        · cases hf
      · exact h.elim
    · exact h.elim
  · exact h.elim
end Go.Sym

namespace Go.Sym
open Go
def elemT (P : Program) (t : TypeId) : Option (TypeId × Nat) :=
  match P.underlying t with
  | some (.slice e) => match P.info? e with
    | some i => some (e, i.size)
    | none => none
  | _ => none
def arrT (P : Program) (t : TypeId) : Option (Nat × TypeId × Nat) :=
  match P.underlying t with
  | some (.array n e) => match P.info? e with
    | some i => some (n, e, i.size)
    | none => none
  | _ => none
theorem elemT_some {P : Program} {t e : TypeId} {n : Nat} (h : elemT P t = some (e, n)) : P.underlying t = some (.slice e) ∧ ∃ i, P.info? e = some i ∧ i.size = n := by
  unfold elemT at h
  split at h
  · rename_i hu
    split at h
    · rename_i i hi
      cases h
      exact ⟨hu, i, hi, rfl⟩
    · cases h
  · cases h
theorem arrT_some {P : Program} {t e : TypeId} {m n : Nat} (h : arrT P t = some (m, e, n)) : P.underlying t = some (.array m e) ∧ ∃ i, P.info? e = some i ∧ i.size = n := by
  unfold arrT at h
  split at h
  · rename_i hu
    split at h
    · rename_i i hi
      cases h
      exact ⟨hu, i, hi, rfl⟩
    · cases h
  · cases h
theorem RelV.lsl_inv {κ : Ghost} {es : Nat} {elems : List AVal} {x : Value} (h : RelV κ (.lsl es elems) x) :
    (∃ b off cap C e fz, x = .slice (some ⟨b, off, none⟩) elems.length cap ∧ κ.imm b = some (.cells C e fz) ∧ elems.length ≤ cap ∧ cap ≤ maxLen ∧ (∀ c ∈ (C.toList.drop off).take (elems.length * es), c.oneCell' = true) ∧ RelEl κ es elems (C.toList.drop off)) ∨
      ∃ a cap, x = .slice (some a) 0 cap ∧ elems = [] ∧ cap ≤ maxLen := by
  cases h with
  | lsl him hn hc hm h1 hv => subst hn; exact .inl ⟨_, _, _, _, _, _, rfl, him, hc, hm, h1, hv⟩
  | lsl0 hm => exact .inr ⟨_, _, rfl, rfl, hm⟩
def ixSR (es : Nat) (x : AVal) (i : Int) : Option (Prop × AVal) :=
  match x with
  | .sl r es' off len => match Nat.beq es' es with
    | true => some ((0 ≤ i ∧ i < len), .ptr r (off + i.toNat) 0)
    | false => none
  | .lsl es' elems => match Nat.beq es' es with
    | true => match elems[i.toNat]? with
      | some e => some (0 ≤ i, .lptr (cellsOf e))
      | none => none
    | false => none
  | _ => none
def ixS (es : Nat) (x : AVal) (i : Int) (K : AVal → Prop) : Prop :=
  match ixSR es x i with
  | some (c, p) => c ∧ K p
  | none => False
def ixS0 (es : Nat) (x : AVal) (i : Int) (K : AVal → Prop) : Prop :=
  match x with
  | .sl r es' off len => chk (Nat.beq es' es) ((0 ≤ i ∧ i < len) ∧ K (.ptr r (off + i.toNat) 0))
  | .lsl es' elems => chk (Nat.beq es' es) (0 ≤ i ∧ match elems[i.toNat]? with
    | some e => K (.lptr (cellsOf e))
    | none => False)
  | _ => False
theorem ixS_eq (es : Nat) (x : AVal) (i : Int) (K : AVal → Prop) : ixS es x i K = ixS0 es x i K := by
  cases x with
  | sl r es' off len =>
    simp only [ixS, ixSR, ixS0]
    cases Nat.beq es' es <;> simp [chk]
  | lsl es' elems =>
    simp only [ixS, ixSR, ixS0]
    cases Nat.beq es' es with
    | false => simp [chk]
    | true => cases elems[i.toNat]? <;> simp
  | _ => rfl
def ixP (n es : Nat) (x : AVal) (i : Int) (K : AVal → Prop) : Prop := (0 ≤ i ∧ i < n) ∧ addOff x (i.toNat * es) K
def indexAddrA (P : Program) (t : TypeId) (x ix : AVal) (K : AVal → Prop) : Prop :=
  match elemT P t, arrT P t, ix with
  | some (_, es), _, .int _ i => ixS es x i K
  | none, some (n, _, es), .int _ i => ixP n es x i K
  | _, _, _ => False
theorem ixS_rel {κ : Ghost} {es : Nat} {x : AVal} {u : Value} {i : Int} {K : AVal → Prop} (hx : RelV κ x u) (h : ixS es x i K) :
    ∃ a len cap av, u = .slice (some a) len cap ∧ 0 ≤ i ∧ i < (len : Int) ∧ RelV κ av (.pointer (some (a.add (i.toNat * es)))) ∧ K av := by
  rw [ixS_eq] at h
  unfold ixS0 at h
  split at h
  · obtain ⟨hes, ⟨h0, h1⟩, hk⟩ := chk_iff.1 h
    obtain rfl := Nat.eq_of_beq_eq_true hes
    cases hx with
    | sl hL he hl hm hxo =>
      rename_i r es' off len L a
      refine ⟨_, _, _, _, rfl, h0, h1, ?_, hk⟩
      have ha : a = L.base + off * L.es := by
        rcases hxo with h | h
        · exact h
        · omega
      rw [addr_add, ha, he]
      have := RelV.ptr (κ := κ) (i := off + i.toNat) (o := 0) hL
      rw [he, Nat.add_zero, Nat.add_mul, ← Nat.add_assoc] at this
      exact this
  · rename_i es' elems
    obtain ⟨hes, h0, hk⟩ := chk_iff.1 h
    obtain rfl := Nat.eq_of_beq_eq_true hes
    split at hk
    · rename_i e he
      obtain ⟨b, off, cap, C, te, fz, rfl, him, hc, hm, h1c, hv⟩ | ⟨_, _, _, rfl, _⟩ := hx.lsl_inv
      case inr => simp at he
      have hlt := (List.getElem?_eq_some_iff.1 he).1
      refine ⟨_, _, _, _, rfl, h0, by omega, ?_, hk⟩
      rw [addr_add]
      refine .lptr him ?_ ?_
      · have h2 := (hv.get he).cells.length
        refine win_sub h1c (by omega) ?_
        have : i.toNat * es' + (cellsOf e).length ≤ elems.length * es' := by
          have h3 : (cellsOf e).length ≤ es' := by rw [← h2, List.length_take]; omega
          calc i.toNat * es' + (cellsOf e).length ≤ i.toNat * es' + es' := by omega
            _ = (i.toNat + 1) * es' := by rw [Nat.add_mul, Nat.one_mul]
            _ ≤ elems.length * es' := Nat.mul_le_mul_right _ hlt
        omega
      have h2 := (hv.get he).cells
      have h3 := h2.length
      rw [List.drop_drop] at h2 h3
      rw [← h3, List.length_take, ← List.take_eq_take_min]
      exact h2
    · exact hk.elim
  · exact h.elim
theorem indexAddrA_ok {P : Program} {κ : Ghost} {t : TypeId} {x ix : AVal} {u v : Value} {K : AVal → Prop} (hx : RelV κ x u) (hi : RelV κ ix v) (h : indexAddrA P t x ix K) :
    VOK P κ (Instr.indexAt t u v) K := by
  unfold indexAddrA at h
  split at h
  · rename_i e es k i hT
    obtain ⟨hu, inf, hinf, rfl⟩ := elemT_some hT
    cases hi
    obtain ⟨a, len, cap, av, rfl, h0, h1, hrel, hk⟩ := ixS_rel hx h
    refine .mk _ _ (fun w => ?_) hrel hk
    simp [Instr.indexAt, asIntOf, run_underlying hu, h0, h1, run_sizeOf' hinf]
  · rename_i n e es k i hT1 hT
    obtain ⟨hu, inf, hinf, rfl⟩ := arrT_some hT
    cases hi
    obtain ⟨⟨h0, h1⟩, h⟩ := h
    obtain ⟨a, av, rfl, hrel, hk⟩ := addOff_rel hx h
    refine .mk _ _ (fun w => ?_) hrel hk
    simp [Instr.indexAt, asIntOf, run_underlying hu, h0, h1, run_sizeOf' hinf, Instr.sureAddr]
  · exact h.elim
def btA (s : ByteArray) (i : Int) : Int := (s[i.toNat]?.getD 0).toNat
def ixStr (x : AVal) (i : Int) (K : Int → Prop) : Prop :=
  match x with
  | .str s => (0 ≤ i ∧ i < s.size) ∧ K (btA s i)
  | _ => False
def ixAgg (n : Nat) (k : Option Nat) (es : Nat) (x : AVal) (i : Int) (K : AVal → Prop) : Prop :=
  match x with
  | .agg cs => (0 ≤ i ∧ i < n) ∧ prt k cs (i.toNat * es) K
  | _ => False
def indexA (P : Program) (t : TypeId) (x ix : AVal) (K : AVal → Prop) : Prop :=
  match ix with
  | .int _ i => match P.underlying t with
    | some .string => ixStr x i fun b => K (.int .u8 b)
    | some (.array n e) => match cellKind P e, P.info? e with
      | some k, some inf => ixAgg n k inf.size x i K
      | _, _ => False
    | _ => False
  | _ => False
theorem indexA_ok {P : Program} {κ : Ghost} {t : TypeId} {x ix : AVal} {u v : Value} {K : AVal → Prop} (hx : RelV κ x u) (hi : RelV κ ix v) (h : indexA P t x ix K) :
    VOK P κ (Instr.index t u v) K := by
  unfold indexA at h
  split at h
  · rename_i k i
    cases hi
    split at h
    · rename_i hu
      unfold ixStr at h
      split at h
      · rename_i s
        obtain ⟨⟨h0, h1⟩, hk⟩ := h
        cases hx
        refine .mk _ _ (fun w => ?_) (.int _ _) hk
        have hlt : i.toNat < s.size := by omega
        simp [Instr.index, asIntOf, run_underlying hu, h0, btA, hlt]
      · exact h.elim
    · rename_i n e hu
      split at h
      · rename_i ck inf hck hinf
        unfold ixAgg at h
        split at h
        · rename_i cs
          obtain ⟨⟨h0, h1⟩, h⟩ := h
          obtain ⟨y, hy, hK⟩ := prt_part hck h
          obtain ⟨xs, rfl, hxs, h1x⟩ := hx.agg_inv
          obtain ⟨z, hz, hrel⟩ := partA_ok h1x hxs hy
          refine .mk _ _ (fun w => ?_) hrel hK
          simp [Instr.index, asIntOf, run_underlying hu, h0, h1, run_sizeOf' hinf, hz]
        · exact h.elim
      · exact h.elim
    · exact h.elim
  · exact h.elim
def slAR (es : Nat) (x : AVal) (l h : Int) : Option (Prop × AVal) :=
  match x with
  | .sl r es' off len => match Nat.beq es' es with
    | true => some ((0 ≤ l ∧ l ≤ h ∧ h ≤ len), .sl r es (off + l.toNat) (h.toNat - l.toNat))
    | false => none
  | .lsl es' elems => match Nat.beq es' es with
    | true => some ((0 ≤ l ∧ l ≤ h ∧ h ≤ elems.length), .lsl es ((elems.drop l.toNat).take (h.toNat - l.toNat)))
    | false => none
  | .nilsl => some ((l = 0 ∧ h = 0), .nilsl)
  | _ => none
def slA (es : Nat) (x : AVal) (l h : Int) (K : AVal → Prop) : Prop :=
  match slAR es x l h with
  | some (c, p) => c ∧ K p
  | none => False
def slA0 (es : Nat) (x : AVal) (l h : Int) (K : AVal → Prop) : Prop :=
  match x with
  | .sl r es' off len => chk (Nat.beq es' es) ((0 ≤ l ∧ l ≤ h ∧ h ≤ len) ∧ K (.sl r es (off + l.toNat) (h.toNat - l.toNat)))
  | .lsl es' elems => chk (Nat.beq es' es) ((0 ≤ l ∧ l ≤ h ∧ h ≤ elems.length) ∧ K (.lsl es ((elems.drop l.toNat).take (h.toNat - l.toNat))))
  | .nilsl => l = 0 ∧ h = 0 ∧ K .nilsl
  | _ => False
theorem slA_eq (es : Nat) (x : AVal) (l h : Int) (K : AVal → Prop) : slA es x l h K = slA0 es x l h K := by
  cases x with
  | sl r es' off len =>
    simp only [slA, slAR, slA0]
    cases Nat.beq es' es <;> simp [chk]
  | lsl es' elems =>
    simp only [slA, slAR, slA0]
    cases Nat.beq es' es <;> simp [chk]
  | nilsl => simp [slA, slAR, slA0, and_assoc]
  | _ => rfl
def lenNR (x : AVal) : Option Int :=
  match x with
  | .nilsl => some 0
  | .sl _ _ _ len => some len
  | .lsl _ elems => some elems.length
  | _ => none
def lenN (x : AVal) (K : Int → Prop) : Prop :=
  match lenNR x with
  | some n => K n
  | none => False
def lenN0 (x : AVal) (K : Int → Prop) : Prop :=
  match x with
  | .nilsl => K 0
  | .sl _ _ _ len => K len
  | .lsl _ elems => K elems.length
  | _ => False
theorem lenN_eq (x : AVal) (K : Int → Prop) : lenN x K = lenN0 x K := by cases x <;> rfl
def slX (es : Nat) (x : AVal) (lo : Int) (hi : Option Int) (K : AVal → Prop) : Prop :=
  match hi with
  | some h => slA es x lo h K
  | none => lenN x fun n => slA es x lo n K
def slStr (s : ByteArray) (lo : Int) (hi : Option Int) (K : ByteArray → Prop) : Prop :=
  match hi with
  | some h => (0 ≤ lo ∧ lo ≤ h ∧ h ≤ s.size) ∧ K (s.extract lo.toNat h.toNat)
  | none => (0 ≤ lo ∧ lo ≤ s.size) ∧ K (s.extract lo.toNat s.size)
def bndA (v : Option AVal) (K : Option Int → Prop) : Prop :=
  match v with
  | none => K none
  | some (.int _ n) => K (some n)
  | _ => False
def slM (es : Nat) (x : AVal) (l h m : Int) (K : AVal → Prop) : Prop :=
  match x with
  | .lsl es' elems => chk (Nat.beq es' es) ((0 ≤ l ∧ l ≤ h ∧ h ≤ m ∧ m ≤ elems.length) ∧ K (.lsl es ((elems.drop l.toNat).take (h.toNat - l.toNat))))
  | .nilsl => (l = 0 ∧ h = 0 ∧ m = 0) ∧ K .nilsl
  | _ => False
def slM3 (P : Program) (t : TypeId) (x : AVal) (lo hi : Option AVal) (m : AVal) (K : AVal → Prop) : Prop :=
  bndA lo fun l => match hi, m with
    | some (.int _ h), .int _ m => match P.underlying t with
      | some (.slice e) => match P.info? e with
        | some i => slM i.size x (l.getD 0) h m K
        | none => False
      | _ => False
    | _, _ => False
def sliceA (P : Program) (t : TypeId) (x : AVal) (lo hi mx : Option AVal) (K : AVal → Prop) : Prop :=
  match mx with
  | some m => slM3 P t x lo hi m K
  | none => bndA lo fun l => bndA hi fun h => match P.underlying t with
    | some .string => match x with
      | .str s => slStr s (l.getD 0) h fun r => K (.str r)
      | _ => False
    | some (.slice e) => match P.info? e with
      | some i => slX i.size x (l.getD 0) h K
      | none => False
    | _ => False
theorem bnd_run {κ : Ghost} {v : Option AVal} {x : Option Value} {K : Option Int → Prop} (hv : ∀ a, v = some a → ∃ y, x = some y ∧ RelV κ a y) (hn : v = none → x = none)
    (h : bndA v K) : ∃ n, K n ∧ ((x = none ∧ n = none) ∨ ∃ k m, x = some (.int k m) ∧ n = some m) := by
  unfold bndA at h
  split at h
  · exact ⟨none, h, .inl ⟨hn rfl, rfl⟩⟩
  · rename_i k n
    obtain ⟨y, rfl, hr⟩ := hv _ rfl
    cases hr
    exact ⟨some n, h, .inr ⟨k, n, rfl, rfl⟩⟩
  · exact h.elim
theorem bounds_run {P : Program} (isSlice : Bool) {len cap : Nat} {lo hi : Option Value} {l h : Int} (hcap : len ≤ cap) (h1 : 0 ≤ l) (h2 : l ≤ h) (h3 : h ≤ len)
    (hl : (lo = none ∧ l = 0) ∨ ∃ k, lo = some (.int k l)) (hh : (hi = none ∧ h = len) ∨ ∃ k, hi = some (.int k h)) (w : World) :
    (Instr.sliceBounds isSlice len cap lo hi none).run P w = .ok (l.toNat, h.toNat, cap) w := by
  have hb : ∀ k (n : Int) (y : Nat) c, 0 ≤ n → n ≤ y → (Instr.sliceBound (.int k n) y c).run P w = .ok n.toNat w := by
    intro k n y c h0 hy
    simp [Instr.sliceBound, asIntOf, h0, hy]
  unfold Instr.sliceBounds
  rcases hl with ⟨rfl, rfl⟩ | ⟨k, rfl⟩ <;> rcases hh with ⟨rfl, rfl⟩ | ⟨k', rfl⟩
  · simp
  · simp [hb k' h cap _ (by omega) (by omega)]
  · simp [hb k l len _ (by omega) (by omega)]
  · have e : h ≤ (cap : Int) := by omega
    simp [hb k' h cap _ (by omega) e, hb k l h.toNat _ (by omega) (by omega)]
theorem slA_ok {κ : Ghost} {es : Nat} {x : AVal} {u : Value} {l h : Int} {K : AVal → Prop} (hx : RelV κ x u) (hs : slA es x l h K) :
    ∃ base len cap, u = .slice base len cap ∧ len ≤ cap ∧ 0 ≤ l ∧ l ≤ h ∧ h ≤ len ∧
      ∃ av, RelV κ av (.slice (if cap = l.toNat then base else base.map (·.add (l.toNat * es))) (h.toNat - l.toNat) (cap - l.toNat)) ∧ K av := by
  rw [slA_eq] at hs
  unfold slA0 at hs
  split at hs
  · obtain ⟨hes0, ⟨h0, h1, h2⟩, hk⟩ := chk_iff.1 hs
    obtain rfl := Nat.eq_of_beq_eq_true hes0
    cases hx with
    | sl hL he hl hm hxo =>
      rename_i r es' off len L a
      refine ⟨_, _, _, rfl, by omega, h0, h1, h2, _, ?_, hk⟩
      have hcap : L.cap - off - l.toNat = L.cap - (off + l.toNat) := by omega
      rw [hcap]
      split
      · rename_i e
        exact .sl hL he (by omega) hm (.inr (by omega))
      · rename_i e
        simp only [Option.map_some, addr_add]
        refine .sl hL he (by omega) hm ?_
        rcases hxo with h3 | h3
        · left; rw [h3, he, Nat.add_mul]; omega
        · right; omega
  · rename_i es' elems
    obtain ⟨hes0, ⟨h0, h1, h2⟩, hk⟩ := chk_iff.1 hs
    obtain rfl := Nat.eq_of_beq_eq_true hes0
    have hlen : h.toNat - l.toNat = ((elems.drop l.toNat).take (h.toNat - l.toNat)).length := by simp; omega
    obtain ⟨b, off, cap, C, te, fz, rfl, him, hc, hm, h1c, hv⟩ | ⟨a, cap, rfl, rfl, hm⟩ := hx.lsl_inv
    case inr =>
      refine ⟨_, _, _, rfl, by omega, h0, h1, by simp at h2; omega, _, ?_, hk⟩
      have e1 : l.toNat = 0 := by simp at h2; omega
      have e2 : h.toNat = 0 := by simp at h2; omega
      rw [e1, e2]
      simp only [Nat.sub_self, List.drop_nil, List.take_nil, Nat.zero_mul, Nat.sub_zero]
      split
      · exact .lsl0 hm
      · exact .lsl0 hm
    refine ⟨_, _, _, rfl, hc, h0, h1, by omega, _, ?_, hk⟩
    have hel := RelEl.take (h.toNat - l.toNat) (RelEl.drop l.toNat (by omega) hv)
    rw [List.drop_drop] at hel
    split
    · rename_i e
      have h4 : h.toNat - l.toNat = 0 := by omega
      refine .lsl him hlen (by omega) (by omega) (by rw [← hlen, h4]; simp) ?_
      rw [h4]
      simpa using RelEl.nil
    · simp only [Option.map_some, addr_add]
      refine .lsl him hlen (by omega) (by omega) ?_ hel
      refine win_sub h1c (by omega) ?_
      have : l.toNat * es' + (h.toNat - l.toNat) * es' ≤ elems.length * es' := by
        rw [← Nat.add_mul]
        exact Nat.mul_le_mul_right _ (by omega)
      rw [← hlen]
      omega
  · obtain ⟨rfl, rfl, hk⟩ := hs
    cases hx
    exact ⟨_, _, _, rfl, Nat.le_refl _, by omega, by omega, by omega, _, by simpa using RelV.nilsl, hk⟩
  · exact hs.elim
theorem lenN_inv {κ : Ghost} {x : AVal} {u : Value} {K : Int → Prop} (hx : RelV κ x u) (h : lenN x K) : ∃ n : Nat, K n ∧ ∃ a c, u = .slice a n c := by
  rw [lenN_eq] at h
  unfold lenN0 at h
  split at h
  · cases hx; exact ⟨0, h, _, _, rfl⟩
  · cases hx; exact ⟨_, h, _, _, rfl⟩
  · cases hx with
    | lsl him hn hc hm _ hv => exact ⟨_, h, _, _, by rw [hn]⟩
    | lsl0 _ => exact ⟨_, h, _, _, rfl⟩
  · exact h.elim
theorem slX_ok {κ : Ghost} {es : Nat} {x : AVal} {u : Value} {lo : Int} {hi : Option Int} {K : AVal → Prop} (hx : RelV κ x u) (hs : slX es x lo hi K) :
    ∃ (h : Int) (base : Option Addr) (len cap : Nat), (hi = some h ∨ (hi = none ∧ h = (len : Int))) ∧ u = .slice base len cap ∧ len ≤ cap ∧ 0 ≤ lo ∧ lo ≤ h ∧ h ≤ len ∧
      ∃ av, RelV κ av (.slice (if cap = lo.toNat then base else base.map (·.add (lo.toNat * es))) (h.toNat - lo.toNat) (cap - lo.toNat)) ∧ K av := by
  unfold slX at hs
  split at hs
  · rename_i h
    obtain ⟨base, len, cap, h1, h2, h3, h4, h5, h6⟩ := slA_ok hx hs
    exact ⟨h, base, len, cap, .inl rfl, h1, h2, h3, h4, h5, h6⟩
  · obtain ⟨n, hs, a, c, rfl⟩ := lenN_inv hx hs
    obtain ⟨base, len, cap, h1, h2, h3, h4, h5, h6⟩ := slA_ok hx hs
    cases h1
    exact ⟨n, _, _, _, .inr ⟨rfl, rfl⟩, rfl, h2, h3, h4, h5, h6⟩
theorem bounds3_run {P : Program} {len cap : Nat} {lo : Option Value} {l h m : Int} {kh km : IntKind} (h1 : 0 ≤ l) (h2 : l ≤ h) (h3 : h ≤ m) (h4 : m ≤ cap)
    (hl : (lo = none ∧ l = 0) ∨ ∃ k, lo = some (.int k l)) (w : World) :
    (Instr.sliceBounds true len cap lo (some (.int kh h)) (some (.int km m))).run P w = .ok (l.toNat, h.toNat, m.toNat) w := by
  have hb : ∀ k (n : Int) (y : Nat) c, 0 ≤ n → n ≤ y → (Instr.sliceBound (.int k n) y c).run P w = .ok n.toNat w := by
    intro k n y c h0 hy
    simp [Instr.sliceBound, asIntOf, h0, hy]
  unfold Instr.sliceBounds
  rcases hl with ⟨rfl, rfl⟩ | ⟨k, rfl⟩
  · simp [hb km m cap _ (by omega) (by omega), hb kh h m.toNat _ (by omega) (by omega)]
  · simp [hb km m cap _ (by omega) (by omega), hb kh h m.toNat _ (by omega) (by omega), hb k l h.toNat _ (by omega) (by omega)]
theorem slM_ok {κ : Ghost} {es : Nat} {x : AVal} {u : Value} {l h m : Int} {K : AVal → Prop} (hx : RelV κ x u) (hs : slM es x l h m K) :
    ∃ base len cap, u = .slice base len cap ∧ 0 ≤ l ∧ l ≤ h ∧ h ≤ m ∧ m ≤ cap ∧
      ∃ av, RelV κ av (.slice (if m.toNat = l.toNat then base else base.map (·.add (l.toNat * es))) (h.toNat - l.toNat) (m.toNat - l.toNat)) ∧ K av := by
  unfold slM at hs
  split at hs
  · rename_i es' elems
    obtain ⟨hes0, ⟨h0, h1, h2, h3⟩, hk⟩ := chk_iff.1 hs
    obtain rfl := Nat.eq_of_beq_eq_true hes0
    have hlen : h.toNat - l.toNat = ((elems.drop l.toNat).take (h.toNat - l.toNat)).length := by simp; omega
    obtain ⟨b, off, cap, C, te, fz, rfl, him, hc, hm, h1c, hv⟩ | ⟨a, cap, rfl, rfl, hm⟩ := hx.lsl_inv
    case inr =>
      simp only [List.length_nil] at h3
      refine ⟨_, _, _, rfl, h0, h1, h2, by omega, _, ?_, hk⟩
      have e1 : l.toNat = 0 := by omega
      have e2 : h.toNat = 0 := by omega
      have e3 : m.toNat = 0 := by omega
      rw [e1, e2, e3]
      simp only [Nat.sub_self, List.drop_nil, List.take_nil, if_true]
      exact .lsl0 (by omega)
    refine ⟨_, _, _, rfl, h0, h1, h2, by omega, _, ?_, hk⟩
    have hel := RelEl.take (h.toNat - l.toNat) (RelEl.drop l.toNat (by omega) hv)
    rw [List.drop_drop] at hel
    split
    · rename_i e
      have h4 : h.toNat - l.toNat = 0 := by omega
      refine .lsl him hlen (by omega) (by omega) (by rw [← hlen, h4]; simp) ?_
      rw [h4]
      simpa using RelEl.nil
    · simp only [Option.map_some, addr_add]
      refine .lsl him hlen (by omega) (by omega) ?_ hel
      refine win_sub h1c (by omega) ?_
      have : l.toNat * es' + (h.toNat - l.toNat) * es' ≤ elems.length * es' := by
        rw [← Nat.add_mul]
        exact Nat.mul_le_mul_right _ (by omega)
      rw [← hlen]
      omega
  · obtain ⟨⟨rfl, rfl, rfl⟩, hk⟩ := hs
    cases hx
    exact ⟨_, _, _, rfl, by omega, by omega, by omega, by omega, _, by simpa using RelV.nilsl, hk⟩
  · exact hs.elim
theorem slM3_ok {P : Program} {κ : Ghost} {t : TypeId} {x : AVal} {lo hi : Option AVal} {mx : AVal} {u y : Value} {l h : Option Value} {K : AVal → Prop} (hx : RelV κ x u)
    (hlo : ∀ a, lo = some a → ∃ y, l = some y ∧ RelV κ a y) (hlo' : lo = none → l = none) (hhi : ∀ a, hi = some a → ∃ y, h = some y ∧ RelV κ a y) (hy : RelV κ mx y)
    (hs : slM3 P t x lo hi mx K) : VOK P κ (Instr.sliceAt t u l h (some y)) K := by
  unfold slM3 at hs
  obtain ⟨a, hs, hla⟩ := bnd_run hlo hlo' hs
  have hla' : (l = none ∧ a.getD 0 = 0) ∨ ∃ k, l = some (.int k (a.getD 0)) := by
    rcases hla with ⟨rfl, rfl⟩ | ⟨k, m, rfl, rfl⟩
    · exact .inl ⟨rfl, rfl⟩
    · exact .inr ⟨k, rfl⟩
  split at hs
  · rename_i kh hh km mm
    obtain ⟨z, rfl, hz⟩ := hhi _ rfl
    cases hz
    cases hy
    split at hs
    · rename_i e hu
      split at hs
      · rename_i inf hinf
        obtain ⟨base, len, cap, rfl, h0, h1, h2, h3, av, hrel, hk⟩ := slM_ok hx hs
        refine .mk _ _ (fun w => ?_) hrel hk
        simp [Instr.sliceAt, Instr.slice, run_underlying hu, bounds3_run h0 h1 h2 h3 hla' w, run_sizeOf' hinf]
      · exact hs.elim
    · exact hs.elim
  · exact hs.elim
theorem sliceA_ok {P : Program} {κ : Ghost} {t : TypeId} {x : AVal} {lo hi mx : Option AVal} {u : Value} {l h m : Option Value} {K : AVal → Prop} (hx : RelV κ x u)
    (hlo : ∀ a, lo = some a → ∃ y, l = some y ∧ RelV κ a y) (hlo' : lo = none → l = none) (hhi : ∀ a, hi = some a → ∃ y, h = some y ∧ RelV κ a y) (hhi' : hi = none → h = none)
    (hmx : mx = none → m = none) (hmx2 : ∀ a, mx = some a → ∃ y, m = some y ∧ RelV κ a y) (hs : sliceA P t x lo hi mx K) : VOK P κ (Instr.sliceAt t u l h m) K := by
  unfold sliceA at hs
  split at hs
  · obtain ⟨y, rfl, hy⟩ := hmx2 _ rfl
    exact slM3_ok hx hlo hlo' hhi hy hs
  · obtain rfl := hmx rfl
    obtain ⟨a, hs2, hla⟩ := bnd_run hlo hlo' hs
    clear hs
    obtain ⟨b, hs, hlb⟩ := bnd_run hhi hhi' hs2
    clear hs2
    have hla' : (l = none ∧ a.getD 0 = 0) ∨ ∃ k, l = some (.int k (a.getD 0)) := by
      rcases hla with ⟨rfl, rfl⟩ | ⟨k, m, rfl, rfl⟩
      · exact .inl ⟨rfl, rfl⟩
      · exact .inr ⟨k, rfl⟩
    split at hs
    · rename_i hu
      split at hs
      · rename_i s
        cases hx
        have : ∃ hh : Int, ((h = none ∧ hh = s.size) ∨ ∃ k, h = some (.int k hh)) ∧ (0 ≤ a.getD 0 ∧ a.getD 0 ≤ hh ∧ hh ≤ s.size) ∧ K (.str (s.extract (a.getD 0).toNat hh.toNat)) := by
          unfold slStr at hs
          split at hs
          · rename_i hh
            refine ⟨hh, .inr ?_, hs.1, hs.2⟩
            rcases hlb with ⟨_, e⟩ | ⟨k, m, rfl, e⟩
            · cases e
            · cases e; exact ⟨k, rfl⟩
          · refine ⟨s.size, .inl ⟨?_, rfl⟩, ⟨hs.1.1, hs.1.2, Int.le_refl _⟩, by simpa using hs.2⟩
            rcases hlb with ⟨rfl, _⟩ | ⟨k, m, _, e⟩
            · rfl
            · cases e
        obtain ⟨hh, hb2, ⟨h0, h1, h2⟩, hk⟩ := this
        refine .mk _ _ (fun w => ?_) (.str _) hk
        simp [Instr.sliceAt, Instr.slice, run_underlying hu, bounds_run false (Nat.le_refl s.size) h0 h1 h2 hla' hb2 w]
      · exact hs.elim
    · rename_i e hu
      split at hs
      · rename_i inf hinf
        obtain ⟨hh, base, len, cap, hhi2, rfl, hc, h0, h1, h2, av, hrel, hk⟩ := slX_ok hx hs
        have hb2 : (h = none ∧ hh = len) ∨ ∃ k, h = some (.int k hh) := by
          rcases hlb with ⟨rfl, rfl⟩ | ⟨k, m, rfl, rfl⟩
          · rcases hhi2 with e | ⟨_, e⟩
            · cases e
            · exact .inl ⟨rfl, e⟩
          · rcases hhi2 with e | ⟨e, _⟩
            · cases e; exact .inr ⟨k, rfl⟩
            · cases e
        refine .mk _ _ (fun w => ?_) hrel hk
        simp [Instr.sliceAt, Instr.slice, run_underlying hu, bounds_run true hc h0 h1 h2 hla' hb2 w, run_sizeOf' hinf]
      · exact hs.elim
    · exact hs.elim
end Go.Sym

namespace Go.Sym
open Go
def setList (cs : Array Value) (o : Nat) : List Value → Array Value
  | [] => cs
  | v :: vs => setList (cs.setIfInBounds o v) (o + 1) vs
theorem setList_size : ∀ (vs : List Value) (cs : Array Value) (o : Nat), (setList cs o vs).size = cs.size
  | [], _, _ => rfl
  | v :: vs, cs, o => by simp [setList, setList_size vs]
theorem setList_toList : ∀ (vs : List Value) (cs : Array Value) (o : Nat), o + vs.length ≤ cs.size →
    (setList cs o vs).toList = cs.toList.take o ++ vs ++ cs.toList.drop (o + vs.length)
  | [], cs, o, _ => by simp [setList]
  | v :: vs, cs, o, h => by
    simp only [List.length_cons] at h
    rw [setList, setList_toList vs _ _ (by simp; omega)]
    simp only [Array.toList_setIfInBounds]
    rw [List.take_set, List.drop_set_of_lt (by omega)]
    have hlen : o < (cs.toList.take (o + 1)).length := by simp; omega
    have e1 : (cs.toList.take (o + 1)).set o v = cs.toList.take o ++ [v] := by
      rw [List.set_eq_take_append_cons_drop]
      rw [if_pos hlen, List.take_take, List.drop_take]
      simp
    rw [e1]
    simp only [List.length_cons, List.append_assoc, List.cons_append, List.nil_append]
    rw [show o + 1 + vs.length = o + (vs.length + 1) by omega]
theorem foldl_setList (off : Nat) : ∀ (vs : List Value) (k : Nat) (cs : Array Value),
    (vs.zipIdx k).foldl (fun cs (x : Value × Nat) => cs.setIfInBounds (off + x.2) x.1) cs = setList cs (off + k) vs
  | [], _, _ => rfl
  | v :: vs, k, cs => by
    rw [List.zipIdx_cons, List.foldl_cons, foldl_setList off vs (k + 1)]
    rfl
theorem setList_rel {κ : Ghost} {cells vs : List AVal} {cs : Array Value} {xs : List Value} {o : Nat} (h : RelVs κ cells cs.toList) (hv : RelVs κ vs xs) (hl : o + vs.length ≤ cells.length) :
    RelVs κ (cells.take o ++ vs ++ cells.drop (o + vs.length)) (setList cs o xs).toList := by
  have e1 := h.length
  have e2 := hv.length
  rw [setList_toList xs cs o (by simp at e1; omega), ← e2]
  exact ((h.take o).append hv).append (h.drop _)
theorem setList_one : ∀ (xs : List Value) (cs : Array Value) (o : Nat), (∀ c ∈ cs.toList, c.oneCell' = true) → (∀ x ∈ xs, x.oneCell' = true) → ∀ c ∈ (setList cs o xs).toList, c.oneCell' = true
  | [], cs, o, h, _ => h
  | x :: xs, cs, o, h, hx => by
    refine setList_one xs _ (o + 1) (fun c hc => ?_) (fun y hy => hx y (List.mem_cons_of_mem _ hy))
    rw [Array.toList_setIfInBounds] at hc
    rcases List.mem_or_eq_of_mem_set hc with hc | rfl
    · exact h c hc
    · exact hx _ (List.mem_cons_self)
def storable : AVal → Bool
  | .undef | .tuple _ => false
  | _ => true
theorem RelV.cells {κ : Ghost} {a : AVal} {v : Value} (hs : storable a = true) (h : RelV κ a v) : RelVs κ (cellsOf a) v.cells.toList ∧ (∀ c ∈ v.cells.toList, c.oneCell' = true) ∧ RelC κ a v.cells.toList := by
  have key : RelVs κ (cellsOf a) v.cells.toList ∧ (∀ c ∈ v.cells.toList, c.oneCell' = true) := by
    cases h with
    | undef => simp [storable] at hs
    | tuple => simp [storable] at hs
    | agg h1 h => exact ⟨by simpa [Value.cells] using h, by simpa [Value.cells] using h1⟩
    | _ => exact ⟨.cons (by constructor <;> assumption) .nil, by simp [Value.cells, Value.oneCell']⟩
  exact ⟨key.1, key.2, .of_cells key.1⟩
def sc (v : AVal) : Bool := storable v && !v.isAgg
theorem sc_cells {v : AVal} (h : sc v = true) : storable v = true ∧ v.isAgg = false ∧ cellsOf v = [v] := by
  simp only [sc, Bool.and_eq_true, Bool.not_eq_true'] at h
  refine ⟨h.1, h.2, ?_⟩
  cases v <;> first | rfl | simp [AVal.isAgg] at h
def aggN (n : Nat) (v : AVal) (K : List AVal → Prop) : Prop :=
  match v with
  | .agg cs => chkH (Nat.beq cs.length n) (K cs)
  | _ => False
theorem aggN_inv {n : Nat} {v : AVal} {K : List AVal → Prop} (h : aggN n v K) : ∃ cs, v = .agg cs ∧ cs.length = n ∧ K cs := by
  unfold aggN at h
  split at h
  · rename_i cs
    obtain ⟨h1, h2⟩ := chk_iff.1 h
    exact ⟨cs, rfl, Nat.eq_of_beq_eq_true h1, h2⟩
  · exact h.elim
def cellsK (k : Option Nat) (v : AVal) (K : List AVal → Prop) : Prop :=
  match k with
  | none => chk (sc v) (K [v])
  | some n => aggN n v K
theorem cellsK_inv {k : Option Nat} {v : AVal} {K : List AVal → Prop} (h : cellsK k v K) : storable v = true ∧ (cellsOf v).length = k.getD 1 ∧ (k = none → v.isAgg = false) ∧ (k ≠ none → v.isAgg = true) ∧ K (cellsOf v) := by
  unfold cellsK at h
  split at h
  · obtain ⟨h1, h2⟩ := chk_iff.1 h
    obtain ⟨h3, h4, h5⟩ := sc_cells h1
    exact ⟨h3, by rw [h5]; rfl, fun _ => h4, fun e => absurd rfl e, by rw [h5]; exact h2⟩
  · obtain ⟨cs, rfl, h1, h2⟩ := aggN_inv h
    exact ⟨rfl, h1, (fun e => by cases e), fun _ => rfl, h2⟩
def fillA (place : Nat → Option (Nat × Option Nat)) : List AVal → List (Nat × AVal) → (List AVal → Prop) → Prop
  | cells, [], K => K cells
  | cells, (i, v) :: rest, K =>
    match place i with
    | none => False
    | some (off, k) => cellsK k v fun cs => chkH (Nat.ble (off + k.getD 1) cells.length) (fillA place (cells.take off ++ cs ++ cells.drop (off + k.getD 1)) rest K)
theorem fillA_ok {κ : Ghost} {place : Nat → Option (Nat × Option Nat)} {place' : Nat → Option (Nat × Nat)} (hpl : ∀ i off k, place i = some (off, k) → place' i = some (off, k.getD 1)) :
    ∀ {parts : List (Nat × AVal)} {us : List (Nat × Value)} {cells : List AVal} {cs : Array Value} {K : List AVal → Prop},
    fillA place cells parts K → RelVs κ cells cs.toList → (∀ c ∈ cs.toList, c.oneCell' = true) → us.map (·.1) = parts.map (·.1) → (∀ (j : Nat) a u, parts[j]? = some a → us[j]? = some u → RelV κ a.2 u.2) →
    ∃ ds out, Instr.fill place' cs us = some ds ∧ RelVs κ out ds.toList ∧ (∀ c ∈ ds.toList, c.oneCell' = true) ∧ K out
  | [], us, cells, cs, K, h, hr, h1, hm, _ => by
    have : us = [] := by simpa using hm
    subst this
    exact ⟨cs, cells, rfl, hr, h1, h⟩
  | (i, v) :: rest, us, cells, cs, K, h, hr, h1, hm, hp => by
    obtain ⟨⟨i', u⟩, us', rfl⟩ : ∃ x us', us = x :: us' := by
      cases us with
      | nil => simp at hm
      | cons x us' => exact ⟨x, us', rfl⟩
    simp only [List.map_cons, List.cons.injEq] at hm
    obtain ⟨rfl, hm⟩ := hm
    simp only [fillA] at h
    split at h
    · exact h.elim
    · rename_i off k hplk
      obtain ⟨hs, hsz, _, _, hc⟩ := cellsK_inv h
      obtain ⟨hle, hc⟩ := chk_iff.1 hc
      have hle := Nat.le_of_ble_eq_true hle
      have hv : RelV κ v u := hp 0 (i', v) (i', u) rfl rfl
      obtain ⟨hcells, hone, _⟩ := hv.cells hs
      have hlen := hcells.length
      have hlen' : u.cells.size = (cellsOf v).length := by simpa using hlen
      have hrl := hr.length
      have h2 := setList_rel (o := off) hr hcells (by omega)
      rw [hsz] at h2
      have h3 := setList_one u.cells.toList cs off h1 hone
      obtain ⟨ds, out, hd, hdr, hd1, hK⟩ := fillA_ok hpl (us := us') hc h2 h3 hm (fun j a u ha hu => hp (j + 1) a u (by simpa using ha) (by simpa using hu))
      refine ⟨ds, out, ?_, hdr, hd1, hK⟩
      simp only [Instr.fill, hpl _ _ _ hplk]
      rw [if_neg (by simp at hrl; simp; omega)]
      have e : u.cells.zipIdx.foldl (fun cs (x : Value × Nat) => cs.setIfInBounds (off + x.2) x.1) cs = setList cs off u.cells.toList := by
        have := foldl_setList off u.cells.toList 0 cs
        rw [Nat.add_zero] at this
        rw [← this, ← Array.foldl_toList]
        simp
      rw [e]
      exact hd
end Go.Sym

namespace Go.Sym
open Go
theorem run_mapM {P : Program} {α β : Type} {f : α → Sem β} {g : α → β} : ∀ (l : List α), (∀ x ∈ l, ∀ w, (f x).run P w = .ok (g x) w) → ∀ w, (l.mapM f).run P w = .ok (l.map g) w
  | [], _, w => by simp
  | x :: l, h, w => by
    rw [List.mapM_cons]
    simp [h x (List.mem_cons_self), run_mapM l (fun y hy => h y (List.mem_cons_of_mem _ hy))]
theorem run_mapMA {P : Program} {α β : Type} {f : α → Sem β} {g : α → β} (l : Array α) (h : ∀ x ∈ l.toList, ∀ w, (f x).run P w = .ok (g x) w) (w : World) : (l.mapM f).run P w = .ok (l.map g) w := by
  rw [Array.mapM_eq_mapM_toList]
  simp [run_mapM l.toList h, ← Array.toList_map]
def kindSz (P : Program) (t : TypeId) : Option (Option Nat) :=
  match cellKind P t, P.info? t with
  | some none, some i => if i.size = 1 then some none else none
  | some (some n), some i => if i.size = n then some (some n) else none
  | _, _ => none
theorem kindSz_some {P : Program} {t : TypeId} {k : Option Nat} (h : kindSz P t = some k) : ∃ i, P.info? t = some i ∧ i.size = k.getD 1 ∧ cellKind P t = some k := by
  unfold kindSz at h
  split at h
  · rename_i i h1 h2
    split at h
    · cases h; exact ⟨i, h2, by assumption, h1⟩
    · cases h
  · rename_i n i h1 h2
    split at h
    · cases h; exact ⟨i, h2, by assumption, h1⟩
    · cases h
  · cases h
def placesA (P : Program) (t : TypeId) : Option (Nat → Option (Nat × Option Nat)) :=
  match P.underlying t with
  | some (.struct fs) => if fs.toList.all (fun f => (P.info? f.type).isSome) = true then some (fun i => match fs[i]? with
      | some f => match kindSz P f.type with
        | some k => some (f.offset, k)
        | none => none
      | none => none) else none
  | some (.array _ e) => match kindSz P e with
    | some k => some (fun i => some (i * k.getD 1, k))
    | none => none
  | _ => none
def zeroC (P : Program) (t : TypeId) : Option Value :=
  match P.info? t with
  | some i => match i.zero with
    | some z => if z.cells.toList.all (·.oneCell') = true then some z else none
    | none => none
  | none => none
theorem zeroC_some {P : Program} {t : TypeId} {z : Value} (h : zeroC P t = some z) : (∀ w, (zeroValue t).run P w = .ok z w) ∧ (∀ c ∈ z.cells.toList, c.oneCell' = true) ∧ ∃ i, P.info? t = some i ∧ i.zero = some z := by
  unfold zeroC at h
  split at h
  · rename_i i hi
    split at h
    · rename_i z' hz
      split at h
      · rename_i h1
        cases h
        refine ⟨fun w => ?_, List.all_eq_true.1 h1, i, hi, hz⟩
        simp [zeroValue, typeInfo, hi, hz]
      · cases h
    · cases h
  · cases h
def buildA (P : Program) (t : TypeId) (parts : List (Nat × AVal)) (K : AVal → Prop) : Prop :=
  match zeroC P t, placesA P t with
  | some z, some pl => fillA pl (z.cells.toList.map absC) parts fun cs => K (.agg cs)
  | _, _ => False
theorem buildA_ok {P : Program} {κ : Ghost} {t : TypeId} {parts : List (Nat × AVal)} {us : Array (Nat × Value)} {K : AVal → Prop}
    (hm : us.toList.map (·.1) = parts.map (·.1)) (hp : ∀ (j : Nat) a u, parts[j]? = some a → us.toList[j]? = some u → RelV κ a.2 u.2) (h : buildA P t parts K) : VOK P κ (Instr.build t us) K := by
  unfold buildA at h
  split at h
  · rename_i z pl hz hpl
    obtain ⟨hzr, hz1, _⟩ := zeroC_some hz
    unfold placesA at hpl
    split at hpl
    · rename_i fs hu
      split at hpl
      · rename_i hall
        cases hpl
        obtain ⟨ds, out, hd, hdr, hd1, hk⟩ := fillA_ok (place' := fun (i : Nat) => (fs[i]?).map fun (f : Field) => (f.offset, P.cellsOf f.type)) (by
          intro i off k hi
          split at hi
          · rename_i f hf
            split at hi
            · rename_i k' hk'
              cases hi
              obtain ⟨inf, hinf, hsz, _⟩ := kindSz_some hk'
              simp [hf, Program.cellsOf, hinf, hsz]
            · cases hi
          · cases hi) h (absCs_rel κ z.cells.toList) hz1 hm hp
        refine .mk (.agg ds) _ (fun w => ?_) (by simpa using RelV.agg hd1 hdr) hk
        have hmap : ∀ w, (fs.mapM (fun (f : Field) => do pure (f.offset, ← sizeOf f.type)) : Sem _).run P w = .ok (fs.map fun (f : Field) => (f.offset, P.cellsOf f.type)) w := by
          intro w
          refine run_mapMA fs (fun f hf w => ?_) w
          have := List.all_eq_true.1 hall f hf
          cases hi : P.info? f.type with
          | none => rw [hi] at this; cases this
          | some i => simp [run_sizeOf' hi, Program.cellsOf, hi]
        have e : (fun (i : Nat) => (fs.map fun (f : Field) => (f.offset, P.cellsOf f.type))[i]?) = (fun (i : Nat) => (fs[i]?).map fun (f : Field) => (f.offset, P.cellsOf f.type)) := by
          funext i
          simp
        simp only [Instr.build, Sem.run_bind, hzr, Result.andThen_ok, run_underlying hu, hmap]
        rw [e, hd]
        rfl
      · cases hpl
    · rename_i n e hu
      split at hpl
      · rename_i k hkz
        cases hpl
        obtain ⟨inf, hinf, hsz, _⟩ := kindSz_some hkz
        obtain ⟨ds, out, hd, hdr, hd1, hk⟩ := fillA_ok (place' := fun (i : Nat) => some (i * inf.size, inf.size)) (by
          intro i off k' hi
          cases hi
          rw [hsz]) h (absCs_rel κ z.cells.toList) hz1 hm hp
        refine .mk (.agg ds) _ (fun w => ?_) (by simpa using RelV.agg hd1 hdr) hk
        simp only [Instr.build, Sem.run_bind, hzr, Result.andThen_ok, run_underlying hu, run_sizeOf' hinf]
        rw [hd]
        rfl
      · cases hpl
    · cases hpl
  · exact h.elim
theorem relVs_map {κ : Ghost} {α : Type} {f : α → AVal} {g : α → Value} : ∀ (l : List α), (∀ x ∈ l, RelV κ (f x) (g x)) → RelVs κ (l.map f) (l.map g)
  | [], _ => .nil
  | x :: l, h => .cons (h x (List.mem_cons_self)) (relVs_map l fun y hy => h y (List.mem_cons_of_mem _ hy))
def extractA (x : AVal) (i : Nat) (K : AVal → Prop) : Prop :=
  match x with
  | .tuple vs => match vs[i]? with
    | some v => K v
    | none => False
  | _ => False
theorem extractA_ok {P : Program} {κ : Ghost} {x : AVal} {u : Value} {i : Nat} {K : AVal → Prop} (hx : RelV κ x u) (h : extractA x i K) : VOK P κ (Instr.extract u i) K := by
  unfold extractA at h
  split at h
  · split at h
    · rename_i v hv
      cases hx with
      | tuple hr =>
        obtain ⟨y, hy, hrel⟩ := hr.get hv
        exact .mk _ _ (fun w => by simp [Instr.extract, hy]) hrel h
    · exact h.elim
  · exact h.elim
def pickA (c a b : AVal) (K : AVal → Prop) : Prop :=
  match c, a, b with
  | .bool t, .bool x, .bool y => K (.bool (if t = true then x else y))
  | .bool t, a, b => if t = true then K a else K b
  | _, _, _ => False
theorem pickA_ok {κ : Ghost} {c a b : AVal} {u x y : Value} {K : AVal → Prop} (hc : RelV κ c u) (ha : RelV κ a x) (hb : RelV κ b y) (h : pickA c a b K) :
    ∃ t av, u = .bool t ∧ RelV κ av (if t = true then x else y) ∧ K av := by
  unfold pickA at h
  split at h
  · rename_i t p q
    cases hc; cases ha; cases hb
    refine ⟨t, _, rfl, ?_, h⟩
    split <;> exact .bool _
  · cases hc
    rename_i t _
    refine ⟨t, if t = true then a else b, rfl, ?_, ?_⟩
    · split <;> assumption
    · split at h <;> simp_all
  · exact h.elim
def nilCheckA (x : AVal) (K : AVal → Prop) : Prop :=
  match x with
  | .ptr .. | .lptr _ => K x
  | .func (.func _) _ _ => K x
  | _ => False
def lenStr (x : AVal) (K : Int → Prop) : Prop :=
  match x with
  | .str s => K s.size
  | _ => False
def lenOpA (P : Program) (t : TypeId) (x : AVal) (K : AVal → Prop) : Prop :=
  match P.underlying t with
  | some .string => lenStr x fun n => K (.int .i64 n)
  | some (.slice _) => lenN x fun n => K (.int .i64 n)
  | some (.array n _) => K (.int .i64 n)
  | _ => False
theorem lenOpA_ok {P : Program} {κ : Ghost} {t ty : TypeId} {x : AVal} {u : Value} {K : AVal → Prop} (hx : RelV κ x u) (h : lenOpA P t x K) : VOK P κ (Builtin.len_ #[t] ty #[u]) K := by
  unfold lenOpA at h
  split at h
  · rename_i hu
    unfold lenStr at h
    split at h
    · cases hx
      exact .mk _ _ (fun w => by simp [Builtin.len_, run_underlying hu, goInt]) (.int _ _) h
    · exact h.elim
  · rename_i hu
    obtain ⟨n, hk, a, c, rfl⟩ := lenN_inv hx h
    exact .mk _ _ (fun w => by simp [Builtin.len_, run_underlying hu, goInt]) (.int _ _) hk
  · rename_i n e hu
    exact .mk _ _ (fun w => by simp [Builtin.len_, run_underlying hu, goInt]) (.int _ _) h
  · exact h.elim
end Go.Sym

namespace Go.Sym
open Go
def bltA (P : Program) (b : Builtin) (ts : List TypeId) (xs : List AVal) (K : AVal → Prop) : Prop :=
  match b, ts, xs with
  | .len, [t], [x] => lenOpA P t x K
  | .max, _, [.int k a, .int k' b] => chkH (decide (k = k')) (K (.int k (max a b)))
  | .min, _, [.int k a, .int k' b] => chkH (decide (k = k')) (K (.int k (min a b)))
  | _, _, _ => False
def vop (P : Program) (ev : Operand → AVal) (op : Op) (K : AVal → Prop) : Prop :=
  match op with
  | .move x | .assign x => K (ev x)
  | .pick c a b => pickA (ev c) (ev a) (ev b) K
  | .unOp u _ x => unA u (ev x) K
  | .binOp b t x y _ => match scalarT P t with
    | true => binA b (ev x) (ev y) K
    | false => eqA P b t (ev x) (ev y) K
  | .convert s d x => convA P s d (ev x) K
  | .makeFunc f a c => K (.func f (a.toList.map ev) (c.toList.map ev))
  | .fieldAddr s x f => fieldAddrA P s f (ev x) K
  | .field s x f => fieldA P s f (ev x) K
  | .indexAddr t x i => indexAddrA P t (ev x) (ev i) K
  | .index t x i => indexA P t (ev x) (ev i) K
  | .slice t x lo hi mx => sliceA P t (ev x) (lo.map ev) (hi.map ev) (mx.map ev) K
  | .extract x i => extractA (ev x) i K
  | .nilCheck x => nilCheckA (ev x) K
  | .build t ps => buildA P t (ps.toList.map fun (i, x) => (i, ev x)) K
  | .call { callee := .builtin b, args, argTypes } => bltA P b argTypes.toList (args.toList.map ev) K
  | _ => False
def VNext (P : Program) (κ : Ghost) (m : Sem Next) (K : AVal → Prop) : Prop :=
  ∃ v av, (∀ w, m.run P w = .ok (.value v) w) ∧ RelV κ av v ∧ K av
theorem VOK.next {P : Program} {κ : Ghost} {m : Sem Value} {K : AVal → Prop} (h : VOK P κ m K) : VNext P κ (do pure (.value (← m))) K := by
  obtain ⟨v, av, h1, h2, h3⟩ := h
  exact ⟨v, av, fun w => by simp [h1], h2, h3⟩
theorem max_int (k : IntKind) (a b : Int) : Builtin.max2 (.int k a) (.int k b) = pure (.int k (max a b)) := by
  simp only [Builtin.max2]
  congr 2
  omega
theorem min_int (k : IntKind) (a b : Int) : Builtin.min2 (.int k a) (.int k b) = pure (.int k (min a b)) := by
  simp only [Builtin.min2]
  congr 2
  omega
theorem bltA_ok {P : Program} {κ : Ghost} {b : Builtin} {ts : Array TypeId} {ty : TypeId} {cs : Array Bool} {xs : List AVal} {us : List Value} {K : AVal → Prop} (hx : RelVs κ xs us)
    (h : bltA P b ts.toList xs K) : VNext P κ (builtin b ts ty cs us.toArray) K := by
  unfold bltA at h
  split at h
  · rename_i t x hts
    have hts : ts = #[t] := by
      have : ts.toList.toArray = [t].toArray := by rw [hts]
      simpa using this
    subst hts
    cases hx with
    | cons h1 h2 =>
      cases h2
      exact (lenOpA_ok h1 h).next
  · obtain ⟨hkk, hk⟩ := chk_iff.1 h
    obtain rfl := of_decide_eq_true hkk
    cases hx with
    | cons h1 h2 =>
      cases h1
      cases h2 with
      | cons h3 h4 =>
        cases h3; cases h4
        refine ⟨_, _, fun w => ?_, .int _ _, hk⟩
        simp [builtin, Builtin.max_, max_int]
  · obtain ⟨hkk, hk⟩ := chk_iff.1 h
    obtain rfl := of_decide_eq_true hkk
    cases hx with
    | cons h1 h2 =>
      cases h1
      cases h2 with
      | cons h3 h4 =>
        cases h3; cases h4
        refine ⟨_, _, fun w => ?_, .int _ _, hk⟩
        simp [builtin, Builtin.min_, min_int]
  · exact h.elim
theorem nilCheckA_ok {P : Program} {κ : Ghost} {x : AVal} {u : Value} {o : Oper} {ρ : Operand → Value} {y : Operand} {K : AVal → Prop} (ho : o.op = .nilCheck y) (hu : ρ y = u)
    (hx : RelV κ x u) (h : nilCheckA x K) : VNext P κ (execOp ρ o) K := by
  unfold nilCheckA at h
  split at h
  · cases hx with
    | ptr hL => exact ⟨_, _, fun w => by simp only [execOp, ho, hu]; rfl, .ptr hL, h⟩
  · cases hx with
    | lptr a b c => exact ⟨_, _, fun w => by simp only [execOp, ho, hu]; rfl, .lptr a b c, h⟩
  · cases hx with
    | func a b => exact ⟨_, _, fun w => by simp only [execOp, ho, hu]; rfl, .func a b, h⟩
  · exact h.elim
theorem vop_ok {P : Program} {κ : Ghost} {ev : Operand → AVal} {ρ : Operand → Value} (hev : ∀ o, RelV κ (ev o) (ρ o)) {o : Oper} {K : AVal → Prop} (h : vop P ev o.op K) :
    VNext P κ (execOp ρ o) K := by
  obtain ⟨dst, op, ty, pos, after, guard⟩ := o
  simp only at h
  unfold vop at h
  split at h
  · exact ⟨_, _, fun w => rfl, hev _, h⟩
  · exact ⟨_, _, fun w => rfl, hev _, h⟩
  · rename_i c a b
    obtain ⟨t, av, hc, hr, hk⟩ := pickA_ok (hev c) (hev a) (hev b) h
    refine ⟨_, av, fun w => ?_, hr, hk⟩
    simp only [execOp, hc, asBool, pure_bind]
    rfl
  · exact (unA_ok (hev _) h).next
  · rename_i b t x y yt
    split at h
    · exact (binA_ok (x := x) (y := y) (hev x) (hev y) h).next
    · rename_i hs
      exact (eqA_ok (x := x) (y := y) hs (hev x) (hev y) h).next
  · exact (convA_ok (hev _) h).next
  · rename_i f a c
    refine ⟨.func f (a.map ρ) (c.map ρ), _, fun w => rfl, ?_, h⟩
    have h1 := relVs_map (κ := κ) (f := ev) (g := ρ) a.toList (fun x _ => hev x)
    have h2 := relVs_map (κ := κ) (f := ev) (g := ρ) c.toList (fun x _ => hev x)
    have := RelV.func (f := f) h1 h2
    simpa [← Array.toList_map] using this
  · exact (fieldAddrA_ok (hev _) h).next
  · exact (fieldA_ok (hev _) h).next
  · exact (indexAddrA_ok (hev _) (hev _) h).next
  · exact (indexA_ok (hev _) (hev _) h).next
  · rename_i t x lo hi mx
    refine (sliceA_ok (l := lo.map ρ) (h := hi.map ρ) (m := mx.map ρ) (hev x) ?_ ?_ ?_ ?_ ?_ ?_ h).next
    · intro a ha
      simp only [Option.map_eq_some_iff] at ha
      obtain ⟨y, rfl, rfl⟩ := ha
      exact ⟨_, rfl, hev y⟩
    · simp
    · intro a ha
      simp only [Option.map_eq_some_iff] at ha
      obtain ⟨y, rfl, rfl⟩ := ha
      exact ⟨_, rfl, hev y⟩
    · simp
    · simp
    · intro a ha
      simp only [Option.map_eq_some_iff] at ha
      obtain ⟨y, rfl, rfl⟩ := ha
      exact ⟨_, rfl, hev y⟩
  · exact (extractA_ok (hev _) h).next
  · exact nilCheckA_ok rfl rfl (hev _) h
  · rename_i t ps
    refine (buildA_ok (us := ps.map fun (i, x) => (i, ρ x)) ?_ ?_ h).next
    · simp [Function.comp_def]
    · intro j a u ha hu
      simp only [Array.toList_map, List.getElem?_map, Option.map_eq_some_iff] at ha hu
      obtain ⟨⟨i, x⟩, h1, rfl⟩ := ha
      obtain ⟨⟨i', x'⟩, h2, rfl⟩ := hu
      rw [h1] at h2
      cases h2
      exact hev x
  · rename_i b args ts
    have e : args.map ρ = (args.toList.map ρ).toArray := by simp [← Array.toList_map]
    show VNext P κ (builtin b ts ty _ (args.map ρ)) K
    rw [e]
    exact bltA_ok (relVs_map (κ := κ) (f := ev) (g := ρ) args.toList (fun x _ => hev x)) h
  · exact h.elim
end Go.Sym

/- A call whose answer is known by a contract, in the midst of a run by computing. No condition: laws over any program. The library's sort of a slice of whole numbers, as a contract over abstract memory. No condition: laws over any program in which the library's text is laid. -/
import Derived.Test.YtljglglbfcgjpaaM4
import Derived.Test.YtljglglbfcgjpaaM5
import Derived.Shelf.Sort.Plain

set_option linter.unusedVariables false
set_option linter.unusedSimpArgs false

namespace Go.Sym
open Go

/- ---------------- names in a value ---------------- -/
mutual
def NmV (p : Nat → Prop) : AVal → Prop
  | .ptr r _ _ => p r
  | .sl r _ _ _ => p r
  | .mapr r => p r
  | .iter r => p r
  | .lptr l => NmVs p l
  | .lsl _ l => NmVs p l
  | .agg l => NmVs p l
  | .tuple l => NmVs p l
  | .func _ a b => NmVs p a ∧ NmVs p b
  | _ => True
def NmVs (p : Nat → Prop) : List AVal → Prop
  | [] => True
  | v :: l => NmV p v ∧ NmVs p l
end
mutual
theorem nmV {κ : Ghost} : ∀ {v : AVal} {x : Value}, RelV κ v x → NmV (fun r => ∃ L, κ.loc r = some L) v
  | _, _, .undef x => trivial
  | _, _, .bool b => trivial
  | _, _, .int k n => trivial
  | _, _, .str s => trivial
  | _, _, .nilptr => trivial
  | _, _, .ptr h => ⟨_, h⟩
  | _, _, .lptr h h1 hv => nmVs hv
  | _, _, .nilsl => trivial
  | _, _, .sl h he hl hm hx => ⟨_, h⟩
  | _, _, .lsl h hn hc hm h1 hv => nmEl hv
  | _, _, .lsl0 hm => trivial
  | _, _, .nilmap => trivial
  | _, _, .mapr h => ⟨_, h⟩
  | _, _, .func hf hc => ⟨nmVs hf, nmVs hc⟩
  | _, _, .nilfunc => trivial
  | _, _, .niliface => trivial
  | _, _, .agg h1 h => nmVs h
  | _, _, .tuple h => nmVs h
  | _, _, .iter h => ⟨_, h⟩
theorem nmVs {κ : Ghost} : ∀ {vs : List AVal} {xs : List Value}, RelVs κ vs xs → NmVs (fun r => ∃ L, κ.loc r = some L) vs
  | _, _, .nil => trivial
  | _, _, .cons h hs => ⟨nmV h, nmVs hs⟩
theorem nmC {κ : Ghost} : ∀ {v : AVal} {xs : List Value}, RelC κ v xs → NmV (fun r => ∃ L, κ.loc r = some L) v
  | _, _, .agg h => nmVs h
  | _, _, .one hv h => nmV h
theorem nmEl {κ : Ghost} : ∀ {es : Nat} {vs : List AVal} {xs : List Value}, RelEl κ es vs xs → NmVs (fun r => ∃ L, κ.loc r = some L) vs
  | _, _, _, .nil => trivial
  | _, _, _, .cons hl h hs => ⟨nmC h, nmEl hs⟩
end
mutual
theorem relNm {p : Nat → Prop} {κ κ' : Ghost} (hi : ∀ b o, κ.imm b = some o → κ'.imm b = some o) (hl : ∀ r L, p r → κ.loc r = some L → κ'.loc r = some L) : ∀ {v : AVal} {x : Value}, RelV κ v x → NmV p v → RelV κ' v x
  | _, _, .undef x, _ => .undef x
  | _, _, .bool b, _ => .bool b
  | _, _, .int k n, _ => .int k n
  | _, _, .str s, _ => .str s
  | _, _, .nilptr, _ => .nilptr
  | _, _, .ptr h, q => .ptr (hl _ _ q h)
  | _, _, .lptr h h1 hv, q => .lptr (hi _ _ h) h1 (relNms hi hl hv q)
  | _, _, .nilsl, _ => .nilsl
  | _, _, .sl h he hL hm hx, q => .sl (hl _ _ q h) he hL hm hx
  | _, _, .lsl h hn hc hm h1 hv, q => .lsl (hi _ _ h) hn hc hm h1 (relNmEl hi hl hv q)
  | _, _, .lsl0 hm, _ => .lsl0 hm
  | _, _, .nilmap, _ => .nilmap
  | _, _, .mapr h, q => .mapr (hl _ _ q h)
  | _, _, .func hf hc, q => .func (relNms hi hl hf q.1) (relNms hi hl hc q.2)
  | _, _, .nilfunc, _ => .nilfunc
  | _, _, .niliface, _ => .niliface
  | _, _, .agg h1 h, q => .agg h1 (relNms hi hl h q)
  | _, _, .tuple h, q => .tuple (relNms hi hl h q)
  | _, _, .iter h, q => .iter (hl _ _ q h)
theorem relNms {p : Nat → Prop} {κ κ' : Ghost} (hi : ∀ b o, κ.imm b = some o → κ'.imm b = some o) (hl : ∀ r L, p r → κ.loc r = some L → κ'.loc r = some L) : ∀ {vs : List AVal} {xs : List Value}, RelVs κ vs xs → NmVs p vs → RelVs κ' vs xs
  | _, _, .nil, _ => .nil
  | _, _, .cons h hs, q => .cons (relNm hi hl h q.1) (relNms hi hl hs q.2)
theorem relNmC {p : Nat → Prop} {κ κ' : Ghost} (hi : ∀ b o, κ.imm b = some o → κ'.imm b = some o) (hl : ∀ r L, p r → κ.loc r = some L → κ'.loc r = some L) : ∀ {v : AVal} {xs : List Value}, RelC κ v xs → NmV p v → RelC κ' v xs
  | _, _, .agg h, q => .agg (relNms hi hl h q)
  | _, _, .one hv h, q => .one hv (relNm hi hl h q)
theorem relNmEl {p : Nat → Prop} {κ κ' : Ghost} (hi : ∀ b o, κ.imm b = some o → κ'.imm b = some o) (hl : ∀ r L, p r → κ.loc r = some L → κ'.loc r = some L) : ∀ {es : Nat} {vs : List AVal} {xs : List Value}, RelEl κ es vs xs → NmVs p vs → RelEl κ' es vs xs
  | _, _, _, .nil, _ => .nil
  | _, _, _, .cons hL h hs, q => .cons hL (relNmC hi hl h q.1) (relNmEl hi hl hs q.2)
end
def NmEs (p : Nat → Prop) : List (AVal × AVal) → Prop
  | [] => True
  | (k, v) :: l => NmV p k ∧ NmV p v ∧ NmEs p l
theorem nmEs {κ : Ghost} {l : List (AVal × AVal)} {es : List MapEntry} (h : RelEs κ l es) : NmEs (fun r => ∃ L, κ.loc r = some L) l := by
  induction h with
  | nil => trivial
  | cons hk hv _ ih => exact ⟨nmV hk, nmV hv, ih⟩
theorem relNmEs {p : Nat → Prop} {κ κ' : Ghost} (hi : ∀ b o, κ.imm b = some o → κ'.imm b = some o) (hl : ∀ r L, p r → κ.loc r = some L → κ'.loc r = some L) {l : List (AVal × AVal)} {es : List MapEntry} (h : RelEs κ l es) : NmEs p l → RelEs κ' l es := by
  induction h with
  | nil => intro _; exact .nil
  | cons hk hv _ ih => intro q; exact .cons (relNm hi hl hk q.1) (relNm hi hl hv q.2.1) (ih q.2.2)
def NmO (p : Nat → Prop) : AObj → Prop
  | .row _ l => NmVs p l
  | .map l => NmEs p l
  | .fmap l => NmEs p l
  | .mapS l _ _ => NmEs p l
  | .miter l last => NmEs p l ∧ ∀ kv, last = some kv → NmV p kv.1 ∧ NmV p kv.2
theorem nmO {κ : Ghost} {L : Place} {w : World} {o : AObj} (h : RelO κ L w o) : NmO (fun r => ∃ L, κ.loc r = some L) o := by
  cases o with
  | row es l => obtain ⟨_, _, C, e, fz, _, _, _, _, _, _, h9⟩ := h; exact nmEl h9
  | map l => obtain ⟨es, clock, _, h2, _⟩ := h; exact nmEs h2
  | fmap l => obtain ⟨es, clock, _, _, h3, _⟩ := h; exact nmEs h3
  | mapS l i b => obtain ⟨es, clock, _, h2, _⟩ := h; exact nmEs h2
  | miter l last =>
    obtain ⟨m, es, clock, seen, _, _, _, _, h5, h6⟩ := h
    exact ⟨nmEs h5, fun kv e => by obtain ⟨x, _, _, c, d⟩ := h6 kv e; exact ⟨nmV c, nmV d⟩⟩
theorem relNmO {p : Nat → Prop} {κ κ' : Ghost} (hi : ∀ b o, κ.imm b = some o → κ'.imm b = some o) (hl : ∀ r L, p r → κ.loc r = some L → κ'.loc r = some L) {L : Place} {w : World} {o : AObj} (h : RelO κ L w o) (q : NmO p o) : RelO κ' L w o := by
  cases o with
  | row es l => obtain ⟨h1, h2, C, e, fz, h3, h4, h5, h6, h7, h8, h9⟩ := h; exact ⟨h1, h2, C, e, fz, h3, h4, h5, h6, h7, h8, relNmEl hi hl h9 q⟩
  | map l => obtain ⟨es, clock, h1, h2, h3⟩ := h; exact ⟨es, clock, h1, relNmEs hi hl h2 q, h3⟩
  | fmap l => obtain ⟨es, clock, h1, h2, h3, h4⟩ := h; exact ⟨es, clock, hi _ _ h1, h2, relNmEs hi hl h3 q, h4⟩
  | mapS l i b => obtain ⟨es, clock, h1, h2, h3⟩ := h; exact ⟨es, clock, h1, relNmEs hi hl h2 q, h3⟩
  | miter l last =>
    obtain ⟨m, es, clock, seen, h1, h2, h3, h4, h5, h6⟩ := h
    refine ⟨m, es, clock, seen, h1, hi _ _ h2, h3, h4, relNmEs hi hl h5 q.1, fun kv e => ?_⟩
    obtain ⟨x, a, b, c, d⟩ := h6 kv e
    exact ⟨x, a, b, relNm hi hl c (q.2 kv e).1, relNm hi hl d (q.2 kv e).2⟩

/-- an answer, and the same as plain data: scalars, nil, and new rows of scalars -/
inductive Pl (h0 h : Heap) : AVal → AVal → Prop
  | int (k : IntKind) (n : Int) : Pl h0 h (.int k n) (.int k n)
  | bool (b : Bool) : Pl h0 h (.bool b) (.bool b)
  | nil : Pl h0 h .nilsl .nilsl
  | row {q es n : Nat} {l : List AVal} (hq : h0 q = none) (hr : h q = some (.row es l)) (hn : n = l.length) (hl : ∀ v ∈ l, v.isAgg = false ∧ NmV (fun _ => False) v) : Pl h0 h (.sl q es 0 n) (.lsl es l)
inductive Pls (h0 h : Heap) : List AVal → List AVal → Prop
  | nil : Pls h0 h [] []
  | cons {a b : AVal} {l m : List AVal} (e : Pl h0 h a b) (t : Pls h0 h l m) : Pls h0 h (a :: l) (b :: m)

theorem nmVs_of {p : Nat → Prop} : ∀ {l : List AVal}, (∀ v ∈ l, NmV p v) → NmVs p l
  | [], _ => trivial
  | v :: l, h => ⟨h v List.mem_cons_self, nmVs_of fun x hx => h x (List.mem_cons_of_mem _ hx)⟩

section
variable {P : Program}
/-- a call that keeps what was there: what is new becomes plain data -/
theorem det_of_N (N : Nam) {f : FuncId} {args : List AVal} {n : Nat} {m : Mem} {K : AVal → Nat → Mem → Bool} (wf : Wf n m) (hN : ∀ κ w, @RelH Nam.det κ m.H w → @RelH N κ m.H w)
    (hA : @ACalls N P f args m.H (fun v h' => (∀ q o, m.H q = some o → h' q = some o) ∧ ∃ vs rs, v = .tuple vs ∧ Pls m.H h' vs rs ∧ K (.tuple rs) n m = true)) : @ACalls Nam.det P f args m.H (Rz K) := by
  refine ⟨hA.1, fun κ xs w hx H => ?_⟩
  have H00 : RelH0 κ m.H w := @RelH.toRelH0 Nam.det _ _ _ H
  have Hnam := @RelH.nam Nam.det _ _ _ H
  refine (hA.2 κ xs w hx (hN κ w H)).mono ?_
  rintro e w' ⟨v, κ', av, h', rfl, le, H'N, hv, hold, vs, rs, rfl, hpl, hk⟩
  have H' : RelH0 κ' h' w' := @RelH.toRelH0 N _ _ _ H'N
  classical
  -- the blocks of the new rows
  let newB : Nat → Prop := fun b => ∃ q L o, m.H q = none ∧ h' q = some o ∧ o.owned = true ∧ κ'.loc q = some L ∧ L.b = b
  let κ2 : Ghost := { imm := fun b => if newB b then w'.heap[b]? else κ'.imm b, loc := fun r => if r < κ.nref then κ'.loc r else none, nref := κ.nref, env := κ.env }
  have himm : ∀ b o, κ'.imm b = some o → κ2.imm b = some o := fun b o hb => by
    show (if newB b then w'.heap[b]? else κ'.imm b) = some o
    split
    · exact H'.imm b o hb
    · exact hb
  have hloc : ∀ r L, (∃ L0, κ.loc r = some L0) → κ'.loc r = some L → κ2.loc r = some L := fun r L ⟨L0, h0⟩ h1 => by
    have : r < κ.nref := by
      apply Classical.byContradiction
      intro hn
      have := H00.fin r (by omega)
      rw [h0] at this; cases this
    show (if r < κ.nref then κ'.loc r else none) = some L
    rw [if_pos this, h1]
  have le2 : κ.Le κ2 := ⟨fun b o hb => himm b o (le.imm b o hb), fun r L hr => hloc r L ⟨L, hr⟩ (le.loc r L hr), rfl, rfl, rfl, rfl⟩
  have H2 : RelH0 κ2 m.H w' := by
    refine ⟨fun b o hb => ?_, fun r o hr => ?_, fun r r' o o' L L' hr hr' hL hL' hb => ?_, fun r hr => ?_, ?_, ?_, ?_, ?_⟩
    · have hb' : (if newB b then w'.heap[b]? else κ'.imm b) = some o := hb
      split at hb'
      · exact hb'
      · exact H'.imm b o hb'
    · obtain ⟨L0, a0, _, c0⟩ := H00.obj r o hr
      obtain ⟨L, a, b, c⟩ := H'.obj r o (hold r o hr)
      refine ⟨L, hloc r L ⟨L0, a0⟩ a, fun ho => ?_, relNmO himm hloc c (nmO c0)⟩
      show (if newB L.b then w'.heap[L.b]? else κ'.imm L.b) = none
      rw [if_neg]
      · exact b ho
      · rintro ⟨q, Lq, oq, h1, h2, _, h3, h4⟩
        have := H'.sep q r oq o Lq L h2 (hold r o hr) h3 a h4
        subst this
        rw [hr] at h1; cases h1
    · have f1 : κ'.loc r = some L := by
        have : (if r < κ.nref then κ'.loc r else none) = some L := hL
        split at this
        · exact this
        · cases this
      have f2 : κ'.loc r' = some L' := by
        have : (if r' < κ.nref then κ'.loc r' else none) = some L' := hL'
        split at this
        · exact this
        · cases this
      exact H'.sep r r' o o' L L' (hold r o hr) (hold r' o' hr') f1 f2 hb
    · show (if r < κ.nref then κ'.loc r else none) = none
      rw [if_neg (by have : κ2.nref = κ.nref := rfl; omega)]
    · exact H'.os.trans le.os
    · exact H'.tape.trans le.tape
    · exact H'.output.trans le.output
    · have := H'.drawn; rw [le.drawn] at this; exact this
  have one : ∀ {a r : AVal} {x : Value}, Pl m.H h' a r → RelV κ' a x → RelV κ2 r x := by
    intro a r x hp hr
    cases hp with
    | int k n => cases hr; exact .int k n
    | bool b => cases hr; exact .bool b
    | nil => cases hr; exact .nilsl
    | @row q es n l hq hr' hn hl =>
      subst hn
      cases hr with
      | @sl _ _ _ _ L x' hL hes hle hm hx =>
        obtain ⟨L2, e1, ho, h1, h2, C, e, fz, h3, h4, h5, h6, h7, h8, h9⟩ := H'.obj q _ hr'
        rw [hL] at e1; cases e1
        have hb : κ2.imm L.b = some (.cells C e fz) := by
          show (if newB L.b then w'.heap[L.b]? else κ'.imm L.b) = _
          rw [if_pos ⟨q, L, _, hq, hr', rfl, hL, rfl⟩]
          exact h3
        have hx0 : x' = L.base ∨ (l = [] ∧ L.cap = 0) := by
          rcases hx with e1 | e1
          · left; rw [e1]; simp
          · right
            refine ⟨List.eq_nil_of_length_eq_zero (by omega), by omega⟩
        rcases hx0 with rfl | ⟨rfl, hc⟩
        · rw [Nat.sub_zero]
          refine .lsl hb rfl (by omega) hm (fun c hc => h8 c (List.mem_of_mem_drop (List.mem_of_mem_take hc))) ?_
          exact relNmEl (p := fun _ => False) himm (fun _ _ hf => hf.elim) h9 (nmVs_of fun v hv => (hl v hv).2)
        · exact .lsl0 (by omega)
  have all : ∀ {l r : List AVal} {xs : List Value}, Pls m.H h' l r → RelVs κ' l xs → RelVs κ2 r xs := by
    intro l r xs hp
    induction hp generalizing xs with
    | nil => intro h; cases h; exact .nil
    | cons h _ ih => intro h2; cases h2 with
      | cons a b => exact .cons (one h a) (ih b)
  cases hv with
  | tuple hvs =>
    exact ⟨_, κ2, .tuple rs, m.H, rfl, le2, @RelH.mk Nam.det _ _ _ H2 Hnam, .tuple (all hpl hvs), n, m, rfl, wf, hk⟩

/-- a contract's call, in a run whose names are fixed -/
theorem det_of_any {f : FuncId} {args : List AVal} {n : Nat} {m : Mem} {K : AVal → Nat → Mem → Bool} (wf : Wf n m)
    (hA : @ACalls Nam.any P f args m.H (fun v h' => (∀ q o, m.H q = some o → h' q = some o) ∧ ∃ vs rs, v = .tuple vs ∧ Pls m.H h' vs rs ∧ K (.tuple rs) n m = true)) : @ACalls Nam.det P f args m.H (Rz K) :=
  det_of_N Nam.any wf (fun κ w H => @RelH.mk Nam.any κ m.H w (@RelH.toRelH0 Nam.det _ _ _ H) trivial) hA

/- ---------------- a call that comes to the same whatever is drawn ---------------- -/
mutual
def eqV : AVal → AVal → Bool
  | .undef, .undef => true
  | .bool b, .bool c => b == c
  | .int k n, .int j l => decide (k = j) && decide (n = l)
  | .str s, .str t => decide (s.data.toList = t.data.toList)
  | .nilptr, .nilptr => true
  | .ptr a b c, .ptr d e f => Nat.beq a d && (Nat.beq b e && Nat.beq c f)
  | .lptr a, .lptr b => eqVs a b
  | .nilsl, .nilsl => true
  | .sl a b c x, .sl d e f y => Nat.beq a d && (Nat.beq b e && (Nat.beq c f && Nat.beq x y))
  | .lsl a l, .lsl b k => Nat.beq a b && eqVs l k
  | .nilmap, .nilmap => true
  | .mapr a, .mapr b => Nat.beq a b
  | .nilfunc, .nilfunc => true
  | .niliface, .niliface => true
  | .agg a, .agg b => eqVs a b
  | .tuple a, .tuple b => eqVs a b
  | .iter a, .iter b => Nat.beq a b
  | _, _ => false
def eqVs : List AVal → List AVal → Bool
  | [], [] => true
  | a :: l, b :: k => eqV a b && eqVs l k
  | _, _ => false
end
mutual
theorem eqV_ok : ∀ {a b : AVal}, eqV a b = true → a = b
  | .undef, b, h => by cases b <;> first | rfl | (simp [eqV] at h)
  | .bool x, b, h => by cases b <;> simp [eqV] at h; rw [h]
  | .int k n, b, h => by cases b <;> simp [eqV] at h; rw [h.1, h.2]
  | .str s, b, h => by
    cases b <;> simp only [eqV, decide_eq_true_eq] at h <;> first | cases h | skip
    rename_i t
    obtain ⟨⟨s⟩⟩ := s; obtain ⟨⟨t⟩⟩ := t
    simp at h
    rw [h]
  | .nilptr, b, h => by cases b <;> first | rfl | (simp [eqV] at h)
  | .ptr .., b, h => by cases b <;> simp [eqV] at h; rw [h.1, h.2.1, h.2.2]
  | .lptr l, b, h => by cases b <;> simp [eqV] at h; rw [eqVs_ok h]
  | .nilsl, b, h => by cases b <;> first | rfl | (simp [eqV] at h)
  | .sl .., b, h => by cases b <;> simp [eqV] at h; rw [h.1, h.2.1, h.2.2.1, h.2.2.2]
  | .lsl .., b, h => by cases b <;> simp [eqV] at h; rw [h.1, eqVs_ok h.2]
  | .nilmap, b, h => by cases b <;> first | rfl | (simp [eqV] at h)
  | .mapr _, b, h => by cases b <;> simp [eqV] at h; rw [h]
  | .func .., b, h => by cases b <;> simp [eqV] at h
  | .nilfunc, b, h => by cases b <;> first | rfl | (simp [eqV] at h)
  | .niliface, b, h => by cases b <;> first | rfl | (simp [eqV] at h)
  | .agg l, b, h => by cases b <;> simp [eqV] at h; rw [eqVs_ok h]
  | .tuple l, b, h => by cases b <;> simp [eqV] at h; rw [eqVs_ok h]
  | .iter _, b, h => by cases b <;> simp [eqV] at h; rw [h]
theorem eqVs_ok : ∀ {a b : List AVal}, eqVs a b = true → a = b
  | [], b, h => by cases b <;> first | rfl | (simp [eqVs] at h)
  | x :: l, b, h => by
    cases b <;> simp [eqVs] at h
    rw [eqV_ok h.1, eqVs_ok h.2]
end
def eqEs : List (AVal × AVal) → List (AVal × AVal) → Bool
  | [], [] => true
  | a :: l, b :: k => eqV a.1 b.1 && (eqV a.2 b.2 && eqEs l k)
  | _, _ => false
theorem eqEs_ok : ∀ {a b : List (AVal × AVal)}, eqEs a b = true → a = b
  | [], b, h => by cases b <;> first | rfl | (simp [eqEs] at h)
  | x :: l, b, h => by
    cases b <;> simp [eqEs] at h
    rename_i y k
    obtain ⟨a, b⟩ := x; obtain ⟨c, d⟩ := y
    rw [show a = c from eqV_ok h.1, show b = d from eqV_ok h.2.1, eqEs_ok h.2.2]
def eqO : AObj → AObj → Bool
  | .row a l, .row b k => Nat.beq a b && eqVs l k
  | .map l, .map k => eqEs l k
  | .fmap l, .fmap k => eqEs l k
  | _, _ => false
theorem eqO_ok {a b : AObj} (h : eqO a b = true) : a = b := by
  cases a <;> cases b <;> simp [eqO] at h
  · rw [h.1, eqVs_ok h.2]
  · rw [eqEs_ok h]
  · rw [eqEs_ok h]
/-- what was there is as it was -/
def keptB (m m' : Mem) : Nat → Bool
  | 0 => true
  | k + 1 => (match Tr.get m k with
    | none => true
    | some o => match Tr.get m' k with
      | none => false
      | some o' => eqO o o') && keptB m m' k
theorem keptB_ok {m m' : Mem} : ∀ {k : Nat}, keptB m m' k = true → ∀ q, q < k → ∀ o, m.H q = some o → m'.H q = some o
  | 0, _, q, hq, _, _ => by omega
  | k + 1, h, q, hq, o, ho => by
    unfold keptB at h
    simp only [Bool.and_eq_true] at h
    rcases Nat.lt_or_ge q k with e | e
    · exact keptB_ok h.2 q e o ho
    · have : q = k := by omega
      subst this
      have h1 := h.1
      rw [show Tr.get m q = some o from ho] at h1
      simp only at h1
      split at h1
      · cases h1
      · rename_i o' e'
        rw [eqO_ok h1]
        exact e'
def scB : AVal → Bool
  | .int .. => true
  | .bool _ => true
  | .str _ => true
  | _ => false
theorem scB_ok {v : AVal} (h : scB v = true) : v.isAgg = false ∧ NmV (fun _ => False) v := by
  cases v <;> simp [scB] at h <;> exact ⟨rfl, by simp [NmV]⟩
def plB (m m' : Mem) : AVal → AVal → Bool
  | .int k n, .int j l => decide (k = j) && decide (n = l)
  | .bool b, .bool c => b == c
  | .nilsl, .nilsl => true
  | .sl q es 0 n, .lsl es' l => match Tr.get m q with
    | some _ => false
    | none => match Tr.get m' q with
      | some (.row e2 l2) => Nat.beq es es' && (Nat.beq e2 es && (Nat.beq n l.length && (eqVs l2 l && l.all scB)))
      | _ => false
  | _, _ => false
theorem plB_ok {m m' : Mem} {a b : AVal} (h : plB m m' a b = true) : Pl m.H m'.H a b := by
  unfold plB at h
  split at h
  · simp only [Bool.and_eq_true, decide_eq_true_eq] at h
    rw [h.1, h.2]; exact .int _ _
  · simp only [beq_iff_eq] at h
    rw [h]; exact .bool _
  · exact .nil
  · split at h
    · cases h
    · rename_i hq
      split at h
      · rename_i e2 l2 hr
        simp only [Bool.and_eq_true, List.all_eq_true] at h
        obtain ⟨h1, h2, h3, h4, h5⟩ := h
        have h1 := Nat.eq_of_beq_eq_true h1
        have h2 := Nat.eq_of_beq_eq_true h2
        have h3 := Nat.eq_of_beq_eq_true h3
        have := eqVs_ok h4
        subst this; subst h1; subst h2; subst h3
        exact .row hq hr rfl fun v hv => scB_ok (h5 v hv)
      · cases h
  · cases h
def plsB (m m' : Mem) : List AVal → List AVal → Bool
  | [], [] => true
  | a :: l, b :: k => plB m m' a b && plsB m m' l k
  | _, _ => false
theorem plsB_ok {m m' : Mem} : ∀ {l k : List AVal}, plsB m m' l k = true → Pls m.H m'.H l k
  | [], k, h => by cases k <;> first | exact .nil | (simp [plsB] at h)
  | a :: l, k, h => by
    cases k <;> simp [plsB] at h
    exact .cons (plB_ok h.1) (plsB_ok h.2)
/-- a call whose answer is given: all its runs come to it, and leave what was there -/
def givenB (call : Callee) (ans : FuncId → List AVal → Option (List AVal)) : Callee := fun f args n m K => match ans f args with
  | some rs => call f args n m (fun v _ m' => match v with
    | .tuple vs => plsB m m' vs rs && keptB m m' n
    | _ => false) && K (.tuple rs) n m
  | none => false
theorem givenB_ok {call : Callee} (hc : CalleeOK P call) {ans : FuncId → List AVal → Option (List AVal)} : CalleeOK P (givenB call ans) := by
  intro f args n m K wf h
  unfold givenB at h
  split at h
  · rename_i rs _
    simp only [Bool.and_eq_true] at h
    refine det_of_N Nam.det wf (fun _ _ H => H) ?_
    refine @ACalls.mono Nam.det _ _ _ _ _ _ (hc f args n m _ wf h.1) (fun v h' hv => ?_)
    obtain ⟨n', m', rfl, wf', hk⟩ := hv
    simp only at hk
    split at hk
    · rename_i vs
      simp only [Bool.and_eq_true] at hk
      refine ⟨fun q o hq => keptB_ok hk.2 q ?_ o hq, vs, rs, rfl, plsB_ok hk.1, h.2⟩
      apply Classical.byContradiction
      intro hn
      have := wf.1 q (by omega)
      rw [hq] at this; cases this
    · cases hk
  · cases h

/- ---------------- a run with some calls known ---------------- -/
def xcallS (P : Program) (isS : FuncId → Bool) (SM : Callee) (F : Nat) : Nat → Callee
  | 0, _, _, _, _, _ => false
  | d + 1, f, args, n, m, K => match isS f with
    | true => SM f args n m K
    | false => match P.funcs[f]? with
      | none => false
      | some fn => match fn.body with
        | none => false
        | some c => okF P f && (Nat.ble args.length fn.ntmps && initE args 0 .leaf fun te => xc P (xcallS P isS SM F d) fn.ntmps F c te n m fun e te n m => match e with
          | .normal => resB P te.E m.H fn.results.toList fun l => K (packA l) n m
          | .ret => resB P te.E m.H fn.results.toList fun l => K (packA l) n m
          | _ => false)

theorem xcallS_ok {isS : FuncId → Bool} {SM : Callee} (hS : ∀ f args n m K, isS f = true → Wf n m → SM f args n m K = true → @ACalls Nam.det P f args m.H (Rz K)) {F : Nat} : ∀ d : Nat, CalleeOK P (xcallS P isS SM F d)
  | 0 => fun f args n m K _ h => by cases h
  | d + 1 => fun f args n m K wf h => by
    unfold xcallS at h
    split at h
    · rename_i hf
      exact hS f args n m K hf wf h
    · split at h
      · cases h
      · rename_i fn hfn
        split at h
        · cases h
        · rename_i c hc
          simp only [Bool.and_eq_true] at h
          obtain ⟨hok, hn, h⟩ := h
          obtain ⟨te, h1, h2⟩ := initE_ok args 0 .leaf h
          have hE : te.E = argsE args := by
            funext t
            rw [h2, argsE_get]
            by_cases e : t < args.length
            · rw [if_pos (by omega)]; simp
            · rw [if_neg (by omega)]; simp [Tr.E, Tr.get, List.getD, List.getElem?_eq_none (Nat.le_of_not_lt e)]
          refine @calls_of_awp Nam.det P f fn c args _ _ hfn hc hok hn ?_
          rw [← hE]
          intro κ a w T H
          refine wp_mono (xc_ok (xcallS_ok hS d) F c te n m _ wf h1 κ a w T H) fun e a2 w2 hp => @aPost_mono _ Nam.det _ _ (Ghost.Le.refl _) _ _ ?_ _ _ _ hp
          rintro e σ h' ⟨te', n', m', rfl, rfl, wf', hk⟩
          have fin : (resB P te'.E m'.H fn.results.toList fun l => K (packA l) n' m') = true → resA P te'.E m'.H fn.results.toList fun l => @retG Nam.det (packA l) m'.H (Rz K) :=
            fun hk => resA_mono _ (fun l hl => @retG.plain Nam.det _ _ _ ⟨n', m', rfl, wf', hl⟩) (resB_ok _ hk)
          cases e <;> first
            | exact fin hk
            | cases hk
/- ---------------- heads with some answers given ---------------- -/
def isTrueA : AVal → Nat → Mem → Bool := fun v _ _ => match v with
  | .bool true => true
  | _ => false
/-- it answers true in every world, and leaves all as it was -/
theorem heads_okC {f : FuncId} {C : Callee} (hC : CalleeOK P C) (hr : C f [] 0 .leaf isTrueA = true) {h : Heap} {K : AVal → Heap → Prop} (hk : K (.bool true) h) : ACalls P f [] h K := by
  obtain ⟨hok, hc⟩ := hC f [] 0 .leaf _ wf0 hr
  refine ⟨hok, fun κ xs w hx H => ?_⟩
  have H0 : @RelH Nam.det { imm := fun b => w.heap[b]?, loc := fun _ => none, nref := 0, env := w } (Tr.H .leaf) w :=
    @RelH.mk Nam.det _ _ _ { imm := fun _ _ h => h, obj := (fun _ _ h => by cases h), sep := (fun _ _ _ _ _ _ h => by cases h), fin := fun _ _ => rfl, os := rfl, tape := rfl, output := rfl, drawn := Nat.le_refl _ } wf0
  cases hx
  refine (hc _ [] w .nil H0).mono ?_
  rintro e w' ⟨v, κ', av, h', rfl, le, H', hv, n', m', rfl, wf', hav⟩
  have hb : av = .bool true := by
    unfold isTrueA at hav
    split at hav
    · rfl
    · cases hav
  subst hb
  cases hv
  have hsame : ∀ b, b < w.heap.size → w'.heap[b]? = w.heap[b]? := fun b hb => by
    have : w.heap[b]? = some w.heap[b] := by simp [hb]
    rw [H'.imm b _ (le.imm b _ this), this]
  refine ⟨_, κ, _, h, rfl, Ghost.Le.refl κ, ⟨⟨fun b o hb => ?_, fun r o hr => ?_, H.sep, H.fin, ?_, ?_, ?_, ?_⟩, H.nam⟩, .bool true, hk⟩
  · have := H.imm b o hb
    rw [hsame b (Array.getElem?_eq_some_iff.1 this).1]
    exact this
  · obtain ⟨L, a, b, c⟩ := H.obj r o hr
    exact ⟨L, a, b, c.congr (hsame _ c.lt)⟩
  · rw [H'.os, le.os]; exact H.os
  · rw [H'.tape, le.tape]; exact H.tape
  · rw [H'.output, le.output]; exact H.output
  · have := H'.drawn; rw [le.drawn] at this; exact Nat.le_trans H.drawn this

/-- a run in which some calls' answers are given (and shown there and then) -/
def xcallG (P : Program) (isS : FuncId → Bool) (ans : FuncId → List AVal → Option (List AVal)) (F D : Nat) : Callee := xcallS P isS (givenB (xcall P F D) ans) F D
def runsTrueG (P : Program) (f : FuncId) (isS : FuncId → Bool) (ans : FuncId → List AVal → Option (List AVal)) (F D : Nat) : Bool := xcallG P isS ans F D f [] 0 .leaf isTrueA
theorem headsG_ok {f : FuncId} {isS : FuncId → Bool} {ans : FuncId → List AVal → Option (List AVal)} {F D : Nat} (hr : runsTrueG P f isS ans F D = true) {h : Heap} {K : AVal → Heap → Prop} (hk : K (.bool true) h) : ACalls P f [] h K :=
  heads_okC (xcallS_ok (fun f args n m K _ wf h => givenB_ok (xcall_ok D) f args n m K wf h) D) hr hk
end
end Go.Sym

namespace Go.Sym
open Go Go.Shelf Go.Sort Go.Proofs Go.RowKit
variable [Nam]

section
variable {P : Program} {κ : Ghost} {h : Heap} {w : World}
omit [Nam] in
theorem relEl_int {l : List Int} : ∀ {X : List Value}, RelEl κ 1 (l.map (.int .i64)) X → ∀ j (hj : j < l.length), X[j]? = some (.int .i64 l[j]) := by
  induction l with
  | nil => intro X _ j hj; simp at hj
  | cons z l ih =>
    intro X hx j hj
    cases hx with
    | cons hl hc hs =>
      rename_i xs ys
      cases hc with
      | one hv hr =>
        cases hr
        cases j with
        | zero => rfl
        | succ j => simpa using ih hs j (by simpa using hj)
omit [Nam] in
theorem relEl_of_int {l : List Int} : ∀ {X : List Value}, (∀ j (hj : j < l.length), X[j]? = some (.int .i64 l[j])) → RelEl κ 1 (l.map (.int .i64)) X := by
  induction l with
  | nil => intro X _; exact .nil
  | cons z l ih =>
    intro X hx
    cases X with
    | nil => have := hx 0 (by simp); simp at this
    | cons x X =>
      have h0 := hx 0 (by simp)
      simp only [List.getElem?_cons_zero, List.getElem_cons_zero, Option.some.injEq] at h0
      subst h0
      exact .cons (xs := [_]) rfl (.one rfl (.int ..)) (ih fun j hj => by
        have := hx (j + 1) (by simpa using hj)
        rw [List.getElem?_cons_succ] at this
        rw [this]
        rfl)
theorem RelH.more (H : RelH κ h w) {w' : World} (hs : ∀ b, b < w.heap.size → w'.heap[b]? = w.heap[b]?) (h1 : w'.os = w.os) (h2 : w'.tape = w.tape) (h3 : w'.output = w.output) (h4 : w.drawn ≤ w'.drawn) : RelH κ h w' := by
  refine ⟨⟨fun b o hb => ?_, fun r o hr => ?_, H.sep, H.fin, ?_, ?_, ?_, ?_⟩, H.nam⟩
  · have := H.imm b o hb
    rw [hs b (Array.getElem?_eq_some_iff.1 this).1]
    exact this
  · obtain ⟨L, a, b, c⟩ := H.obj r o hr
    exact ⟨L, a, b, c.congr (hs _ c.lt)⟩
  · rw [h1]; exact H.os
  · rw [h2]; exact H.tape
  · rw [h3]; exact H.output
  · exact Nat.le_trans H.drawn h4

def sortI (l : List Int) : List Int := l.mergeSort fun x y => decide (x ≤ y)

theorem sortI_ok {ρ : Ren} (Ly : Lays.n189 P ρ) (hok : okF P (ρ.f 189) = true) {q : Nat} {l : List Int} {K : AVal → Heap → Prop} (hl : 0 < l.length) (hsz : l.length < 4611686018427387904) (hq : h q = some (.row 1 (l.map (.int .i64))))
    (hk : K (.tuple []) (h.set q (.row 1 ((sortI l).map (.int .i64))))) : ACalls P (ρ.f 189) [.sl q 1 0 l.length] h K := by
  refine ⟨hok, fun κ xs w hx H => ?_⟩
  cases hx with
  | cons ha hr =>
  cases hr
  cases ha with
  | @sl _ _ _ _ L x' hL hes hle hm hxx =>
  obtain ⟨L2, e1, ho, h1, h2, C, e, fz, h3, h4, h5, h6, h7, h8, h9⟩ := H.obj _ _ hq
  rw [hL] at e1; cases e1
  simp only [List.length_map] at h6
  have hx0 : x' = L.base := by
    rcases hxx with e | e
    · rw [e]; simp
    · omega
  subst hx0
  have hcells := relEl_int h9
  have hlen : (sortI l).length = l.length := List.length_mergeSort _
  have hblk : L.b < w.heap.size := (Array.getElem?_eq_some_iff.1 h3).1
  have hC : ∀ j (hj : j < l.length), C[L.base + j]? = some (.int .i64 l[j]) := fun j hj => by
    have := hcells j hj
    rw [List.getElem?_drop] at this
    simpa using this
  have hH : Holds (Value.int .i64) w L.b L.base l.toArray := by
    intro j hj
    have hj : j < l.length := by simpa using hj
    refine ⟨?_, ?_⟩
    · simp only [World.cell?, h3]
      rw [hC j hj]
      simp [hj]
    · simp only [World.frozen?, h3]
      have hb : L.base + j < C.size := (Array.getElem?_eq_some_iff.1 (hC j hj)).1
      simp
      omega
  refine (Any.slices_Sort_int Ly L.b L.base (L.cap - 0) l w hH hblk hsz).mono ?_
  rintro ex w' ⟨rfl, n, os, rfl⟩
  have Hg : RelH κ h (grow (Sort.ahead w n) os) := H.more (fun b hb => by simp [grow, Sort.ahead, Array.getElem?_append, hb]) rfl rfl rfl (by simp [grow, Sort.ahead])
  refine ⟨_, κ, .tuple [], _, rfl, Ghost.Le.refl κ, Hg.write hq rfl hL (fun b hb => ?_) rfl rfl rfl (Nat.le_refl _) (o' := .row 1 ((sortI l).map (.int .i64))) ⟨hes, by omega, Go.Sort.putCells (Value.int .i64) L.base (sortI l).toArray C, e, fz, ?_, ?_, ?_, ?_, hm, ?_, ?_⟩, .tuple (xs := []) .nil, hk⟩
  · simp only [grow, putRow, mapBlock, Sort.ahead, Array.getElem?_append, Array.size_modify, Array.getElem?_modify]
    rw [if_neg (Ne.symm hb)]
  · simp only [grow, putRow, mapBlock, Sort.ahead, Array.getElem?_append, Array.size_modify, Array.getElem?_modify]
    rw [if_pos hblk, if_pos trivial, h3]
    rfl
  · simpa [Go.Sort.putCells] using h4
  · simpa [Go.Sort.putCells] using h5
  · simp; omega
  · intro c hc
    have hc : c ∈ Go.Sort.putCells (Value.int .i64) L.base (sortI l).toArray C := by simpa using hc
    unfold Go.Sort.putCells at hc
    rw [Array.mem_mapIdx] at hc
    obtain ⟨i, hi, rfl⟩ := hc
    split
    · rfl
    · exact h8 _ (by simp)
  · refine relEl_of_int fun j hj => ?_
    have hj' : j < l.length := by omega
    have hb : L.base + j < C.size := (Array.getElem?_eq_some_iff.1 (hC j hj')).1
    rw [List.getElem?_drop]
    simp only [Go.Sort.putCells, Array.getElem?_toList, Array.getElem?_mapIdx, Array.getElem?_eq_getElem hb, Option.map_some, List.size_toArray]
    rw [if_pos (by omega)]
    simp [hj]
end

/- ---------------- the sort in a run by computing ---------------- -/
def insI (x : Int) : List Int → List Int
  | [] => [x]
  | y :: l => match leI x y with
    | true => x :: y :: l
    | false => y :: insI x l
def isortI : List Int → List Int
  | [] => []
  | x :: l => insI x (isortI l)
omit [Nam] in
theorem insI_perm (x : Int) : ∀ l, (insI x l).Perm (x :: l)
  | [] => .refl _
  | y :: l => by
    unfold insI
    split
    · exact .refl _
    · exact ((insI_perm x l).cons y).trans (.swap x y l)
omit [Nam] in
theorem isortI_perm : ∀ l, (isortI l).Perm l
  | [] => .refl _
  | x :: l => (insI_perm x _).trans ((isortI_perm l).cons x)
omit [Nam] in
theorem insI_sorted (x : Int) : ∀ {l : List Int}, l.Pairwise (· ≤ ·) → (insI x l).Pairwise (· ≤ ·)
  | [], _ => List.pairwise_singleton _ _
  | y :: l, h => by
    unfold insI
    have h1 := List.pairwise_cons.1 h
    split
    · rename_i e
      have e := leI_iff.1 e
      refine List.pairwise_cons.2 ⟨fun z hz => ?_, h⟩
      rcases List.mem_cons.1 hz with rfl | hz
      · exact e
      · exact Int.le_trans e (h1.1 z hz)
    · rename_i e
      have e : ¬ x ≤ y := fun h => by rw [leI_iff.2 h] at e; cases e
      refine List.pairwise_cons.2 ⟨fun z hz => ?_, insI_sorted x h1.2⟩
      rcases List.mem_cons.1 ((insI_perm x l).mem_iff.1 hz) with rfl | hz
      · omega
      · exact h1.1 z hz
omit [Nam] in
theorem isortI_sorted : ∀ l, (isortI l).Pairwise (· ≤ ·)
  | [] => .nil
  | x :: l => insI_sorted x (isortI_sorted l)
omit [Nam] in
theorem sortI_sorted (l : List Int) : (sortI l).Pairwise (· ≤ ·) := by
  have := List.pairwise_mergeSort (le := fun x y : Int => decide (x ≤ y)) (fun a b c h1 h2 => by simp at *; omega) (fun a b => by simp; omega) l
  exact this.imp fun h => by simpa using h
omit [Nam] in
theorem sortI_perm (l : List Int) : (sortI l).Perm l := List.mergeSort_perm _ _
omit [Nam] in
/-- there is but one sorted order -/
theorem sorted_unique {l k : List Int} (hp : l.Perm k) (hl : l.Pairwise (· ≤ ·)) (hk : k.Pairwise (· ≤ ·)) : l = k :=
  hp.eq_of_pairwise (fun a b _ _ h1 h2 => by omega) hl hk
omit [Nam] in
theorem isortI_eq (l : List Int) : isortI l = sortI l := sorted_unique ((isortI_perm l).trans (sortI_perm l).symm) (isortI_sorted l) (sortI_sorted l)

def intsOf : List AVal → Option (List Int)
  | [] => some []
  | .int .i64 z :: l => match intsOf l with
    | some k => some (z :: k)
    | none => none
  | _ => none
omit [Nam] in
theorem intsOf_eq : ∀ {l : List AVal} {k : List Int}, intsOf l = some k → l = k.map (.int .i64)
  | [], _, h => by cases h; rfl
  | v :: l, k, h => by
    unfold intsOf at h
    split at h
    · rename_i e; cases e
    · rename_i z l' e
      cases e
      split at h
      · rename_i k' hk
        cases h
        rw [intsOf_eq hk]
        rfl
      · cases h
    · cases h
def sortX : Callee := fun _ args n m K => match args with
  | [.sl q 1 0 k] => match Tr.get m q with
    | some (.row 1 l) => match intsOf l with
      | some zs => Nat.blt 0 k && (Nat.ble k 1000 && (Nat.beq k zs.length && forceL ((isortI zs).map (.int .i64)) fun l' => putX q (.row 1 l') m fun m => K (.tuple []) n m))
      | none => false
    | _ => false
  | _ => false
omit [Nam] in
theorem sortX_ok {P : Program} {ρ : Ren} (Ly : Lays.n189 P ρ) (hok : okF P (ρ.f 189) = true) {g : FuncId} {args : List AVal} {n : Nat} {m : Mem} {K : AVal → Nat → Mem → Bool} (wf : Wf n m) (h : sortX g args n m K = true) :
    @ACalls Nam.det P (ρ.f 189) args m.H (Rz K) := by
  unfold sortX at h
  split at h
  · rename_i q k
    split at h
    · rename_i l hq
      split at h
      · rename_i zs hz
        simp only [Bool.and_eq_true] at h
        obtain ⟨h1, h2, h3, h4⟩ := h
        have h1 : 0 < k := by simpa [Nat.blt_eq] using h1
        have h2 : k ≤ 1000 := Nat.le_of_ble_eq_true h2
        have h3 := Nat.eq_of_beq_eq_true h3
        subst h3
        rw [forceL_eq] at h4
        rw [intsOf_eq hz] at hq
        obtain ⟨m', e1, e2, e3⟩ := putX_ok wf hq h4
        refine @sortI_ok Nam.det P m.H ρ Ly hok q zs _ h1 (by omega) hq ⟨n, m', ?_, e2, e3⟩
        rw [← isortI_eq, e1]
      · cases h
    · cases h
  · cases h
end Go.Sym

/- Operations on memory: loads, stores, new variables and rows. No condition: laws over any program. New variables and rows. No condition: laws over any program. make and append. No condition: laws over any program. append. No condition: laws over any program. Maps: made, read, written. No condition: laws over any program. Maps: an entry is struck; a map is gone through in any order. No condition: laws over any program. Statements: what one operation does, the calls, the code. No condition: laws over any program. The evaluator over the loaded code: what it says holds of the model's run. No condition: laws over any program. -/
import Derived.Test.YtaopdcjjcpgebaaGreatDoorM1
import Derived.MapKept
import Derived.Laws.BytesString
import Derived.Laws.IdiomStrings

set_option linter.unusedVariables false
set_option linter.unusedSimpArgs false

namespace Go.Sym
open Go
variable [Nam]
def ldCells (h : Heap) (p : AVal) : List AVal :=
  match p with
  | .lptr cs => cs
  | .ptr r i o => match h r with
    | some (.row _ elems) => match elems[i]? with
      | some e => (cellsOf e).drop o
      | none => []
    | _ => []
  | _ => []
def ld1 (h : Heap) (p : AVal) (K : AVal → Prop) : Prop :=
  match ldCells h p with
  | v :: _ => K v
  | [] => False
def ldN (n : Nat) (h : Heap) (p : AVal) (K : List AVal → Prop) : Prop := chk (Nat.ble n (ldCells h p).length) (K ((ldCells h p).take n))
def loadA (P : Program) (h : Heap) (t : TypeId) (p : AVal) (K : AVal → Prop) : Prop :=
  match cellKind P t with
  | some none => ld1 h p K
  | some (some n) => chkH (Nat.blt 0 n) (ldN n h p fun l => K (.agg l))
  | none => False
def RNext (P : Program) (κ : Ghost) (w : World) (m : Sem Next) (K : AVal → Prop) : Prop :=
  ∃ v av, m.run P w = .ok (.value v) w ∧ RelV κ av v ∧ K av
omit [Nam] in
theorem cell?_eq {w : World} {b : Nat} {C : Array Value} {e : TypeId} {fz : Nat × Nat} (h : w.heap[b]? = some (.cells C e fz)) (off : Nat) : w.cell? ⟨b, off, none⟩ = C[off]? := by
  simp [World.cell?, h]
theorem ldCells_ok {κ : Ghost} {h : Heap} {w : World} (H : RelH κ h w) {p : AVal} {x : Value} (hp : RelV κ p x) (hne : ldCells h p ≠ []) :
    ∃ a ys, x = .pointer (some a) ∧ RelVs κ (ldCells h p) ys ∧ (∀ j y, ys[j]? = some y → w.cell? (a.add j) = some y) ∧ ∀ y ∈ ys, y.oneCell' = true := by
  unfold ldCells at hne ⊢
  split at hne
  · rename_i cs
    cases hp with
    | lptr him h1c hv =>
      rename_i b off C e fz
      refine ⟨_, _, rfl, hv, fun j y hj => ?_, fun y hy => h1c y hy⟩
      rw [addr_add, cell?_eq (H.imm b _ him)]
      rw [List.getElem?_take] at hj
      split at hj
      · rw [List.getElem?_drop] at hj
        simpa using hj
      · cases hj
  · rename_i r i o
    split at hne
    · rename_i es elems hr
      split at hne
      · rename_i e he
        obtain ⟨L, hL, _, h1, h2, C, te, fz, h3, h4, h5, h6, h7, h8, h9⟩ := H.obj r _ hr
        cases hp with
        | ptr hL' =>
          rw [hL] at hL'; cases hL'
          have hc := (h9.get he).cells.drop o
          refine ⟨_, _, rfl, hc, fun j y hj => ?_, fun y hy => h8 y (List.mem_of_mem_drop (List.mem_of_mem_drop (List.mem_of_mem_take (List.mem_of_mem_drop hy))))⟩
          rw [addr_add, cell?_eq h3]
          rw [List.getElem?_drop, List.getElem?_take] at hj
          split at hj
          · rw [List.getElem?_drop, List.getElem?_drop] at hj
            rw [h1, show L.base + i * es + o + j = L.base + (i * es + (o + j)) by omega]
            simpa using hj
          · cases hj
      · exact absurd rfl hne
    · exact absurd rfl hne
  · exact absurd rfl hne
theorem loadA_ok {P : Program} {κ : Ghost} {h : Heap} {w : World} (H : RelH κ h w) {t : TypeId} {p : AVal} {x : Value} {K : AVal → Prop} (hp : RelV κ p x) (hl : loadA P h t p K) :
    ∃ v av, (Instr.loadAt t x).run P w = .ok v w ∧ RelV κ av v ∧ K av := by
  unfold loadA at hl
  split at hl
  · rename_i hk
    obtain ⟨d, i, hu, hi, hd, hagg⟩ := cellKind_some hk
    have hd : aggD d = false := by
      cases e : aggD d with
      | false => rfl
      | true => rw [e] at hd; cases hd
    unfold ld1 at hl
    split at hl
    · rename_i v rest hc
      obtain ⟨a, ys, rfl, hr, hcell, _⟩ := ldCells_ok H hp (by rw [hc]; simp)
      rw [hc] at hr
      cases hr with
      | cons h1 h2 =>
        refine ⟨_, v, ?_, h1, hl⟩
        have := hcell 0 _ rfl
        have ha : a.add 0 = a := by simp [Addr.add]
        rw [ha] at this
        simp [Instr.loadAt, Instr.sureAddr, loadVar, hagg, hd, this]
    · exact hl.elim
  · rename_i n hk
    obtain ⟨d, i, hu, hi, hd, hagg⟩ := cellKind_some hk
    have hd2 : aggD d = true := by
      cases e : aggD d with
      | true => rfl
      | false => rw [e] at hd; cases hd
    have hn : n = i.size := by rw [hd2] at hd; simpa using hd
    obtain ⟨hpos, hl⟩ := chk_iff.1 hl
    have hpos : 0 < n := by simpa using hpos
    obtain ⟨hle, hk⟩ := chk_iff.1 hl
    have hle := Nat.le_of_ble_eq_true hle
    obtain ⟨a, ys, rfl, hr, hcell, h1⟩ := ldCells_ok H hp (by intro e; rw [e] at hle; simp at hle; omega)
    have hlen := hr.length
    refine ⟨.agg (ys.take n).toArray, _, ?_, .agg (fun x hx => h1 x (List.mem_of_mem_take hx)) (hr.take n), hk⟩
    have hl2 : (ys.take n).length = n := by simp; omega
    have := run_loadCells_list (P := P) w a (ys.take n) (fun j v hj => by
      rw [List.getElem?_take] at hj
      split at hj
      · exact hcell j v hj
      · cases hj)
    rw [hl2] at this
    simp [Instr.loadAt, Instr.sureAddr, loadVar, hagg, hd2, run_sizeOf' hi, ← hn, this]
  · exact hl.elim
def putCells (e : AVal) (o : Nat) (cs : List AVal) : AVal :=
  match e with
  | .agg l => .agg (l.take o ++ cs ++ l.drop (o + cs.length))
  | e => match cs with
    | [c] => c
    | _ => e
def st (one : Bool) (h : Heap) (p : AVal) (cs : List AVal) (K : Heap → Prop) : Prop :=
  match p with
  | .ptr r i o => match h r with
    | some (.row es elems) => match elems[i]? with
      | some e => chk (Nat.ble (o + cs.length) (cellsOf e).length && (e.isAgg || one)) (K (h.set r (.row es (elems.set i (putCells e o cs)))))
      | none => False
    | _ => False
  | _ => False
def oneK (k : Option Nat) : Bool :=
  match k with
  | none => true
  | some _ => false
def storeA (P : Program) (h : Heap) (t : TypeId) (p v : AVal) (K : Heap → Prop) : Prop :=
  match kindSz P t with
  | some k => cellsK k v fun cs => st (oneK k) h p cs K
  | none => False
omit [Nam] in
theorem storeCells_run {P : Program} {g o : Nat} {t : TypeId} {fz : Nat × Nat} : ∀ (vs : List Value) (i : Nat) (cur : Array Value) (w : World),
    w.heap[g]? = some (.cells cur t fz) → (fz.1 = fz.2 ∨ cur.size ≤ fz.1) → o + i + vs.length ≤ cur.size → (∀ v ∈ vs, v.oneCell' = true) →
    ∃ w', (storeCells ⟨g, o, none⟩ vs i).run P w = .ok () w' ∧ w'.heap[g]? = some (.cells (setList cur (o + i) vs) t fz) ∧ (∀ b, b ≠ g → w'.heap[b]? = w.heap[b]?) ∧
      w'.os = w.os ∧ w'.tape = w.tape ∧ w'.output = w.output ∧ w'.drawn = w.drawn
  | [], i, cur, w, hg, _, _, _ => ⟨w, rfl, hg, fun _ _ => rfl, rfl, rfl, rfl, rfl⟩
  | v :: vs, i, cur, w, hg, hf, hl, h1 => by
    simp only [List.length_cons] at hl
    have hlt : o + i < cur.size := by omega
    have hcell : w.cell? ⟨g, o + i, none⟩ = some cur[o + i] := by rw [cell?_eq hg]; simp [hlt]
    have hfz : w.frozen? ⟨g, o + i, none⟩ = false := by
      simp only [World.frozen?, hg]
      rcases hf with hf | hf
      · simp; omega
      · simp; omega
    let w1 := w.setCell ⟨g, o + i, none⟩ v
    have hg1 : w1.heap[g]? = some (.cells (cur.setIfInBounds (o + i) v) t fz) := by
      simp only [w1, World.setCell, Array.getElem?_modify]
      rw [if_true, hg]
      rfl
    have hb1 : ∀ b, b ≠ g → w1.heap[b]? = w.heap[b]? := by
      intro b hb
      simp only [w1, World.setCell, Array.getElem?_modify]
      rw [if_neg (fun e => hb e.symm)]
    obtain ⟨w', hr, h2, h3, h4, h5, h6, h7⟩ := storeCells_run (o := o) vs (i + 1) (cur.setIfInBounds (o + i) v) w1 hg1 (by simpa using hf) (by simp only [Array.size_setIfInBounds]; omega) (fun x hx => h1 x (List.mem_cons_of_mem _ hx))
    refine ⟨w', ?_, ?_, fun b hb => (h3 b hb).trans (hb1 b hb), h4, h5, h6, h7⟩
    · rw [storeCells, Sem.run_bind, addr_add, run_store P w _ v .plain (h1 v List.mem_cons_self), hcell]
      simp only [hfz, Bool.false_eq_true, if_false, Result.andThen_ok]
      exact hr
    · rw [h2]
      rfl
omit [Nam] in
theorem RelEl.set {κ : Ghost} {es : Nat} : ∀ {vs : List AVal} {xs : List Value} {i : Nat} {v : AVal} {ys : List Value}, RelEl κ es vs xs → i < vs.length → RelC κ v ys → ys.length = es →
    RelEl κ es (vs.set i v) (xs.take (i * es) ++ ys ++ xs.drop (i * es + es))
  | _, _, _, _, _, .nil, hi, _, _ => by simp at hi
  | _, _, 0, v, ys, .cons (xs := a) (ys := b) hl h hs, _, hv, hy => by
    have := RelEl.cons hy hv hs
    simpa [← hl] using this
  | _, _, i + 1, v, ys, .cons (v := v0) (xs := a) (ys := b) hl h hs, hi, hv, hy => by
    have ih := RelEl.set (i := i) hs (by simpa using hi) hv hy
    have := RelEl.cons hl h ih
    have e1 : (i + 1) * es = a.length + i * es := by rw [hl, Nat.add_mul, Nat.one_mul, Nat.add_comm]
    rw [List.set_cons_succ, e1, List.take_append, List.drop_append]
    simpa [List.take_of_length_le (show a.length ≤ a.length + i * es by omega), List.drop_eq_nil_of_le (show a.length ≤ a.length + i * es + es by omega),
      show a.length + i * es + es - a.length = i * es + es by omega] using this
omit [Nam] in
theorem putCells_rel {κ : Ghost} {e v : AVal} {xs : List Value} {o : Nat} {u : Value} (he : RelC κ e xs) (hv : RelVs κ (cellsOf v) u.cells.toList) (hs : storable v = true)
    (hl : o + (cellsOf v).length ≤ (cellsOf e).length) (ha : e.isAgg = true ∨ v.isAgg = false) :
    RelC κ (putCells e o (cellsOf v)) (xs.take o ++ u.cells.toList ++ xs.drop (o + u.cells.toList.length)) := by
  have hlen := hv.length
  cases he with
  | agg h =>
    rw [hlen]
    exact .agg (((h.take o).append hv).append (h.drop _))
  | one h1 h2 =>
    have hva : v.isAgg = false := by
      rcases ha with ha | ha
      · rw [h1] at ha; cases ha
      · exact ha
    have hcv : cellsOf v = [v] := by cases v <;> first | rfl | simp [AVal.isAgg] at hva
    have hce : cellsOf e = [e] := by cases e <;> first | rfl | simp [AVal.isAgg] at h1
    rw [hcv, hce] at hl
    have ho : o = 0 := by simp at hl; omega
    subst ho
    rw [hcv] at hv hlen ⊢
    have hput : putCells e 0 [v] = v := by cases e <;> first | rfl | simp [AVal.isAgg] at h1
    rw [hput, hlen]
    have : RelC κ v u.cells.toList := .of_cells (by rw [hcv]; exact hv)
    simpa using this
omit [Nam] in
theorem put_splice (A : List Value) (es i o : Nat) (ys : List Value) (ho : o + ys.length ≤ es) (hA : i * es + es ≤ A.length) :
    A.take (i * es + o) ++ ys ++ A.drop (i * es + o + ys.length) =
      A.take (i * es) ++ (((A.drop (i * es)).take es).take o ++ ys ++ ((A.drop (i * es)).take es).drop (o + ys.length)) ++ A.drop (i * es + es) := by
  apply List.ext_getElem?
  intro n
  simp only [List.append_assoc, List.getElem?_append, List.getElem?_take, List.getElem?_drop, List.length_take, List.length_drop]
  grind
omit [Nam] in
theorem drop_splice (C : List Value) (b k : Nat) (ys : List Value) (h : b + k ≤ C.length) :
    (C.take (b + k) ++ ys ++ C.drop (b + k + ys.length)).drop b = (C.drop b).take k ++ ys ++ (C.drop b).drop (k + ys.length) := by
  rw [List.append_assoc, List.drop_append_of_le_length (by simp only [List.length_take]; omega), List.drop_take, List.drop_drop, List.append_assoc, Nat.add_sub_cancel_left, Nat.add_assoc]
theorem st_ok {κ : Ghost} {h : Heap} {w : World} (H : RelH κ h w) {P : Program} {one : Bool} {p v : AVal} {x u : Value} {K : Heap → Prop} (hp : RelV κ p x) (hv : RelV κ v u) (hst : storable v = true)
    (hone1 : one = true → v.isAgg = false) (hs : st one h p (cellsOf v) K) :
    ∃ a w' h', x = .pointer (some a) ∧ u.cells.size = (cellsOf v).length ∧ (storeCells a u.cells.toList).run P w = .ok () w' ∧ RelH κ h' w' ∧ K h' := by
  unfold st at hs
  split at hs
  · rename_i r i o
    split at hs
    · rename_i es elems hr
      split at hs
      · rename_i e he
        obtain ⟨hc, hk⟩ := chk_iff.1 hs
        simp only [Bool.and_eq_true, Bool.or_eq_true] at hc
        have hle := Nat.le_of_ble_eq_true hc.1
        have hag : e.isAgg = true ∨ v.isAgg = false := hc.2.imp id hone1
        obtain ⟨L, hL, him, h1, h2, C, te, fz, h3, h4, h5, h6, h7, h8, h9⟩ := H.obj r _ hr
        obtain ⟨hcells, hone, _⟩ := hv.cells hst
        have hlen := hcells.length
        have hul : u.cells.toList.length = u.cells.size := by simp
        cases hp with
        | ptr hL' =>
          rw [hL] at hL'; cases hL'
          have hget := h9.get he
          have hi := (List.getElem?_eq_some_iff.1 he).1
          have hlc := hget.cells.length
          have hCl := h9.length
          have hmul : (i + 1) * es ≤ elems.length * es := Nat.mul_le_mul_right _ hi
          rw [Nat.add_mul, Nat.one_mul] at hmul
          have hesl : (cellsOf e).length = es := by
            rw [← hlc, List.length_take]
            simp only [List.length_drop] at hCl ⊢
            omega
          have hCs : L.base + i * es + es ≤ C.size := by
            simp only [List.length_drop, Array.length_toList] at hCl
            omega
          obtain ⟨w', hrun, hg', hb', e1, e2, e3, e4⟩ := storeCells_run (P := P) (g := L.b) (o := L.base + i * L.es + o) u.cells.toList 0 C w h3 h4 (by rw [h1]; omega) hone
          refine ⟨_, w', _, rfl, by simpa using hlen, hrun, H.write hr rfl hL hb' e1 e2 e3 (Nat.le_of_eq e4.symm) ?_, hk⟩
          refine ⟨h1, h2, _, te, fz, hg', by simpa [setList_size] using h4, by rw [setList_size]; exact h5, by simpa using h6, h7, setList_one _ _ _ h8 hone, ?_⟩
          rw [setList_toList _ _ _ (by rw [h1]; omega), h1, Nat.add_zero]
          have hput := putCells_rel hget hcells hst hle hag
          have hset := RelEl.set h9 hi hput (by simp only [List.length_append, List.length_take, List.length_drop, Array.length_toList]; omega)
          have hsp := put_splice (C.toList.drop L.base) es i o u.cells.toList (by omega) (by simp only [List.length_drop, Array.length_toList]; omega)
          rw [← hsp] at hset
          have e4 := drop_splice C.toList L.base (i * es + o) u.cells.toList (by simp only [Array.length_toList]; omega)
          rw [← Nat.add_assoc] at e4
          rw [e4]
          exact hset
      · exact hs.elim
    · exact hs.elim
  · exact hs.elim
theorem storeA_ok {P : Program} {κ : Ghost} {h : Heap} {w : World} (H : RelH κ h w) {t : TypeId} {p v : AVal} {x u : Value} {K : Heap → Prop} (hp : RelV κ p x) (hv : RelV κ v u)
    (hs : storeA P h t p v K) : ∃ w' h', (Instr.storeAt t x u).run P w = .ok () w' ∧ RelH κ h' w' ∧ K h' := by
  unfold storeA at hs
  split at hs
  · rename_i k hk
    obtain ⟨i, hi, hsz, _⟩ := kindSz_some hk
    obtain ⟨hst, hcl, hone, _, hs⟩ := cellsK_inv hs
    obtain ⟨a, w', h', rfl, hc, hrun, H', hk'⟩ := st_ok H (P := P) hp hv hst (fun e => hone (by cases k <;> simp_all [oneK])) hs
    refine ⟨w', h', ?_, H', hk'⟩
    simp [Instr.storeAt, Instr.sureAddr, storeVar, run_sizeOf' hi, hc, hsz, hcl, hrun]
  · exact hs.elim
end Go.Sym

namespace Go.Sym
open Go
variable [Nam]
def MNext (P : Program) (κ : Ghost) (w : World) (m : Sem Next) (K : AVal → Heap → Prop) : Prop :=
  ∃ r v w' κ' av h', m.run P w = .ok r w' ∧ (r = .value v ∨ (r = .skip ∧ v = undef)) ∧ κ.Le κ' ∧ RelH κ' h' w' ∧ RelV κ' av v ∧ K av h'
def MOK (P : Program) (κ : Ghost) (w : World) (m : Sem Value) (K : AVal → Heap → Prop) : Prop :=
  ∃ v w' κ' av h', m.run P w = .ok v w' ∧ κ.Le κ' ∧ RelH κ' h' w' ∧ RelV κ' av v ∧ K av h'
theorem MOK.next {P : Program} {κ : Ghost} {w : World} {m : Sem Value} {K : AVal → Heap → Prop} (h : MOK P κ w m K) : MNext P κ w (do pure (.value (← m))) K := by
  obtain ⟨v, w', κ', av, h', h1, h2, h3, h4, h5⟩ := h
  exact ⟨.value v, v, w', κ', av, h', by simp [h1], .inl rfl, h2, h3, h4, h5⟩
def newRow (es : Nat) (elems : List AVal) (h : Heap) (K : Nat → Heap → Prop) : Prop := ∀ r, h r = none → Nam.G h r → K r (h.set r (.row es elems))
section
variable {κ : Ghost} {h : Heap} {w : World}
omit [Nam] in
theorem newRow_at (H : RelH0 κ h w) {es cap : Nat} {elems : List AVal} {cs : Array Value} {e : TypeId} (hes : 0 < es) (hsz : cs.size = cap * es) (hl : elems.length ≤ cap)
    (hm : cap ≤ maxLen) (h1 : ∀ c ∈ cs.toList, c.oneCell' = true) (hr : RelEl κ es elems cs.toList) :
    ∃ κ', κ.Le κ' ∧ κ'.nref = κ.nref + 1 ∧ κ'.loc κ.nref = some ⟨w.heap.size, 0, es, cap⟩ ∧ RelH0 κ' (h.set κ.nref (.row es elems)) (w.alloc (.cells cs e)) := by
  have le := Ghost.le_addLoc (H.fin _ (Nat.le_refl _)) ⟨w.heap.size, 0, es, cap⟩
  refine ⟨_, le, rfl, Ghost.addLoc_same _, H.alloc_loc _ _ _ _ ?_⟩
  exact ⟨rfl, hes, cs, e, (0, 0), heap_alloc_new w _, .inl rfl, by simpa using hsz, hl, hm, h1, by simpa using hr.mono le⟩
theorem newRow_ok (H : RelH κ h w) {es cap : Nat} {elems : List AVal} {cs : Array Value} {e : TypeId} {K : Nat → Heap → Prop} (hes : 0 < es) (hsz : cs.size = cap * es) (hl : elems.length ≤ cap)
    (hm : cap ≤ maxLen) (h1 : ∀ c ∈ cs.toList, c.oneCell' = true) (hr : RelEl κ es elems cs.toList) (hk : newRow es elems h K) :
    ∃ κ' r, κ.Le κ' ∧ κ'.loc r = some ⟨w.heap.size, 0, es, cap⟩ ∧ RelH κ' (h.set r (.row es elems)) (w.alloc (.cells cs e)) ∧ K r (h.set r (.row es elems)) := by
  obtain ⟨κ', le, hn, hL, H'⟩ := newRow_at H.toRelH0 (e := e) hes hsz hl hm h1 hr
  exact ⟨κ', κ.nref, le, hL, ⟨H', by rw [hn]; exact Nam.new H.nref_none H.nam, Nam.mono le.imm H.glob⟩, hk _ H.nref_none H.nam⟩
theorem newRow_okF (H : RelH κ h w) {es cap : Nat} {elems : List AVal} {cs : Array Value} {e : TypeId} {fz : Nat × Nat} {K : Nat → Heap → Prop} (hes : 0 < es) (hsz : cs.size = cap * es) (hfz : fz.1 = fz.2 ∨ cs.size ≤ fz.1) (hl : elems.length ≤ cap)
    (hm : cap ≤ maxLen) (h1 : ∀ c ∈ cs.toList, c.oneCell' = true) (hr : RelEl κ es elems cs.toList) (hk : newRow es elems h K) :
    ∃ κ' r, κ.Le κ' ∧ κ'.loc r = some ⟨w.heap.size, 0, es, cap⟩ ∧ RelH κ' (h.set r (.row es elems)) (w.alloc (.cells cs e fz)) ∧ K r (h.set r (.row es elems)) := by
  have le := Ghost.le_addLoc (H.fin _ (Nat.le_refl _)) ⟨w.heap.size, 0, es, cap⟩
  refine ⟨_, κ.nref, le, Ghost.addLoc_same _, H.alloc_loc _ _ _ _ ?_, hk _ H.nref_none H.nam⟩
  exact ⟨rfl, hes, cs, e, fz, heap_alloc_new w _, hfz, by simpa using hsz, hl, hm, h1, by simpa using hr.mono le⟩
theorem newLit_ok (H : RelH κ h w) {cs : Array Value} {e : TypeId} :
    κ.Le (κ.addImm w.heap.size (.cells cs e)) ∧ (κ.addImm w.heap.size (.cells cs e)).imm w.heap.size = some (.cells cs e) ∧ RelH (κ.addImm w.heap.size (.cells cs e)) h (w.alloc (.cells cs e)) :=
  ⟨Ghost.le_addImm _ H.imm_new, Ghost.addImm_same _ _, H.alloc_imm _⟩
def boxA (P : Program) (lit : Bool) (h : Heap) (t : TypeId) (v : AVal) (K : AVal → Heap → Prop) : Prop :=
  match kindSz P t with
  | some k => chkH (Nat.blt 0 (k.getD 1)) (cellsK k v fun cs => match lit with
    | true => K (.lptr cs) h
    | false => newRow (k.getD 1) [v] h fun r h' => K (.ptr r 0 0) h')
  | none => False
theorem boxA_ok (H : RelH κ h w) {P : Program} {lit : Bool} {t : TypeId} {v : AVal} {u : Value} {K : AVal → Heap → Prop} (hv : RelV κ v u) (hk : boxA P lit h t v K) :
    MOK P κ w (Instr.box t u) K := by
  unfold boxA at hk
  split at hk
  · rename_i k _
    obtain ⟨hpos, hk⟩ := chk_iff.1 hk
    have hpos : 0 < k.getD 1 := by simpa using hpos
    obtain ⟨hs, hcl, _, _, hk⟩ := cellsK_inv hk
    rw [← hcl] at hpos
    obtain ⟨hc, h1, hrc⟩ := hv.cells hs
    have hlen := hc.length
    have hrun : (Instr.box t u).run P w = .ok (.pointer (some ⟨w.heap.size, 0, none⟩)) (w.alloc (.cells u.cells t)) := by simp [Instr.box, newVar, Go.newRow]
    cases lit with
    | true =>
      obtain ⟨le, him, H'⟩ := newLit_ok H (cs := u.cells) (e := t)
      refine ⟨_, _, _, _, h, hrun, le, H', .lptr him (win_all h1) ?_, hk⟩
      have := hc.mono le
      rw [List.drop_zero, List.take_of_length_le (by omega)]
      exact this
    | false =>
      simp only at hk
      rw [← hcl] at hk
      obtain ⟨κ', r, le, hL, H', hk'⟩ := newRow_ok H (cap := 1) (cs := u.cells) (e := t) hpos (by simpa using hlen) (by simp) (by simp [maxLen]) h1
        (by have := RelEl.cons (es := (cellsOf v).length) hlen hrc (.nil (κ := κ) (xs := [])); simpa using this) hk
      refine ⟨_, _, _, _, _, hrun, le, H', ?_, hk'⟩
      have := RelV.ptr (κ := κ') (i := 0) (o := 0) hL
      simpa using this
  · exact hk.elim
def allocA (P : Program) (lit : Bool) (h : Heap) (t : TypeId) (K : AVal → Heap → Prop) : Prop :=
  match zeroC P t with
  | some z => boxA P lit h t (absV z) K
  | none => False
theorem allocA_ok (H : RelH κ h w) {P : Program} {lit : Bool} {t : TypeId} {K : AVal → Heap → Prop} (hk : allocA P lit h t K) : MOK P κ w (Instr.alloc t true (.tuple #[])) K := by
  unfold allocA at hk
  split at hk
  · rename_i z hz
    have := boxA_ok H (P := P) (t := t) (absV_rel κ z) hk
    obtain ⟨v, w', κ', av, h', h1, h2⟩ := this
    refine ⟨v, w', κ', av, h', ?_, h2⟩
    rw [← h1]
    simp [Instr.alloc, Instr.box, (zeroC_some hz).1]
  · exact hk.elim
def setElems (k : Option Nat) : List AVal → List (Nat × AVal) → (List AVal → Prop) → Prop
  | l, [], K => K l
  | l, (i, v) :: rest, K => cellsK k v fun _ => chkH (Nat.blt i l.length) (setElems k (l.set i v) rest K)
omit [Nam] in
theorem setElems_ok {k : Option Nat} : ∀ {parts : List (Nat × AVal)} {us : List (Nat × Value)} {l : List AVal} {cs : Array Value} {K : List AVal → Prop},
    setElems k l parts K → RelEl κ (k.getD 1) l cs.toList → (∀ c ∈ cs.toList, c.oneCell' = true) → us.map (·.1) = parts.map (·.1) → (∀ (j : Nat) a u, parts[j]? = some a → us[j]? = some u → RelV κ a.2 u.2) →
    ∃ ds out, Instr.fill (fun i => some (i * k.getD 1, k.getD 1)) cs us = some ds ∧ RelEl κ (k.getD 1) out ds.toList ∧ (∀ c ∈ ds.toList, c.oneCell' = true) ∧ ds.size = cs.size ∧ out.length = l.length ∧ K out
  | [], us, l, cs, K, h, hr, h1, hm, _ => by
    have : us = [] := by simpa using hm
    subst this
    exact ⟨cs, l, rfl, hr, h1, rfl, rfl, h⟩
  | (i, v) :: rest, us, l, cs, K, h, hr, h1, hm, hp => by
    obtain ⟨⟨i', u⟩, us', rfl⟩ : ∃ x us', us = x :: us' := by
      cases us with
      | nil => simp at hm
      | cons x us' => exact ⟨x, us', rfl⟩
    simp only [List.map_cons, List.cons.injEq] at hm
    obtain ⟨rfl, hm⟩ := hm
    simp only [setElems] at h
    obtain ⟨hs, hsz, _, _, h⟩ := cellsK_inv h
    obtain ⟨hlt, h⟩ := chk_iff.1 h
    have hlt : i' < l.length := by simpa using hlt
    have hv : RelV κ v u := hp 0 (i', v) (i', u) rfl rfl
    obtain ⟨hcells, hone, hrc⟩ := hv.cells hs
    have hlen := hcells.length
    have hul : u.cells.toList.length = u.cells.size := by simp
    have hmul : (i' + 1) * k.getD 1 ≤ l.length * k.getD 1 := Nat.mul_le_mul_right _ hlt
    rw [Nat.add_mul, Nat.one_mul] at hmul
    have hel := hr.length
    have hcl : cs.toList.length = cs.size := by simp
    have h2 := RelEl.set hr hlt hrc (by omega)
    have e1 := setList_toList u.cells.toList cs (i' * k.getD 1) (by omega)
    rw [hlen, hsz] at e1
    rw [← e1] at h2
    have h3 := setList_one u.cells.toList cs (i' * k.getD 1) h1 hone
    obtain ⟨ds, out, hd, hdr, hd1, hds, hol, hK⟩ := setElems_ok (us := us') h h2 h3 hm (fun j a u ha hu => hp (j + 1) a u (by simpa using ha) (by simpa using hu))
    refine ⟨ds, out, ?_, hdr, hd1, by rw [hds, setList_size], by rw [hol]; simp, hK⟩
    simp only [Instr.fill]
    rw [if_neg (by simp; omega)]
    have e : u.cells.zipIdx.foldl (fun cs (x : Value × Nat) => cs.setIfInBounds (i' * k.getD 1 + x.2) x.1) cs = setList cs (i' * k.getD 1) u.cells.toList := by
      have := foldl_setList (i' * k.getD 1) u.cells.toList 0 cs
      rw [Nat.add_zero] at this
      rw [← this, ← Array.foldl_toList]
      simp
    rw [e]
    exact hd
omit [Nam] in
theorem relEl_made {z : Value} {es : Nat} (hz : z.cells.size = es) (_hpos : 0 < es) (hs : storable (absV z) = true) : ∀ n : Nat,
    RelEl κ es (List.replicate n (absV z)) (((Array.range (n * es)).map (z.cells[· % z.cells.size]!)).toList) := by
  have hc := ((absV_rel κ z).cells hs).2.2
  intro n
  induction n with
  | zero => exact .nil
  | succ n ih =>
    have e : ((Array.range ((n + 1) * es)).map (z.cells[· % z.cells.size]!)).toList = z.cells.toList ++ ((Array.range (n * es)).map (z.cells[· % z.cells.size]!)).toList := by
      simp only [Array.toList_map, Array.toList_range]
      rw [show (n + 1) * es = es + n * es by rw [Nat.add_mul, Nat.one_mul, Nat.add_comm], List.range_add, List.map_append, List.map_map]
      congr 1
      · apply List.ext_getElem
        · simp [hz]
        · intro i h1 h2
          simp only [List.length_map, List.length_range] at h1
          simp [hz, Nat.mod_eq_of_lt h1, h1]
      · apply List.map_congr_left
        intro i _
        simp [hz]
    rw [e, List.replicate_succ]
    exact .cons (by simpa using hz) hc ih
omit [Nam] in
theorem made_one {z : Value} (h1 : ∀ c ∈ z.cells.toList, c.oneCell' = true) (n : Nat) (hpos : 0 < z.cells.size) : ∀ c ∈ ((Array.range n).map (z.cells[· % z.cells.size]!)).toList, c.oneCell' = true := by
  intro c hc
  simp only [Array.toList_map, List.mem_map] at hc
  obtain ⟨i, _, rfl⟩ := hc
  have hlt : i % z.cells.size < z.cells.size := Nat.mod_lt _ hpos
  rw [getElem!_pos z.cells _ hlt]
  exact h1 _ (by simp)
def elemZ (P : Program) (t : TypeId) : Option (TypeId × Option Nat × Value) :=
  match elemT P t with
  | some (e, es) => match kindSz P e, zeroC P e with
    | some k, some z => match Nat.beq z.cells.size es && Nat.blt 0 es && storable (absV z) with
      | true => some (e, k, z)
      | false => none
    | _, _ => none
  | none => none
omit [Nam] in
theorem elemZ_some {P : Program} {t e : TypeId} {k : Option Nat} {z : Value} (h : elemZ P t = some (e, k, z)) :
    P.underlying t = some (.slice e) ∧ ∃ i, P.info? e = some i ∧ i.size = k.getD 1 ∧ z.cells.size = k.getD 1 ∧ 0 < k.getD 1 ∧ storable (absV z) = true ∧ zeroC P e = some z ∧ i.zero = some z := by
  unfold elemZ at h
  split at h
  · rename_i e' es hT
    obtain ⟨hu, inf, hinf, rfl⟩ := elemT_some hT
    split at h
    · rename_i k' z' hk hz
      split at h
      · rename_i hc
        cases h
        simp only [Bool.and_eq_true] at hc
        obtain ⟨i2, hi2, hsz, _⟩ := kindSz_some hk
        rw [hinf] at hi2; cases hi2
        obtain ⟨_, _, i3, hi3, hz3⟩ := zeroC_some hz
        rw [hinf] at hi3; cases hi3
        have h1 := Nat.eq_of_beq_eq_true hc.1.1
        have h2 : 0 < inf.size := by simpa using hc.1.2
        exact ⟨hu, inf, hinf, hsz, by omega, by omega, hc.2, hz, hz3⟩
      · cases h
    · cases h
  · cases h
def buildSliceA (P : Program) (lit : Bool) (h : Heap) (t : TypeId) (len : Nat) (parts : List (Nat × AVal)) (K : AVal → Heap → Prop) : Prop :=
  match elemZ P t with
  | some (_, k, z) => chkH (Nat.ble (len * k.getD 1) 16777216) (setElems k (List.replicate len (absV z)) parts fun elems => match lit with
    | true => K (.lsl (k.getD 1) elems) h
    | false => newRow (k.getD 1) elems h fun r h' => K (.sl r (k.getD 1) 0 len) h')
  | none => False
theorem buildSliceA_ok (H : RelH κ h w) {P : Program} {lit : Bool} {t : TypeId} {len : Nat} {parts : List (Nat × AVal)} {us : Array (Nat × Value)} {K : AVal → Heap → Prop}
    (hm : us.toList.map (·.1) = parts.map (·.1)) (hp : ∀ (j : Nat) a u, parts[j]? = some a → us.toList[j]? = some u → RelV κ a.2 u.2) (hk : buildSliceA P lit h t len parts K) :
    MOK P κ w (Instr.buildSlice t len us) K := by
  unfold buildSliceA at hk
  split at hk
  · rename_i e k z hT
    obtain ⟨hu, inf, hinf, hsz0, hzs, hpos, hst, hz, _⟩ := elemZ_some hT
    obtain ⟨hzr, hz1, _⟩ := zeroC_some hz
    obtain ⟨hle, hk⟩ := chk_iff.1 hk
    have hsz := Nat.le_of_ble_eq_true hle
    obtain ⟨ds, elems, hd, hdr, hd1, hds, hol, hk⟩ := setElems_ok (κ := κ) hk (relEl_made (κ := κ) hzs hpos hst len) (made_one hz1 _ (by omega)) hm hp
    have hol : elems.length = len := by simpa using hol
    have hds : ds.size = len * k.getD 1 := by simpa using hds
    have hrun : (Instr.buildSlice t len us).run P w = .ok (.slice (some ⟨w.heap.size, 0, none⟩) len len) (w.alloc (.cells ds e)) := by
      unfold Instr.buildSlice
      simp only [Sem.run_bind, run_underlying hu, Result.andThen_ok, run_sizeOf' hinf]
      rw [hsz0, if_neg (by omega)]
      by_cases h0 : len * k.getD 1 = 0
      · simp only [h0, if_true]
        rw [h0] at hd
        have e0 : ∀ f : Nat → Value, (Array.range 0).map f = (Array.range 0).map (z.cells[· % z.cells.size]!) := fun f => by simp
        simp only [pure_bind]
        rw [e0, hd]
        simp [Go.newRow]
      · simp only [h0, if_false, Sem.run_bind, hzr, Result.andThen_ok, Sem.run_pure]
        rw [hd]
        simp [Go.newRow]
    have hml : len ≤ maxLen := by
      have : len * 1 ≤ len * k.getD 1 := Nat.mul_le_mul_left _ hpos
      simp only [maxLen]
      omega
    cases lit with
    | true =>
      obtain ⟨le, him, H'⟩ := newLit_ok H (cs := ds) (e := e)
      exact ⟨_, _, _, _, h, hrun, le, H', .lsl him hol.symm (Nat.le_refl _) hml (win_all hd1) (by simpa using hdr.mono le), hk⟩
    | false =>
      obtain ⟨κ', r, le, hL, H', hk'⟩ := newRow_ok H (cap := len) (cs := ds) (e := e) hpos hds (by omega) hml hd1 hdr hk
      refine ⟨_, _, _, _, _, hrun, le, H', ?_, hk'⟩
      have := RelV.sl (κ := κ') (off := 0) (len := len) (x := 0) hL rfl (by simp) hml (.inl (by simp))
      simpa using this
  · exact hk.elim
end
end Go.Sym

namespace Go.Sym
open Go
variable [Nam]
section
variable {κ : Ghost} {h : Heap} {w : World}
def bytesT (P : Program) (e : TypeId) : Nat := ((P.info? e).map (·.bytes)).getD 0
def mkS (lit : Bool) (es bytes : Nat) (z : AVal) (h : Heap) (l c : Int) (K : AVal → Heap → Prop) : Prop :=
  (0 ≤ l ∧ l ≤ c ∧ (bytes : Int) * c ≤ 281474976710656 ∧ c ≤ 9223372036854775807) ∧
  match lit with
  | true => K (.lsl es (List.replicate l.toNat z)) h
  | false => newRow es (List.replicate l.toNat z) h fun r h' => K (.sl r es 0 l.toNat) h'
def makeSliceA (P : Program) (lit : Bool) (h : Heap) (t : TypeId) (l c : AVal) (K : AVal → Heap → Prop) : Prop :=
  match elemZ P t with
  | some (e, k, z) => match l, c with
    | .int _ l, .int _ c => mkS lit (k.getD 1) (bytesT P e) (absV z) h l c K
    | _, _ => False
  | none => False
theorem makeSliceA_ok (H : RelH κ h w) {P : Program} {lit : Bool} {t : TypeId} {l c : AVal} {u v : Value} {K : AVal → Heap → Prop} (hl : RelV κ l u) (hc : RelV κ c v) (hk : makeSliceA P lit h t l c K) :
    MOK P κ w (Instr.makeSlice t u v) K := by
  unfold makeSliceA at hk
  split at hk
  · rename_i e k z hT
    obtain ⟨hu, inf, hinf, hsz0, hzs, hpos, hst, hz, hz2⟩ := elemZ_some hT
    obtain ⟨hzr, hz1, _⟩ := zeroC_some hz
    split at hk
    · rename_i k1 l k2 c
      cases hl; cases hc
      obtain ⟨⟨h0, h1, h2, h3⟩, hk⟩ := hk
      have hb : bytesT P e = inf.bytes := by simp [bytesT, hinf]
      rw [hb] at h2
      have hrun := run_make (P := P) w t e inf z hu hinf hz2 k1 k2 l c h0 h1 h2 h3
      rw [hsz0] at hrun
      have hel := relEl_made (κ := κ) hzs hpos hst c.toNat
      have hone := made_one hz1 (c.toNat * k.getD 1) (by omega)
      have hel2 : RelEl κ (k.getD 1) (List.replicate l.toNat (absV z)) (madeCells z.cells (c.toNat * k.getD 1)).toList := by
        have := RelEl.take l.toNat hel
        rw [List.take_replicate, Nat.min_eq_left (by omega)] at this
        exact this
      cases lit with
      | true =>
        obtain ⟨le, him, H'⟩ := newLit_ok H (cs := madeCells z.cells (c.toNat * k.getD 1)) (e := e)
        exact ⟨_, _, _, _, h, hrun, le, H', .lsl him (by simp) (by omega) (by simp only [maxLen]; omega) (win_all hone) (by simpa using hel2.mono le), hk⟩
      | false =>
        obtain ⟨κ', r, le, hL, H', hk'⟩ := newRow_ok H (cap := c.toNat) (e := e) hpos (size_madeCells _ _) (by simp; omega) (by simp only [maxLen]; omega) hone hel2 hk
        refine ⟨_, _, _, _, _, hrun, le, H', ?_, hk'⟩
        have := RelV.sl (κ := κ') (off := 0) (len := l.toNat) (x := 0) hL rfl (by simp; omega) (by simp only [maxLen]; omega) (.inl (by simp))
        simpa using this
    · exact hk.elim
  · exact hk.elim
def elemsA (es : Nat) (h : Heap) (x : AVal) : Option (List AVal) :=
  match x with
  | .nilsl => some []
  | .lsl es' l => if es' = es then some l else none
  | .sl r es' off len => if es' = es then match h r with
    | some (.row _ elems) => if off + len ≤ elems.length then some ((elems.drop off).take len) else none
    | _ => none
    else none
  | _ => none
omit [Nam] in
theorem RelEl.cells {κ : Ghost} {es : Nat} : ∀ {vs : List AVal} {xs : List Value}, RelEl κ es vs xs → RelEl κ es vs (xs.take (vs.length * es))
  | _, _, .nil => .nil
  | _, _, .cons (vs := vs) (xs := a) (ys := b) hl h hs => by
    have := RelEl.cons hl h (RelEl.cells hs)
    rw [List.length_cons, show (vs.length + 1) * es = a.length + vs.length * es by rw [hl, Nat.add_mul, Nat.one_mul, Nat.add_comm], List.take_append]
    simpa [List.take_of_length_le (show a.length ≤ a.length + vs.length * es by omega)] using this
omit [Nam] in
theorem RelEl.append {κ : Ghost} {es : Nat} : ∀ {vs ws : List AVal} {xs ys : List Value}, RelEl κ es vs xs → xs.length = vs.length * es → RelEl κ es ws ys → RelEl κ es (vs ++ ws) (xs ++ ys)
  | _, _, _, _, .nil, hl, h => by
    simp at hl
    subst hl
    simpa using h
  | _, ws, _, ys, .cons (vs := vs) (xs := a) (ys := b) hl h hs, hlen, h' => by
    have hb : b.length = vs.length * es := by
      simp only [List.length_append, List.length_cons, Nat.add_mul, Nat.one_mul] at hlen
      omega
    have := RelEl.cons hl h (RelEl.append hs hb h')
    simpa using this
theorem elemsA_ok (H : RelH κ h w) {es : Nat} {x : AVal} {u : Value} {l : List AVal} (hx : RelV κ x u) (he : elemsA es h x = some l) :
    ∃ base n cap ys, u = .slice base n cap ∧ n = l.length ∧ n ≤ cap ∧ cap ≤ maxLen ∧ ys.length = n * es ∧ RelEl κ es l ys ∧ (∀ y ∈ ys, y.oneCell' = true) ∧
      ((base = none ∧ n = 0 ∧ cap = 0) ∨ ∃ a, base = some a ∧ ∀ j y, ys[j]? = some y → w.cell? (a.add j) = some y) := by
  unfold elemsA at he
  split at he
  · cases he
    cases hx
    exact ⟨none, 0, 0, [], rfl, rfl, Nat.le_refl _, by simp [maxLen], by simp, .nil, by simp, .inl ⟨rfl, rfl, rfl⟩⟩
  · split at he
    · rename_i e
      subst e
      cases he
      obtain ⟨b, off, cap, C, te, fz, rfl, him, hc, hm, h1c, hv⟩ | ⟨a, cap, rfl, rfl, hm⟩ := hx.lsl_inv
      case inr => exact ⟨some a, 0, cap, [], rfl, rfl, by omega, hm, by simp, .nil, by simp, .inr ⟨a, rfl, by simp⟩⟩
      have hlen := hv.length
      refine ⟨_, _, _, _, rfl, rfl, hc, hm, ?_, hv.cells, fun y hy => h1c y hy, .inr ⟨_, rfl, fun j y hj => ?_⟩⟩
      · rw [List.length_take]; omega
      · rw [addr_add, cell?_eq (H.imm b _ him)]
        rw [List.getElem?_take] at hj
        split at hj
        · rw [List.getElem?_drop] at hj
          simpa using hj
        · cases hj
    · cases he
  · rename_i r es' off len
    split at he
    · rename_i e
      subst e
      split at he
      · rename_i es2 elems hr
        split at he
        · rename_i hle
          cases he
          obtain ⟨L, hL, _, h1, h2, C, te, fz, h3, h4, h5, h6, h7, h8, h9⟩ := H.obj r _ hr
          cases hx with
          | sl hL' hes hl hm hxo =>
            rw [hL] at hL'; cases hL'
            have hee : es2 = es' := by rw [← h1, hes]
            subst hee
            have hd := RelEl.take len (RelEl.drop off (by omega) h9)
            have hlen := hd.length
            have hll : ((elems.drop off).take len).length = len := by simp; omega
            rw [hll] at hlen
            have hcells := hd.cells
            rw [hll] at hcells
            refine ⟨_, _, _, _, rfl, hll.symm, by omega, by omega, ?_, hcells, fun y hy => h8 y (List.mem_of_mem_drop (List.mem_of_mem_drop (List.mem_of_mem_take hy))), .inr ⟨_, rfl, fun j y hj => ?_⟩⟩
            · rw [List.length_take]; omega
            · rw [List.getElem?_take] at hj
              split at hj
              · rename_i hjl
                rw [List.getElem?_drop, List.getElem?_drop] at hj
                rw [addr_add, cell?_eq h3]
                rcases hxo with hxo | hxo
                · rw [hxo, h1, Nat.add_assoc]
                  simpa using hj
                · have : len = 0 := by omega
                  subst this
                  simp at hjl
              · cases hj
        · cases he
      · cases he
    · cases he
  · cases he
end
end Go.Sym

namespace Go.Sym
open Go
variable [Nam]
section
variable {κ : Ghost} {h : Heap} {w : World}
def app (es bytes : Nat) (h : Heap) (s : AVal) (new : List AVal) (K : AVal → Heap → Prop) : Prop :=
  match s with
  | .nilsl => (new.length ≤ 4611686018427387904 ∧ new.length * bytes ≤ 140737488355328) ∧ (new = [] → K .nilsl h) ∧ (new ≠ [] → newRow es new h fun r h' => K (.sl r es 0 new.length) h')
  | .sl r es' off len => chk (Nat.beq es' es) (match h r with
    | some (.row es2 elems) => chk (Nat.beq es2 es) ((len + new.length ≤ 4611686018427387904 ∧ (len + new.length) * bytes ≤ 140737488355328) ∧ off + len ≤ elems.length ∧
      (off + len = elems.length → ∀ r', h r' = none → Nam.G h r' → K (.sl r' es 0 (len + new.length)) ((h.del r).set r' (.row es (elems.drop off ++ new)))) ∧
      (off + len ≠ elems.length → off + len + new.length ≤ elems.length ∧ K (.sl r es off (len + new.length)) (h.set r (.row es (elems.take (off + len) ++ new ++ elems.drop (off + len + new.length))))))
    | _ => False)
  | .lsl es' _ => chk (Nat.beq es' es) (new = [] ∧ K s h)
  | _ => False
def appC (es bytes : Nat) (h : Heap) (s x : AVal) (K : AVal → Heap → Prop) : Prop :=
  match elemsA es h x with
  | some new => app es bytes h s new K
  | none => False
def appendA (P : Program) (h : Heap) (t t' : TypeId) (s x : AVal) (K : AVal → Heap → Prop) : Prop :=
  chkH (Nat.beq t' t) (match elemZ P t with
  | some (e, k, _) => appC (k.getD 1) (bytesT P e) h s x K
  | none => False)
omit [Nam] in
theorem run_append_in {P : Program} {t ty e : TypeId} {i : TypeInfo} (ht : P.underlying t = some (.slice e)) (hi : P.info? e = some i)
    {base : Option Addr} {sLen sCap n cap : Nat} {b2 : Option Addr} {news : List Value} (hf : (Builtin.firstCells i.size n (.slice b2 n cap)).run P w = .ok news.toArray w) (hroom : sLen + n ≤ sCap)
    {w' : World} (hst : ∀ a, base = some a → (storeCells (a.add (sLen * i.size)) news).run P w = .ok () w') (hno : base = none → w' = w) :
    (Builtin.append_ #[t, t] ty #[.slice base sLen sCap, .slice b2 n cap]).run P w = .ok (.slice base (sLen + n) sCap) w' := by
  cases base with
  | none =>
    obtain rfl := hno rfl
    simp [Builtin.append_, run_underlying ht, sizeOf, typeInfo, hi, Builtin.lenOf, hroom, hf]
  | some a =>
    have := hst a rfl
    simp [Builtin.append_, run_underlying ht, sizeOf, typeInfo, hi, Builtin.lenOf, hroom, hf, this]
omit [Nam] in
theorem zeroCells_one {z : Value} (h1 : ∀ c ∈ z.cells.toList, c.oneCell' = true) (n : Nat) : ∀ c ∈ (Builtin.zeroCells z.cells n).toList, c.oneCell' = true := by
  intro c hc
  by_cases hpos : 0 < z.cells.size
  · exact made_one h1 _ hpos c hc
  · have : z.cells.size = 0 := by omega
    simp [Builtin.zeroCells, this] at hc
theorem appendA_ok (H : RelH κ h w) {P : Program} {t t' ty : TypeId} {s x : AVal} {u v : Value} {K : AVal → Heap → Prop} (hs : RelV κ s u) (hx : RelV κ x v) (hk : appendA P h t t' s x K) :
    MOK P κ w (Builtin.append_ #[t, t'] ty #[u, v]) K := by
  obtain ⟨htt, hk1⟩ := chk_iff.1 hk
  clear hk
  have hk := hk1
  clear hk1
  obtain rfl := Nat.eq_of_beq_eq_true htt
  split at hk
  · rename_i e k z hT
    obtain ⟨hu, inf, hinf, hsz0, hzs, hpos, hst, hz, hz2⟩ := elemZ_some hT
    obtain ⟨hzr, hz1, _⟩ := zeroC_some hz
    rw [← hsz0] at hk hzs hpos
    unfold appC at hk
    · have hb : bytesT P e = inf.bytes := by simp [bytesT, hinf]
      split at hk
      · rename_i new hnew
        obtain ⟨b2, n, cap, ys, rfl, rfl, hnc, hcm, hyl, hyr, hy1, hya⟩ := elemsA_ok H hx hnew
        have hfc : (Builtin.firstCells inf.size new.length (.slice b2 new.length cap)).run P w = .ok ys.toArray w := by
          rcases hya with ⟨rfl, hn0, _⟩ | ⟨a, rfl, ha⟩
          · have : ys = [] := List.eq_nil_of_length_eq_zero (by rw [hyl, hn0]; simp)
            subst this
            simp [Builtin.firstCells]
          · exact run_firstCells_some w inf.size _ a _ _ ys hyl ha
        unfold app at hk
        split at hk
        · -- nil
          cases hs
          obtain ⟨⟨hb1, hb2⟩, hk0, hk1⟩ := hk
          rw [hb] at hb2
          by_cases hne : new = []
          · subst hne
            refine ⟨_, w, κ, _, h, run_append_in hu hinf hfc (by simp) (fun a e => by cases e) (fun _ => rfl), Ghost.Le.refl κ, H, ?_, hk0 rfl⟩
            simpa using RelV.nilsl
          · have hpn : 0 < new.length := List.length_pos_iff.2 hne
            obtain ⟨a, rfl, ha⟩ := hya.resolve_left (fun ⟨_, h0, _⟩ => by omega)
            have hrun := run_append_nil (P := P) w t' ty e inf z hu hinf hz2 a new.length cap ys hyl ha hpn (by omega) (by omega)
            have hge := grownCap_ge w new.length 0 e
            have hcm2 := grownCap_le_maxLen w new.length 0 e (by simp only [maxLen]; omega)
            obtain ⟨κ', r, le, hL, H', hk'⟩ := newRow_ok H.drew (cap := grownCap w new.length 0 e) (cs := ys.toArray ++ Builtin.zeroCells z.cells (grownCap w new.length 0 e - new.length)) (e := e) hpos
              (by simp only [Array.size_append, List.size_toArray, size_zeroCells, hzs, hyl, ← Nat.add_mul]; congr 1; omega) hge hcm2
              (by intro c hc; simp only [Array.toList_append, List.mem_append] at hc; rcases hc with hc | hc; exact hy1 c (by simpa using hc); exact zeroCells_one hz1 _ c hc)
              (by have := RelEl.append hyr hyl (RelEl.nil (κ := κ) (es := inf.size) (xs := (Builtin.zeroCells z.cells (grownCap w new.length 0 e - new.length)).toList)); simpa using this) (hk1 hne)
            refine ⟨_, _, _, _, _, hrun, le, H', ?_, hk'⟩
            have := RelV.sl (κ := κ') (off := 0) (len := new.length) (x := 0) hL rfl (by simpa using hge) hcm2 (.inl (by simp))
            simpa using this
        · -- owned
          rename_i r es' off len
          obtain ⟨hes1, hk2⟩ := chk_iff.1 hk
          clear hk
          obtain rfl := Nat.eq_of_beq_eq_true hes1
          split at hk2
          · rename_i es2 elems hr
            obtain ⟨hes2, ⟨hb1, hb2⟩, hle, hkf, hkn⟩ := chk_iff.1 hk2
            clear hk2
            obtain rfl := Nat.eq_of_beq_eq_true hes2
            rw [hb] at hb2
            obtain ⟨L, hL, him, h1, h2, C, te, fz, h3, h4, h5, h6, h7, h8, h9⟩ := H.obj r _ hr
            have hs' := hs
            cases hs with
            | sl hL' hes hl hm hxo =>
              rename_i L2 x0
              rw [hL] at hL'; cases hL'
              have hCl := h9.length
              simp only [List.length_drop, Array.length_toList] at hCl
              by_cases hroom : len + new.length ≤ L.cap - off
              · -- in place
                have haddr : (off = L.cap ∧ len = 0 ∧ new = []) ∨ x0 = L.base + off * L.es := by
                  rcases hxo with hxo | hxo
                  · exact .inr hxo
                  · exact .inl ⟨hxo, by omega, List.eq_nil_of_length_eq_zero (by omega)⟩
                by_cases hnil : new = []
                · subst hnil
                  have hy0 : ys = [] := List.eq_nil_of_length_eq_zero (by rw [hyl]; simp)
                  subst hy0
                  have hrun := run_append_in (P := P) (ty := ty) hu hinf hfc hroom (base := some ⟨L.b, x0, none⟩) (w' := w) (fun a e => by cases e; rfl) (fun e => by cases e)
                  by_cases hfull : off + len = elems.length
                  · have hk := hkf hfull κ.nref H.nref_none H.nam
                    have hO : RelO (κ.addLoc ⟨L.b, L.base + off * inf.size, inf.size, L.cap - off⟩) ⟨L.b, L.base + off * inf.size, inf.size, L.cap - off⟩ w (.row inf.size (elems.drop off ++ [])) := by
                      refine ⟨rfl, hpos, C, te, fz, h3, h4, ?_, (show (elems.drop off ++ []).length ≤ L.cap - off by simp only [List.append_nil, List.length_drop]; omega), (show L.cap - off ≤ maxLen by omega), h8, ?_⟩
                      · show C.size = L.base + off * inf.size + (L.cap - off) * inf.size
                        rw [h5, Nat.add_assoc, ← Nat.add_mul]; congr 2; omega
                      · have := (RelEl.drop off (by omega) h9).mono (Ghost.le_addLoc (H.fin _ (Nat.le_refl _)) ⟨L.b, L.base + off * inf.size, inf.size, L.cap - off⟩)
                        rw [List.drop_drop] at this
                        simpa using this
                    have H' := H.rename hr rfl hL (L' := ⟨L.b, L.base + off * inf.size, inf.size, L.cap - off⟩) rfl (w' := w) (fun _ _ => rfl) rfl rfl rfl (Nat.le_refl _) hO
                    refine ⟨_, w, _, _, _, hrun, Ghost.le_addLoc (H.fin _ (Nat.le_refl _)) _, H', ?_, hk⟩
                    have hplace : x0 = (⟨L.b, L.base + off * inf.size, inf.size, L.cap - off⟩ : Place).base + 0 * inf.size ∨ 0 = L.cap - off := by
                      rcases hxo with hxo | hxo
                      · left; rw [hxo, hes]; simp
                      · right; omega
                    have := RelV.sl (κ := κ.addLoc ⟨L.b, L.base + off * inf.size, inf.size, L.cap - off⟩) (r := κ.nref) (off := 0) (len := len + ([] : List AVal).length) (x := x0) (Ghost.addLoc_same _) rfl
                      (by simp only [List.length_nil]; omega) (by simp only; omega) hplace
                    simpa using this
                  · obtain ⟨_, hk⟩ := hkn hfull
                    refine ⟨_, w, κ, _, h, hrun, Ghost.Le.refl κ, H, by simpa using hs', ?_⟩
                    have e0 : h.set r (.row inf.size (elems.take (off + len) ++ [] ++ elems.drop (off + len + ([] : List AVal).length))) = h := by
                      funext q
                      simp only [Heap.set]
                      split
                      · rename_i e; subst e; rw [hr]; simp
                      · rfl
                    rw [e0] at hk
                    simpa using hk
                · have hx0 : x0 = L.base + off * L.es := haddr.resolve_left (fun ⟨_, _, h0⟩ => hnil h0)
                  have hsum : L.base + off * inf.size + len * inf.size + ys.length ≤ C.size := by
                    rw [hyl, h5, Nat.add_assoc, Nat.add_assoc, ← Nat.add_mul, ← Nat.add_mul]
                    exact Nat.add_le_add_left (Nat.mul_le_mul_right _ (by omega)) _
                  obtain ⟨w', hst, hg', hb', e1, e2, e3, e4⟩ := storeCells_run (P := P) (g := L.b) (o := L.base + off * inf.size + len * inf.size) ys 0 C w h3 h4 (by omega) hy1
                  have hrun := run_append_in (P := P) (ty := ty) hu hinf hfc hroom (base := some ⟨L.b, x0, none⟩) (w' := w')
                    (fun a e => by cases e; rw [addr_add, hx0, hes]; exact hst) (fun e => by cases e)
                  rw [Nat.add_zero] at hg'
                  have hdrop : (setList C (L.base + off * inf.size + len * inf.size) ys).toList.drop L.base =
                      (C.toList.drop L.base).take ((off + len) * inf.size) ++ ys ++ (C.toList.drop L.base).drop ((off + len) * inf.size + ys.length) := by
                    rw [setList_toList _ _ _ (by omega)]
                    have := drop_splice C.toList L.base ((off + len) * inf.size) ys (by rw [Nat.add_mul]; simp only [Array.length_toList]; omega)
                    rw [← this, Nat.add_mul, ← Nat.add_assoc]
                  have hpre : RelEl κ inf.size (elems.take (off + len)) ((C.toList.drop L.base).take ((off + len) * inf.size)) := by
                    have := (RelEl.take (off + len) h9).cells
                    rwa [List.length_take, Nat.min_eq_left hle] at this
                  have hprel : ((C.toList.drop L.base).take ((off + len) * inf.size)).length = (elems.take (off + len)).length * inf.size := by
                    rw [List.length_take, List.length_take, Nat.min_eq_left hle]
                    have := RelEl.length (RelEl.take (off + len) h9)
                    rw [List.length_take, Nat.min_eq_left hle] at this
                    omega
                  have hone' := setList_one ys C (L.base + off * inf.size + len * inf.size) h8 hy1
                  have hfz' : fz.1 = fz.2 ∨ (setList C (L.base + off * inf.size + len * inf.size) ys).size ≤ fz.1 := by simpa [setList_size] using h4
                  by_cases hfull : off + len = elems.length
                  · have hk := hkf hfull κ.nref H.nref_none H.nam
                    have le := Ghost.le_addLoc (H.fin _ (Nat.le_refl _)) ⟨L.b, L.base + off * inf.size, inf.size, L.cap - off⟩
                    have hO : RelO (κ.addLoc ⟨L.b, L.base + off * inf.size, inf.size, L.cap - off⟩) ⟨L.b, L.base + off * inf.size, inf.size, L.cap - off⟩ w' (.row inf.size (elems.drop off ++ new)) := by
                      refine ⟨rfl, hpos, _, te, fz, hg', hfz', ?_, (show (elems.drop off ++ new).length ≤ L.cap - off by simp only [List.length_append, List.length_drop]; omega), (show L.cap - off ≤ maxLen by omega), hone', ?_⟩
                      · show (setList C _ ys).size = L.base + off * inf.size + (L.cap - off) * inf.size
                        rw [setList_size, h5, Nat.add_assoc, ← Nat.add_mul]; congr 2; omega
                      · have hall := (RelEl.append hpre hprel (RelEl.append hyr hyl (RelEl.nil (κ := κ) (es := inf.size) (xs := (C.toList.drop L.base).drop ((off + len) * inf.size + ys.length))))).mono le
                        rw [List.append_nil, ← List.append_assoc, ← hdrop] at hall
                        have := RelEl.drop off (by simp; omega) hall
                        rw [List.drop_drop] at this
                        rw [List.take_of_length_le (by omega), List.drop_append_of_le_length (by omega)] at this
                        exact this
                    have H' := H.rename hr rfl hL (L' := ⟨L.b, L.base + off * inf.size, inf.size, L.cap - off⟩) rfl hb' e1 e2 e3 (Nat.le_of_eq e4.symm) hO
                    refine ⟨_, w', _, _, _, hrun, le, H', ?_, hk⟩
                    have := RelV.sl (κ := κ.addLoc ⟨L.b, L.base + off * inf.size, inf.size, L.cap - off⟩) (r := κ.nref) (off := 0) (len := len + new.length) (x := x0) (Ghost.addLoc_same _) rfl
                      (by simp only; omega) (by simp only; omega) (.inl (by rw [hx0, hes]; simp))
                    simpa using this
                  · obtain ⟨hfit, hk⟩ := hkn hfull
                    refine ⟨_, w', κ, _, _, hrun, Ghost.Le.refl κ, H.write hr rfl hL hb' e1 e2 e3 (Nat.le_of_eq e4.symm) ?_, .sl hL hes (by omega) hm hxo, hk⟩
                    refine ⟨h1, h2, _, te, fz, hg', hfz', by rw [setList_size]; exact h5, by simp; omega, h7, hone', ?_⟩
                    have hpost : RelEl κ inf.size (elems.drop (off + len + new.length)) ((C.toList.drop L.base).drop ((off + len) * inf.size + ys.length)) := by
                      have := RelEl.drop (off + len + new.length) (by omega) h9
                      rw [hyl, ← Nat.add_mul]
                      exact this
                    have hall := RelEl.append (RelEl.append hpre hprel hyr) (by rw [List.length_append, List.length_append, hprel, hyl, Nat.add_mul]) hpost
                    rw [hdrop]
                    exact hall
              · -- grow
                have hfull : off + len = elems.length ∨ off + len ≠ elems.length := by omega
                rcases hfull with hfull | hfull
                · have hk := hkf hfull
                  have hel2 : elemsA inf.size h (.sl r inf.size off len) = some ((elems.drop off).take len) := by simp [elemsA, hr, hle]
                  obtain ⟨b3, n3, cap3, zs, hval, hn3, _, _, hzl, hzr', hz1', hza⟩ := elemsA_ok H hs' hel2
                  simp only [Value.slice.injEq] at hval
                  obtain ⟨rfl, rfl, rfl⟩ := hval
                  have holds : ∀ j y, zs[j]? = some y → w.cell? ((⟨L.b, x0, none⟩ : Addr).add j) = some y := by
                    rcases hza with ⟨h0, _⟩ | ⟨a, ha, hc⟩
                    · cases h0
                    · cases ha; exact hc
                  have hpn : 0 < new.length := by omega
                  obtain ⟨a, rfl, ha⟩ := hya.resolve_left (fun ⟨_, h0, _⟩ => by omega)
                  have hrun := run_append_grow (P := P) w t' ty e inf z hu hinf hz2 ⟨L.b, x0, none⟩ len (L.cap - off) zs hzl holds a new.length cap ys hyl ha (by omega) (by omega) (growslice_fits (by omega) hb2)
                  have hge := grownCap_ge w (len + new.length) (L.cap - off) e
                  have hcm2 := grownCap_le_maxLen w (len + new.length) (L.cap - off) e (by simp only [maxLen]; omega)
                  generalize hcapn : grownCap w (len + new.length) (L.cap - off) e = capn at *
                  have hsub : RelH0 κ (h.del r) w.drew := H.drew.toRelH0.sub (fun q o hq => by simp only [Heap.del] at hq; split at hq; cases hq; exact hq)
                  have hdropt : (elems.drop off).take len = elems.drop off := List.take_of_length_le (by simp; omega)
                  rw [hdropt] at hzr' hn3
                  obtain ⟨κ', le, hn3, hL3, H'⟩ := newRow_at hsub (cap := capn) (es := inf.size) (elems := elems.drop off ++ new)
                    (cs := zs.toArray ++ ys.toArray ++ Builtin.zeroCells z.cells (capn - (len + new.length))) (e := e) hpos
                    (by simp only [Array.size_append, List.size_toArray, size_zeroCells, hzs, hyl, hzl, ← Nat.add_mul]; congr 1; omega) (by simp; omega) hcm2
                    (by
                      intro c hc
                      simp only [Array.toList_append, List.mem_append] at hc
                      rcases hc with (hc | hc) | hc
                      · exact hz1' c (by simpa using hc)
                      · exact hy1 c (by simpa using hc)
                      · exact zeroCells_one hz1 _ c hc)
                    (by
                      have hzl2 : zs.length = (elems.drop off).length * inf.size := by rw [hzl, hn3]
                      have := RelEl.append (RelEl.append hzr' hzl2 hyr) (by rw [List.length_append, List.length_append, hzl2, hyl, Nat.add_mul]) (RelEl.nil (κ := κ) (es := inf.size) (xs := (Builtin.zeroCells z.cells (capn - (len + new.length))).toList))
                      simpa using this)
                  refine ⟨_, _, _, _, _, hrun, le, ⟨H', by rw [hn3]; exact Nam.ren hr H.nref_none H.nam, Nam.mono le.imm H.glob⟩, ?_, hk κ.nref H.nref_none H.nam⟩
                  have := RelV.sl (κ := κ') (off := 0) (len := len + new.length) (x := 0) hL3 rfl (by simpa using hge) hcm2 (.inl (by simp))
                  simpa using this
                · obtain ⟨hfit, _⟩ := hkn hfull
                  omega
          · exact hk2.elim
        · -- literal
          rename_i es' l
          obtain ⟨hes1, hnil, hk2⟩ := chk_iff.1 hk
          obtain rfl := Nat.eq_of_beq_eq_true hes1
          subst hnil
          have hy0 : ys = [] := List.eq_nil_of_length_eq_zero (by rw [hyl]; simp)
          subst hy0
          have hs' := hs
          obtain ⟨b, off, cap', C, te, fz, rfl, him, hc, hm, h1c, hv⟩ | ⟨a, cap', rfl, rfl, hm⟩ := hs.lsl_inv
          case inr =>
            have hrun := run_append_in (P := P) (ty := ty) hu hinf (sLen := 0) (sCap := cap') hfc (by simp) (base := some a) (w' := w) (fun a e => by cases e; rfl) (fun e => by cases e)
            exact ⟨_, w, κ, _, h, hrun, Ghost.Le.refl κ, H, by simpa using hs', hk2⟩
          have hrun := run_append_in (P := P) (ty := ty) hu hinf hfc (by simpa using hc) (base := some ⟨b, off, none⟩) (w' := w) (fun a e => by cases e; rfl) (fun e => by cases e)
          exact ⟨_, w, κ, _, h, hrun, Ghost.Le.refl κ, H, by simpa using hs', hk2⟩
        · exact hk.elim
      · exact hk.elim
  · exact hk.elim
end
end Go.Sym

namespace Go.Sym
open Go Go.MapKept
variable [Nam]
def keyV1 (P : Program) (t : TypeId) (k : AVal) : Bool :=
  match P.underlying t, k with
  | some (.int k), .int k' _ => decide (k' = k)
  | some .string, .str _ => true
  | some .bool, .bool _ => true
  | _, _ => false
def keyEq1 (a b : AVal) : Option Bool :=
  match a, b with
  | .int k a, .int k' b => match decide (k = k') with
    | true => some (a == b)
    | false => none
  | .str a, .str b => some (strEq a b)
  | .bool a, .bool b => some (a == b)
  | _, _ => none
def keySF (P : Program) : List Field → Nat → List AVal → Bool
  | [], _, [] => true
  | f :: fs, o, c :: cs => (f.name != "_") && (Nat.beq f.offset o && ((match cellKind P f.type with | some none => true | _ => false) && (keyV1 P f.type c && keySF P fs (o + 1) cs)))
  | _, _, _ => false
def keyEqL : List AVal → List AVal → Option Bool
  | [], [] => some true
  | a :: as, b :: bs => match keyEq1 a b with
    | some r => match keyEqL as bs with
      | some r' => some (r && r')
      | none => none
    | none => none
  | _, _ => none
def keyAr (P : Program) (e : TypeId) (n : Nat) (cs : List AVal) : Bool :=
  (match cellKind P e with | some none => true | _ => false) && (Nat.beq (P.cellsOf e) 1 && ((P.info? e).isSome && (Nat.beq cs.length n && cs.all (keyV1 P e))))
def keyV (P : Program) (t : TypeId) (k : AVal) : Bool :=
  match P.underlying t, k with
  | some (.int k), .int k' _ => decide (k' = k)
  | some .string, .str _ => true
  | some .bool, .bool _ => true
  | some (.struct fs), .agg cs => !P.stoodInHeld t && keySF P fs.toList 0 cs
  | some (.array n e), .agg cs => keyAr P e n cs
  | _, _ => false
def keyEq (a b : AVal) : Option Bool :=
  match a, b with
  | .int k a, .int k' b => match decide (k = k') with
    | true => some (a == b)
    | false => none
  | .str a, .str b => some (strEq a b)
  | .bool a, .bool b => some (a == b)
  | .agg as, .agg bs => keyEqL as bs
  | _, _ => none
def findM (k : AVal) : List (AVal × AVal) → Nat → Option (Option (Nat × AVal))
  | [], _ => some none
  | (k', v) :: l, i => match keyEq k k' with
    | some true => some (some (i, v))
    | some false => findM k l (i + 1)
    | none => none
def putM (k v : AVal) (l : List (AVal × AVal)) : Option (List (AVal × AVal)) :=
  match findM k l 0 with
  | some (some (i, _)) => some (l.set i (k, v))
  | some none => some (l ++ [(k, v)])
  | none => none
def entsA (h : Heap) (m : AVal) : Option (List (AVal × AVal)) :=
  match m with
  | .nilmap => some []
  | .mapr r => match h r with
    | some (.map l) => some l
    | some (.fmap l) => some l
    | some (.mapS l _ _) => some l
    | _ => none
  | _ => none
def mapGetR (z : AVal) (h : Heap) (m k : AVal) : Option (AVal × Bool) :=
  match entsA h m with
  | some l => match findM k l 0 with
    | some (some (_, v)) => some (v, true)
    | some none => some (z, false)
    | none => none
  | none => none
def mapGet (z : AVal) (h : Heap) (m k : AVal) (K : AVal → Bool → Prop) : Prop :=
  match mapGetR z h m k with
  | some (v, b) => K v b
  | none => False
def mapT (P : Program) (t : TypeId) : Option (TypeId × TypeId) :=
  match P.underlying t with
  | some (.map k e) => some (k, e)
  | _ => none
def lookupA (P : Program) (h : Heap) (t : TypeId) (m k : AVal) (ok : Bool) (K : AVal → Prop) : Prop :=
  match mapT P t with
  | some (kt, et) => match zeroC P et with
    | some z => chkH (keyV P kt k && storable (absV z)) (mapGet (absV z) h m k fun v b => match ok with
      | true => K (.tuple [v, .bool b])
      | false => K v)
    | none => False
  | none => False
def mapPutR (h : Heap) (m k v : AVal) : Option Heap :=
  match m with
  | .mapr r => match h r with
    | some (.map l) => match putM k v l with
      | some l' => some (h.set r (.map l'))
      | none => none
    | _ => none
  | _ => none
def mapPut (h : Heap) (m k v : AVal) (K : Heap → Prop) : Prop :=
  match mapPutR h m k v with
  | some h' => K h'
  | none => False
def mapUpdateA (P : Program) (h : Heap) (t : TypeId) (m k v : AVal) (K : Heap → Prop) : Prop :=
  match mapT P t with
  | some (kt, _) => chkH (keyV P kt k) (mapPut h m k v K)
  | none => False
def newMap (h : Heap) (K : Nat → Heap → Prop) : Prop := ∀ r, h r = none → Nam.G h r → K r (h.set r (.map []))
def makeMapA (P : Program) (h : Heap) (t : TypeId) (hint : Option AVal) (K : AVal → Heap → Prop) : Prop :=
  chkH (mapT P t).isSome (match hint with
    | none => newMap h fun r h' => K (.mapr r) h'
    | some (.int _ _) => newMap h fun r h' => K (.mapr r) h'
    | _ => False)
omit [Nam] in
theorem strEq_iff {a b : ByteArray} : strEq a b = (a == b) := by simp [strEq, beq_toListBytes]
omit [Nam] in
theorem keyEq1_ok {κ : Ghost} {a b : AVal} {u v : Value} {r : Bool} {P : Program} {kt : TypeId} {d : TypeDesc} (hd : P.underlying kt = some d) (hv : keyV1 P kt a = true) (ha : RelV κ a u) (hb : RelV κ b v) (h : keyEq1 a b = some r) :
    Instr.sameNow d u v = some r ∧ (r = true → v = u) := by
  unfold keyV1 at hv
  rw [hd] at hv
  split at hv
  · rename_i k k' n hd' 
    cases hd'
    simp only [decide_eq_true_eq] at hv
    subst hv
    cases ha
    unfold keyEq1 at h
    split at h
    · rename_i k1 a1 k2 b1 e1
      obtain ⟨rfl, rfl⟩ := AVal.int.inj e1
      cases hb
      split at h
      · rename_i e
        have e := of_decide_eq_true e
        subst e
        cases h
        refine ⟨by simp [Instr.sameNow], fun h => ?_⟩
        rw [eq_of_beq h]
      · cases h
    · rename_i e1; cases e1
    · rename_i e1; cases e1
    · cases h
  · rename_i hd'
    cases hd'
    cases ha
    unfold keyEq1 at h
    split at h
    · rename_i e1; cases e1
    · rename_i a1 b1 e1
      cases e1
      cases hb
      cases h
      refine ⟨by simp [Instr.sameNow, strEq_iff], fun h => ?_⟩
      rw [strEq_iff] at h
      rw [(bytes_beq _ _).1 h]
    · rename_i e1; cases e1
    · cases h
  · rename_i hd'
    cases hd'
    cases ha
    unfold keyEq1 at h
    split at h
    · rename_i e1; cases e1
    · rename_i e1; cases e1
    · rename_i a1 b1 e1
      cases e1
      cases hb
      cases h
      refine ⟨by simp [Instr.sameNow], fun h => ?_⟩
      rw [eq_of_beq h]
    · cases h
  · cases hv
omit [Nam] in
theorem keyV1_ok {κ : Ghost} {a : AVal} {u : Value} {P : Program} {kt : TypeId} (hv : keyV1 P kt a = true) (ha : RelV κ a u) : ∃ d, P.underlying kt = some d ∧ IsKey d u ∧ Instr.sameBits 10000 u u = true := by
  unfold keyV1 at hv
  split at hv
  · rename_i k k' n hd
    simp only [decide_eq_true_eq] at hv
    subst hv
    cases ha
    exact ⟨_, hd, rfl, by simp [Instr.sameBits]⟩
  · rename_i hd
    cases ha
    exact ⟨_, hd, trivial, by first | exact (bytes_beq _ _).2 rfl | simp [Instr.sameBits]⟩
  · rename_i hd
    cases ha
    exact ⟨_, hd, trivial, by first | exact (bytes_beq _ _).2 rfl | simp [Instr.sameBits]⟩
  · cases hv
omit [Nam] in
theorem findM1_ok {κ : Ghost} {k : AVal} {u : Value} {P : Program} {kt : TypeId} {d : TypeDesc} (hd : P.underlying kt = some d) (hv : keyV1 P kt k = true) (he : ∀ b, keyEq k b = keyEq1 k b) (hk : RelV κ k u) :
    ∀ {l : List (AVal × AVal)} {es : List MapEntry} {i : Nat} {r : Option (Nat × AVal)}, RelEs κ l es → findM k l i = some r →
      (r = none ∧ Instr.findNow d u es i = some none) ∨ ∃ j e av, r = some (i + j, av) ∧ es[j]? = some e ∧ e.key = u ∧ RelV κ av e.val ∧ Instr.findNow d u es i = some (some (i + j, e.val))
  | _, _, i, r, .nil, h => by
    simp only [findM, Option.some.injEq] at h
    exact .inl ⟨h.symm, rfl⟩
  | (k', v) :: l, e :: es, i, r, .cons hk' hv' hs, h => by
    simp only [findM, he] at h
    split at h
    · rename_i hq
      obtain ⟨h1, h2⟩ := keyEq1_ok hd hv hk hk' hq
      cases h
      refine .inr ⟨0, e, v, rfl, rfl, h2 rfl, hv', ?_⟩
      simp [Instr.findNow, h1]
    · rename_i hq
      obtain ⟨h1, _⟩ := keyEq1_ok hd hv hk hk' hq
      rcases findM1_ok hd hv he hk hs h with ⟨h2, h3⟩ | ⟨j, e', av, h2, h3, h4, h5, h6⟩
      · exact .inl ⟨h2, by simp [Instr.findNow, h1, h3]⟩
      · refine .inr ⟨j + 1, e', av, ?_, h3, h4, h5, ?_⟩
        · rw [h2]; congr 2; omega
        · simp only [Instr.findNow, h1, h6]; congr 3; omega
    · cases h
omit [Nam] in
theorem keyV_split {P : Program} {kt : TypeId} {k : AVal} (h : keyV P kt k = true) : (keyV1 P kt k = true ∧ ∀ b, keyEq k b = keyEq1 k b) ∨ ∃ (fs : Array Field) (cs : List AVal), k = .agg cs ∧ ((P.underlying kt = some (.struct fs) ∧ P.stoodInHeld kt = false ∧ keySF P fs.toList 0 cs = true) ∨ ∃ n e, P.underlying kt = some (.array n e) ∧ keyAr P e n cs = true) := by
  unfold keyV at h
  split at h
  · rename_i k1 k' n hd
    refine .inl ⟨by unfold keyV1; rw [hd]; exact h, fun b => ?_⟩
    cases b <;> rfl
  · rename_i s hd
    refine .inl ⟨by unfold keyV1; rw [hd], fun b => ?_⟩
    cases b <;> rfl
  · rename_i s hd
    refine .inl ⟨by unfold keyV1; rw [hd], fun b => ?_⟩
    cases b <;> rfl
  · rename_i fs cs hd
    simp only [Bool.and_eq_true, Bool.not_eq_true'] at h
    exact .inr ⟨fs, cs, rfl, .inl ⟨hd, h.1, h.2⟩⟩
  · rename_i n e cs hd
    exact .inr ⟨#[], cs, rfl, .inr ⟨n, e, hd, h⟩⟩
  · cases h
omit [Nam] in
theorem eqT_key1 {P : Program} {t : TypeId} {a b : AVal} {r : Bool} {d : Nat} (hv : keyV1 P t a = true) (h : keyEq1 a b = some r) : eqT P (d + 1) t a b = some r := by
  unfold keyV1 at hv
  unfold keyEq1 at h
  split at hv
  · rename_i k1 k' n hd
    unfold eqT
    split at h
    · rename_i k2 a2 k3 b3 e1
      obtain ⟨rfl, rfl⟩ := AVal.int.inj e1
      split at h
      · rename_i e
        have e := of_decide_eq_true e
        subst e
        cases h
        rw [hd]
        simp
      · cases h
    · rename_i e1; cases e1
    · rename_i e1; cases e1
    · cases h
  · rename_i s hd
    unfold eqT
    split at h
    · rename_i e1; cases e1
    · rename_i a1 b1 e1
      cases e1
      cases h
      rw [hd]
    · rename_i e1; cases e1
    · cases h
  · rename_i s hd
    unfold eqT
    split at h
    · rename_i e1; cases e1
    · rename_i e1; cases e1
    · rename_i a1 b1 e1
      cases e1
      cases h
      rw [hd]
    · cases h
  · cases hv
omit [Nam] in
theorem keySF_fold {P : Program} {xs ys : List AVal} {d : Nat} : ∀ (fs : List Field) (o : Nat) (cs ds : List AVal) (r : Bool), xs.drop o = cs → ys.drop o = ds → keySF P fs o cs = true → keyEqL cs ds = some r →
    fs.foldr (fun f acc => if f.name = "_" then none else
        match partA P f.type xs f.offset, partA P f.type ys f.offset with
        | some a, some b => match eqT P (d + 1) f.type a b, acc with
          | some r, some r' => some (r && r')
          | _, _ => none
        | _, _ => none) (some true) = some r
  | [], o, cs, ds, r, hx, hy, hk, he => by
    cases cs with
    | cons _ _ => simp [keySF] at hk
    | nil =>
      cases ds with
      | cons _ _ => simp [keyEqL] at he
      | nil => simpa [keyEqL] using he
  | f :: fs, o, cs, ds, r, hx, hy, hk, he => by
    cases cs with
    | nil => simp [keySF] at hk
    | cons c cs =>
      cases ds with
      | nil => simp [keyEqL] at he
      | cons e ds =>
        simp only [keySF, Bool.and_eq_true, bne_iff_ne, ne_eq] at hk
        obtain ⟨h1, h2, h3, h4, h5⟩ := hk
        have ho : f.offset = o := Nat.eq_of_beq_eq_true h2
        have hck : cellKind P f.type = some none := by
          cases e1 : cellKind P f.type with
          | none => rw [e1] at h3; cases h3
          | some x =>
            cases x with
            | none => rfl
            | some n => rw [e1] at h3; cases h3
        have gx : xs[o]? = some c := by
          have := congrArg (fun l : List AVal => l[0]?) hx
          simpa using this
        have gy : ys[o]? = some e := by
          have := congrArg (fun l : List AVal => l[0]?) hy
          simpa using this
        have dx : xs.drop (o + 1) = cs := by rw [← List.drop_drop, hx]; rfl
        have dy : ys.drop (o + 1) = ds := by rw [← List.drop_drop, hy]; rfl
        simp only [keyEqL] at he
        cases e1 : keyEq1 c e with
        | none => rw [e1] at he; cases he
        | some r1 =>
          rw [e1] at he
          simp only at he
          cases e2 : keyEqL cs ds with
          | none => rw [e2] at he; cases he
          | some r2 =>
            rw [e2] at he
            have ih := keySF_fold (d := d) fs (o + 1) cs ds r2 dx dy h5 e2
            rw [List.foldr_cons, ih, if_neg h1]
            have px : partA P f.type xs f.offset = some c := by unfold partA; rw [hck, ho]; exact gx
            have py : partA P f.type ys f.offset = some e := by unfold partA; rw [hck, ho]; exact gy
            rw [px, py]
            simp only [eqT_key1 h4 e1]
            exact he
omit [Nam] in
theorem eq_scalar {κ : Ghost} {a b : AVal} {u v : Value} (h : keyEq1 a b = some true) (ha : RelV κ a u) (hb : RelV κ b v) : v = u := by
  unfold keyEq1 at h
  split at h
  · cases ha; cases hb
    split at h
    · rename_i e
      have e := of_decide_eq_true e
      subst e
      simp only [Option.some.injEq] at h
      rw [eq_of_beq h]
    · cases h
  · cases ha; cases hb
    simp only [Option.some.injEq] at h
    rw [strEq_iff] at h
    rw [(bytes_beq _ _).1 h]
  · cases ha; cases hb
    simp only [Option.some.injEq] at h
    rw [eq_of_beq h]
  · cases h
omit [Nam] in
theorem eq_scalars {κ : Ghost} : ∀ {as bs : List AVal} {us vs : List Value}, keyEqL as bs = some true → RelVs κ as us → RelVs κ bs vs → vs = us
  | [], [], _, _, _, .nil, .nil => rfl
  | [], _ :: _, _, _, h, _, _ => by simp [keyEqL] at h
  | _ :: _, [], _, _, h, _, _ => by simp [keyEqL] at h
  | a :: as, b :: bs, _, _, h, .cons ha hs, .cons hb ht => by
    simp only [keyEqL] at h
    cases e1 : keyEq1 a b with
    | none => rw [e1] at h; cases h
    | some r1 =>
      rw [e1] at h
      simp only at h
      cases e2 : keyEqL as bs with
      | none => rw [e2] at h; cases h
      | some r2 =>
        rw [e2] at h
        simp only [Option.some.injEq, Bool.and_eq_true] at h
        obtain ⟨rfl, rfl⟩ := h
        rw [eq_scalar e1 ha hb, eq_scalars e2 hs ht]
omit [Nam] in
theorem keyAr_inv {P : Program} {e : TypeId} {n : Nat} {cs : List AVal} (h : keyAr P e n cs = true) : cellKind P e = some none ∧ P.cellsOf e = 1 ∧ (∃ i, P.info? e = some i) ∧ cs.length = n ∧ ∀ c ∈ cs, keyV1 P e c = true := by
  unfold keyAr at h
  simp only [Bool.and_eq_true] at h
  obtain ⟨h1, h2, h3, h4, h5⟩ := h
  refine ⟨?_, Nat.eq_of_beq_eq_true h2, Option.isSome_iff_exists.1 h3, Nat.eq_of_beq_eq_true h4, fun c hc => List.all_eq_true.1 h5 c hc⟩
  cases e1 : cellKind P e with
  | none => rw [e1] at h1; cases h1
  | some x =>
    cases x with
    | none => rfl
    | some n => rw [e1] at h1; cases h1
omit [Nam] in
theorem keyA_fold {P : Program} {e : TypeId} {xs ys : List AVal} {d : Nat} (hck : cellKind P e = some none) (hc1 : P.cellsOf e = 1) : ∀ (m o : Nat) (cs ds : List AVal) (r : Bool), xs.drop o = cs → ys.drop o = ds → cs.length = m → (∀ c ∈ cs, keyV1 P e c = true) → keyEqL cs ds = some r →
    (List.range' o m).foldr (fun i acc =>
        match partA P e xs (i * P.cellsOf e), partA P e ys (i * P.cellsOf e) with
        | some a, some b => match eqT P (d + 1) e a b, acc with
          | some r, some r' => some (r && r')
          | _, _ => none
        | _, _ => none) (some true) = some r
  | 0, o, cs, ds, r, hx, hy, hl, hk, he => by
    obtain rfl := List.length_eq_zero_iff.1 hl
    cases ds with
    | cons _ _ => simp [keyEqL] at he
    | nil => simpa [keyEqL] using he
  | m + 1, o, cs, ds, r, hx, hy, hl, hk, he => by
    cases cs with
    | nil => simp at hl
    | cons c cs =>
      cases ds with
      | nil => simp [keyEqL] at he
      | cons b ds =>
        have gx : xs[o]? = some c := by
          have := congrArg (fun l : List AVal => l[0]?) hx
          simpa using this
        have gy : ys[o]? = some b := by
          have := congrArg (fun l : List AVal => l[0]?) hy
          simpa using this
        have dx : xs.drop (o + 1) = cs := by rw [← List.drop_drop, hx]; rfl
        have dy : ys.drop (o + 1) = ds := by rw [← List.drop_drop, hy]; rfl
        simp only [keyEqL] at he
        cases e1 : keyEq1 c b with
        | none => rw [e1] at he; cases he
        | some r1 =>
          rw [e1] at he
          simp only at he
          cases e2 : keyEqL cs ds with
          | none => rw [e2] at he; cases he
          | some r2 =>
            rw [e2] at he
            have ih := keyA_fold (d := d) hck hc1 m (o + 1) cs ds r2 dx dy (by simpa using hl) (fun c hc => hk c (List.mem_cons_of_mem _ hc)) e2
            rw [List.range'_succ, List.foldr_cons, ih, hc1, Nat.mul_one]
            have px : partA P e xs o = some c := by unfold partA; rw [hck]; exact gx
            have py : partA P e ys o = some b := by unfold partA; rw [hck]; exact gy
            rw [px, py]
            simp only [eqT_key1 (hk c List.mem_cons_self) e1]
            exact he
def FK (P : Program) (kt : TypeId) (u : Value) (es : List MapEntry) (r : Option (Nat × Value)) : Prop := ∀ w, (Instr.findKey kt u es).run P w = .ok r w
omit [Nam] in
theorem findS_ok {κ : Ghost} {cs : List AVal} {us : List Value} {P : Program} {kt : TypeId} (hT : ∀ ds b, keyEqL cs ds = some b → eqT P 8 kt (.agg cs) (.agg ds) = some b) (hk : RelVs κ cs us) (h1 : ∀ x ∈ us, x.oneCell' = true) :
    ∀ {l : List (AVal × AVal)} {es : List MapEntry} {i : Nat} {r : Option (Nat × AVal)}, RelEs κ l es → findM (.agg cs) l i = some r →
      (r = none ∧ ∀ w, (Instr.findAsking kt (.agg us.toArray) es i).run P w = .ok none w) ∨
        ∃ j e av, r = some (i + j, av) ∧ es[j]? = some e ∧ e.key = .agg us.toArray ∧ RelV κ av e.val ∧ ∀ w, (Instr.findAsking kt (.agg us.toArray) es i).run P w = .ok (some (i + j, e.val)) w
  | _, _, i, r, .nil, h => by
    simp only [findM, Option.some.injEq] at h
    exact .inl ⟨h.symm, fun w => rfl⟩
  | (k', v) :: l, e :: es, i, r, .cons hk' hv' hs, h => by
    simp only [findM] at h
    cases k' with
    | agg ds =>
      have hke : keyEq (.agg cs) (.agg ds) = keyEqL cs ds := rfl
      rw [hke] at h
      obtain ⟨vs, ev, hvs, h1v⟩ := RelV.agg_inv hk'
      have heq : ∀ b, keyEqL cs ds = some b → ∀ w, (Op.equal kt (.agg us.toArray) e.key).run P w = .ok b w := fun b hb w => by
        have := eqT_ok (P := P) (κ := κ) 8 kt (.agg cs) (.agg ds) b (.agg us.toArray) e.key (hT ds b hb) (.agg h1 hk) hk' 9992 w
        simpa [Op.equal, Op.maxDepth] using this
      split at h
      · rename_i hq
        cases h
        refine .inr ⟨0, e, v, rfl, rfl, ?_, hv', fun w => ?_⟩
        · rw [ev, eq_scalars hq hk hvs]
        · simp [Instr.findAsking, Sem.run_bind, heq _ hq w, Result.andThen]
      · rename_i hq
        rcases findS_ok hT hk h1 hs h with ⟨h2, h3⟩ | ⟨j, e', av, h2, h3, h4, h5, h6⟩
        · refine .inl ⟨h2, fun w => ?_⟩
          simp [Instr.findAsking, Sem.run_bind, heq _ hq w, Result.andThen, h3]
        · refine .inr ⟨j + 1, e', av, ?_, h3, h4, h5, fun w => ?_⟩
          · rw [h2]; congr 2; omega
          · simp only [Instr.findAsking, Sem.run_bind, heq _ hq w, Result.andThen_ok, h6, Bool.false_eq_true, if_false]
            congr 3
            omega
      · cases h
    | _ => simp [keyEq] at h
omit [Nam] in
theorem findM_ok {κ : Ghost} {k : AVal} {u : Value} {P : Program} {kt : TypeId} (hv : keyV P kt k = true) (hk : RelV κ k u) {l : List (AVal × AVal)} {es : List MapEntry} {r : Option (Nat × AVal)} (hr : RelEs κ l es) (h : findM k l 0 = some r) :
    (r = none ∧ FK P kt u es none) ∨ ∃ j e av, r = some (j, av) ∧ es[j]? = some e ∧ e.key = u ∧ RelV κ av e.val ∧ FK P kt u es (some (j, e.val)) := by
  rcases keyV_split hv with ⟨h1, h2⟩ | ⟨fs, cs, rfl, hsp⟩
  · obtain ⟨d, hd, _⟩ := keyV1_ok h1 hk
    rcases findM1_ok hd h1 h2 hk hr h with ⟨a, b⟩ | ⟨j, e, av, a, b, c, e', f⟩
    · exact .inl ⟨a, fun w => run_findKey hd b⟩
    · rw [Nat.zero_add] at a f
      exact .inr ⟨j, e, av, a, b, c, e', fun w => run_findKey hd f⟩
  · obtain ⟨us, rfl, hus, h1⟩ := RelV.agg_inv hk
    have hT : ∀ ds b, keyEqL cs ds = some b → eqT P 8 kt (.agg cs) (.agg ds) = some b := fun ds b hb => by
      rcases hsp with ⟨hd, hst, hs⟩ | ⟨n, e, hd, ha⟩
      · have := keySF_fold (d := 6) (xs := cs) (ys := ds) fs.toList 0 cs ds b rfl rfl hs hb
        unfold eqT
        rw [hd]
        simp only [hst]
        exact this
      · obtain ⟨a1, a2, ⟨i, a3⟩, a4, a5⟩ := keyAr_inv ha
        have := keyA_fold (d := 6) (xs := cs) (ys := ds) a1 a2 n 0 cs ds b rfl rfl a4 a5 hb
        rw [← List.range_eq_range'] at this
        unfold eqT
        rw [hd]
        simp only [a3]
        exact this
    have conv : ∀ (x : Option (Nat × Value)), (∀ w, (Instr.findAsking kt (.agg us.toArray) es 0).run P w = .ok x w) → FK P kt (.agg us.toArray) es x := fun x hx w => by
      cases es with
      | nil =>
        have := hx w
        simp [Instr.findAsking] at this
        rcases hsp with ⟨hd, _, _⟩ | ⟨n, e, hd, _⟩
        · simp [Instr.findKey, run_underlying hd, Result.andThen, Instr.findNow, this]
        · simp [Instr.findKey, run_underlying hd, Result.andThen, Instr.findNow, this]
      | cons e es =>
        rcases hsp with ⟨hd, _, _⟩ | ⟨n, e', hd, _⟩
        · have e1 : Instr.findNow (.struct fs) (.agg us.toArray) (e :: es) 0 = none := by simp [Instr.findNow, Instr.sameNow]
          simp [Instr.findKey, run_underlying hd, Result.andThen, e1, hx w]
        · have e1 : Instr.findNow (.array n e') (.agg us.toArray) (e :: es) 0 = none := by simp [Instr.findNow, Instr.sameNow]
          simp [Instr.findKey, run_underlying hd, Result.andThen, e1, hx w]
    rcases findS_ok hT hus h1 hr h with ⟨a, b⟩ | ⟨j, e, av, a, b, c, e', f⟩
    · exact .inl ⟨a, conv _ b⟩
    · rw [Nat.zero_add] at a
      simp only [Nat.zero_add] at f
      exact .inr ⟨j, e, av, a, b, c, e', conv _ f⟩
omit [Nam] in
theorem keyV1_part {κ : Ghost} {P : Program} {t : TypeId} {a : AVal} {u : Value} (hv : keyV1 P t a = true) (ha : RelV κ a u) (em : Bool) (n : Nat) (w : World) : (Instr.checkKey em (n + 1) t u).run P w = .ok () w ∧ Instr.sameBits n u u = true := by
  obtain ⟨d, hd, hk, _⟩ := keyV1_ok hv ha
  refine ⟨run_checkKey hd hk em n, ?_⟩
  unfold keyV1 at hv
  split at hv
  · cases ha; cases n <;> simp [Instr.sameBits]
  · cases ha; cases n <;> first | exact (bytes_beq _ _).2 rfl | simp [Instr.sameBits]
  · cases ha; cases n <;> first | exact (bytes_beq _ _).2 rfl | simp [Instr.sameBits]
  · cases hv
omit [Nam] in
theorem keySF_bits {κ : Ghost} {P : Program} : ∀ {fs : List Field} {o : Nat} {cs : List AVal} {us : List Value}, keySF P fs o cs = true → RelVs κ cs us → ∀ n, (us.zip us).all (fun (x, y) => Instr.sameBits n x y) = true
  | [], _, [], _, _, .nil, _ => rfl
  | [], _, _ :: _, _, h, _, _ => by simp [keySF] at h
  | _ :: _, _, [], _, h, _, _ => by simp [keySF] at h
  | f :: fs, o, c :: cs, u :: us, h, .cons hc hs, n => by
    simp only [keySF, Bool.and_eq_true] at h
    have h1 := (keyV1_part h.2.2.2.1 hc true n (default : World)).2
    have h2 := keySF_bits h.2.2.2.2 hs n
    simp only [List.zip_cons_cons, List.all_cons, h1, Bool.true_and]
    exact h2
omit [Nam] in
theorem keyV_ok {κ : Ghost} {a : AVal} {u : Value} {P : Program} {kt : TypeId} (hv : keyV P kt a = true) (ha : RelV κ a u) : (∀ em w, (Instr.checkKey em 10000 kt u).run P w = .ok () w) ∧ Instr.sameBits 10000 u u = true := by
  rcases keyV_split hv with ⟨h1, _⟩ | ⟨fs, cs, rfl, ⟨hd, hst, hs⟩ | ⟨n, e, hd, har⟩⟩
  rotate_left 2
  · obtain ⟨us, rfl, hus, h1⟩ := RelV.agg_inv ha
    obtain ⟨a1, a2, ⟨inf, a3⟩, a4, a5⟩ := keyAr_inv har
    have hsz : inf.size = 1 := by
      unfold Program.cellsOf at a2
      rw [a3] at a2
      exact a2
    refine ⟨fun em w => ?_, ?_⟩
    · rw [show (10000 : Nat) = 9998 + 1 + 1 from rfl, Instr.checkKey]
      simp only [Sem.run_bind, run_underlying hd, Result.andThen_ok]
      rw [Std.Legacy.Range.forIn_eq_forIn_range']
      have main : ∀ (m o : Nat), o + m = n → (do forIn (List.range' o m) PUnit.unit fun i r => do
          Instr.checkKey em (9998 + 1) e (← part e us.toArray (i * (← sizeOf e)))
          pure (ForInStep.yield PUnit.unit) : Sem PUnit).run P w = .ok PUnit.unit w := by
        intro m
        induction m with
        | zero => intro o _; simp
        | succ m ih =>
          intro o ho
          have hoc : o < cs.length := by omega
          have px : partA P e cs (o * 1) = some cs[o] := by unfold partA; rw [a1, Nat.mul_one]; exact List.getElem?_eq_getElem hoc
          obtain ⟨v, hpv, hrv⟩ := partA_ok h1 hus px
          have p2 := (keyV1_part (a5 _ (List.getElem_mem hoc)) hrv em 9998 w).1
          simp only [List.range'_succ, List.forIn_cons, Sem.run_bind, run_sizeOf' a3, hsz, Result.andThen_ok, hpv, p2, Sem.run_pure]
          exact ih (o + 1) (by omega)
      have := main n 0 (by omega)
      simp at this ⊢
      rw [this]
      rfl
    · have hb : ∀ (cs : List AVal) (us : List Value), (∀ c ∈ cs, keyV1 P e c = true) → RelVs κ cs us → (us.zip us).all (fun (x, y) => Instr.sameBits 9999 x y) = true := by
        intro cs
        induction cs with
        | nil => intro us _ h; cases h; rfl
        | cons c cs ih =>
          intro us hk h
          cases h with
          | cons hc hs =>
            have h1 := (keyV1_part (hk c List.mem_cons_self) hc true 9999 (default : World)).2
            have h2 := ih _ (fun c hc => hk c (List.mem_cons_of_mem _ hc)) hs
            simp only [List.zip_cons_cons, List.all_cons, h1, Bool.true_and]
            exact h2
      have := hb cs us a5 hus
      show Instr.sameBits (9999 + 1) (.agg us.toArray) (.agg us.toArray) = true
      simp only [Instr.sameBits, beq_self_eq_true, Bool.true_and]
      simpa using this
  · obtain ⟨d, hd, hk, hb⟩ := keyV1_ok h1 ha
    exact ⟨fun em w => run_checkKey hd hk em 9999, hb⟩
  · obtain ⟨us, rfl, hus, h1⟩ := RelV.agg_inv ha
    refine ⟨fun em w => ?_, ?_⟩
    · rw [show (10000 : Nat) = 9998 + 1 + 1 from rfl, Instr.checkKey]
      simp only [Sem.run_bind, run_underlying hd, Result.andThen_ok]
      rw [← Array.forIn_toList]
      have main : ∀ (L : List Field) (o : Nat) (cs' : List AVal), cs.drop o = cs' → keySF P L o cs' = true → (do forIn L PUnit.unit fun f r => do
          if f.name ≠ "_" then Instr.checkKey em (9998 + 1) f.type (← part f.type us.toArray f.offset)
          pure (ForInStep.yield PUnit.unit) : Sem PUnit).run P w = .ok PUnit.unit w := by
        intro L
        induction L with
        | nil => intro o cs' _ _; simp
        | cons f L ih =>
          intro o cs' hcs hk
          cases cs' with
          | nil => simp [keySF] at hk
          | cons c cs' =>
            simp only [keySF, Bool.and_eq_true, bne_iff_ne, ne_eq] at hk
            obtain ⟨hn, h2, h3, h4, h5⟩ := hk
            have ho : f.offset = o := Nat.eq_of_beq_eq_true h2
            have hck : cellKind P f.type = some none := by
              cases e1 : cellKind P f.type with
              | none => rw [e1] at h3; cases h3
              | some x =>
                cases x with
                | none => rfl
                | some n => rw [e1] at h3; cases h3
            have gx : cs[o]? = some c := by
              have := congrArg (fun l : List AVal => l[0]?) hcs
              simpa using this
            have px : partA P f.type cs f.offset = some c := by unfold partA; rw [hck, ho]; exact gx
            obtain ⟨v, hpv, hrv⟩ := partA_ok h1 hus px
            have p2 := (keyV1_part h4 hrv em 9998 w).1
            simp only [List.forIn_cons, Sem.run_bind, hn, ne_eq, not_false_eq_true, if_true, Result.andThen_ok, hpv, p2, Sem.run_pure]
            exact ih (o + 1) cs' (by rw [← List.drop_drop, hcs]; rfl) h5
      have := main fs.toList 0 cs rfl hs
      simp at this ⊢
      rw [this]
      rfl
    · have := keySF_bits hs hus 9999
      show Instr.sameBits (9999 + 1) (.agg us.toArray) (.agg us.toArray) = true
      simp only [Instr.sameBits, beq_self_eq_true, Bool.true_and]
      simpa using this
section
variable {κ : Ghost} {h : Heap} {w : World} {P : Program}
theorem entsA_ok (H : RelH κ h w) {m : AVal} {u : Value} {l : List (AVal × AVal)} (hm : RelV κ m u) (he : entsA h m = some l) :
    ∃ es : Array MapEntry, RelEs κ l es.toList ∧ ((u = .map none ∧ es = #[]) ∨ ∃ b clock, u = .map (some b) ∧ w.heap[b]? = some (.map es clock)) := by
  unfold entsA at he
  split at he
  · cases hm; cases he
    exact ⟨#[], .nil, .inl ⟨rfl, rfl⟩⟩
  · cases hm
    rename_i r L hL
    split at he
    · rename_i hr
      cases he
      obtain ⟨L2, e1, _, es, clock, h1, h2, _⟩ := H.obj _ _ hr
      rw [hL] at e1; cases e1
      exact ⟨es, h2, .inr ⟨_, clock, rfl, h1⟩⟩
    · rename_i hr
      cases he
      obtain ⟨L2, e1, _, es, clock, _, h1, h2, _⟩ := H.obj _ _ hr
      rw [hL] at e1; cases e1
      exact ⟨es, h2, .inr ⟨_, clock, rfl, h1⟩⟩
    · rename_i hr
      cases he
      obtain ⟨L2, e1, _, es, clock, h1, h2, _⟩ := H.obj _ _ hr
      rw [hL] at e1; cases e1
      exact ⟨es, h2, .inr ⟨_, clock, rfl, h1⟩⟩
    · cases he
  · cases he
theorem lookupA_ok (H : RelH κ h w) {t : TypeId} {m k : AVal} {um uk : Value} {ok : Bool} {K : AVal → Prop} (hm : RelV κ m um) (hk : RelV κ k uk) (hl : lookupA P h t m k ok K) :
    ∃ v av, (Instr.lookup t um uk ok).run P w = .ok v w ∧ RelV κ av v ∧ K av := by
  unfold lookupA at hl
  split at hl
  · rename_i kt et ht
    split at hl
    · rename_i z hz
      obtain ⟨hc, hl⟩ := chk_iff.1 hl
      simp only [Bool.and_eq_true] at hc
      obtain ⟨hv, hst⟩ := hc
      obtain ⟨hck, _⟩ := keyV_ok hv hk
      have ht' : P.underlying t = some (.map kt et) := by
        unfold mapT at ht
        split at ht
        · cases ht; assumption
        · cases ht
      obtain ⟨hz1, hz2, _⟩ := zeroC_some hz
      unfold mapGet at hl
      split at hl
      · rename_i v b hg
        unfold mapGetR at hg
        split at hg
        · rename_i l hl'
          obtain ⟨es, hes, hu⟩ := entsA_ok H hm hl'
          have hfind : ∃ r : Option (Nat × Value), FK P kt uk es.toList r ∧ ((r = none ∧ v = absV z ∧ b = false) ∨ ∃ j u, r = some (j, u) ∧ RelV κ v u ∧ b = true) := by
            split at hg
            · rename_i i v' hf
              cases hg
              rcases findM_ok hv hk hes hf with ⟨h2, _⟩ | ⟨j, e, av, h2, _, _, h5, h6⟩
              · cases h2
              · simp only [Option.some.injEq, Prod.mk.injEq] at h2
                obtain ⟨rfl, rfl⟩ := h2
                exact ⟨_, h6, .inr ⟨_, _, rfl, h5, rfl⟩⟩
            · rename_i hf
              cases hg
              rcases findM_ok hv hk hes hf with ⟨_, h3⟩ | ⟨j, e, av, h2, _⟩
              · exact ⟨_, h3, .inl ⟨rfl, rfl, rfl⟩⟩
              · cases h2
            · cases hg
          obtain ⟨r, hf, hr⟩ := hfind
          have habs : RelV κ (absV z) z := absV_rel κ z
          have fin : ∀ (u : Value) (b' : Bool), (∀ w', (match r with
              | some (_, v) => (pure (v, true) : Sem (Value × Bool))
              | none => do pure (← zeroValue et, false)).run P w' = .ok (u, b') w') →
              (Instr.lookup t um uk ok).run P w = .ok (if ok then .tuple #[u, .bool b'] else u) w := by
            intro u b' hub
            rcases hu with ⟨rfl, rfl⟩ | ⟨b', clock, rfl, hb⟩
            · simp only [Instr.lookup, Sem.run_bind, run_underlying ht', Result.andThen, Sem.run_pure, hck, hf _]
              have := hub w
              cases r with
              | none => simp [hz1] at this ⊢; simp [this]
              | some x => simp at this ⊢; simp [this]
            · simp only [Instr.lookup, Sem.run_bind, run_underlying ht', Result.andThen, Sem.run_pure, Go.MapKept.run_getObj_map hb, hck, hf _]
              have := hub w
              cases r with
              | none => simp [hz1] at this ⊢; simp [this]
              | some x => simp at this ⊢; simp [this]
          rcases hr with ⟨rfl, rfl, rfl⟩ | ⟨j, u, rfl, hvu, rfl⟩
          · have h1 := fin z false (fun w' => by simp [hz1])
            cases ok with
            | true => exact ⟨_, .tuple [absV z, .bool false], h1, .tuple (xs := [z, .bool false]) (.cons habs (.cons (.bool _) .nil)), hl⟩
            | false => exact ⟨_, absV z, h1, habs, hl⟩
          · have h1 := fin u true (fun w' => by simp)
            cases ok with
            | true => exact ⟨_, .tuple [v, .bool true], h1, .tuple (xs := [u, .bool true]) (.cons hvu (.cons (.bool _) .nil)), hl⟩
            | false => exact ⟨_, v, h1, hvu, hl⟩
        · cases hg
      · exact hl.elim
    · exact hl.elim
  · exact hl.elim
omit [Nam] in
theorem relEs_set {l : List (AVal × AVal)} {es : List MapEntry} (hr : RelEs κ l es) {k v : AVal} {uk uv : Value} (hk : RelV κ k uk) (hv : RelV κ v uv) :
    ∀ i, RelEs κ (l.set i (k, v)) (es.modify i fun e => { e with key := uk, val := uv }) := by
  induction hr with
  | nil => intro i; cases i <;> exact .nil
  | cons hk' hv' hs ih =>
    intro i
    cases i with
    | zero => exact .cons hk hv hs
    | succ i => exact .cons hk' hv' (ih i)
omit [Nam] in
theorem relEs_push {l : List (AVal × AVal)} {es : List MapEntry} (hr : RelEs κ l es) {k v : AVal} {e : MapEntry} (hk : RelV κ k e.key) (hv : RelV κ v e.val) : RelEs κ (l ++ [(k, v)]) (es ++ [e]) := by
  induction hr with
  | nil => exact .cons hk hv .nil
  | cons hk' hv' hs ih => exact .cons hk' hv' ih
omit [Nam] in
theorem born_modify (es : List MapEntry) (i : Nat) (uk uv : Value) : (es.modify i fun e => { e with key := uk, val := uv }).map (·.born) = es.map (·.born) := by
  induction es generalizing i with
  | nil => cases i <;> rfl
  | cons e es ih => cases i with
    | zero => rfl
    | succ i => simp [ih]
theorem mapUpdateA_ok (H : RelH κ h w) {t : TypeId} {m k v : AVal} {um uk uv : Value} {K : Heap → Prop} (hm : RelV κ m um) (hk : RelV κ k uk) (hv : RelV κ v uv) (hl : mapUpdateA P h t m k v K) :
    ∃ w' h', (Instr.mapUpdate t um uk uv).run P w = .ok () w' ∧ RelH κ h' w' ∧ K h' := by
  unfold mapUpdateA at hl
  split at hl
  · rename_i kt et ht
    obtain ⟨hkv, hl⟩ := chk_iff.1 hl
    obtain ⟨hck, hbits⟩ := keyV_ok hkv hk
    have ht' : P.underlying t = some (.map kt et) := by
      unfold mapT at ht
      split at ht
      · cases ht; assumption
      · cases ht
    unfold mapPut at hl
    split at hl
    · rename_i h' hp
      unfold mapPutR at hp
      split at hp
      · rename_i r
        split at hp
        · rename_i l hr
          split at hp
          · rename_i l' hput
            cases hp
            cases hm
            rename_i L hL
            obtain ⟨L2, e1, _, es, clock, h1, h2, h3, h4⟩ := H.obj _ _ hr
            rw [hL] at e1; cases e1
            have hlt : L.b < w.heap.size := (Array.getElem?_eq_some_iff.1 h1).1
            have write : ∀ (es' : Array MapEntry) (clock' : Nat), RelEs κ l' es'.toList → (∀ e ∈ es'.toList, e.born < clock') → es'.toList.Pairwise (fun a b => a.born ≠ b.born) →
                RelH κ (h.set r (.map l')) { w with heap := w.heap.setIfInBounds L.b (.map es' clock') } := by
              intro es' clock' a b c
              refine H.write hr rfl hL (fun b' hb' => ?_) rfl rfl rfl (Nat.le_refl _) ⟨es', clock', ?_, a, b, c⟩
              · simp only [Array.getElem?_setIfInBounds]
                rw [if_neg (Ne.symm hb')]
              · simp [hlt]
            unfold putM at hput
            split at hput
            · rename_i i av hf
              cases hput
              rcases findM_ok hkv hk h2 hf with ⟨e, _⟩ | ⟨j, e, av', e1, e2, e3, _, e5⟩
              · cases e
              · simp only [Option.some.injEq, Prod.mk.injEq] at e1
                obtain ⟨rfl, rfl⟩ := e1
                have e2' : es[i]? = some e := by simpa using e2
                refine ⟨_, _, ?_, write (es.modify i fun e => { e with key := uk, val := uv }) clock ?_ ?_ ?_, hl⟩
                · simp only [Instr.mapUpdate, Sem.run_bind, run_underlying ht', Result.andThen, Go.MapKept.run_getObj_map h1, hck, e5 _, e2', Option.map_some, Option.getD_some, e3, Instr.keyThatStays, hbits, if_true, Sem.run_pure]
                  exact Go.MapKept.run_setObj_map _ h1
                · rw [Array.toList_modify]; exact relEs_set h2 hk hv i
                · intro x hx
                  have : x.born ∈ es.toList.map (·.born) := by
                    rw [← born_modify es.toList i uk uv]
                    rw [Array.toList_modify] at hx
                    exact List.mem_map_of_mem hx
                  obtain ⟨y, hy, hyx⟩ := List.mem_map.1 this
                  rw [← hyx]
                  exact h3 y hy
                · have := (List.pairwise_map (f := fun e : MapEntry => e.born) (R := fun a b => a ≠ b)).2 h4
                  rw [← born_modify es.toList i uk uv, ← Array.toList_modify] at this
                  exact List.pairwise_map.1 this
            · rename_i hf
              cases hput
              rcases findM_ok hkv hk h2 hf with ⟨_, e5⟩ | ⟨j, e, av', e1, _⟩
              · refine ⟨_, _, ?_, write (es.push { key := uk, val := uv, born := clock }) (clock + 1) ?_ ?_ ?_, hl⟩
                · simp only [Instr.mapUpdate, Sem.run_bind, run_underlying ht', Result.andThen, Go.MapKept.run_getObj_map h1, hck, e5 _]
                  exact Go.MapKept.run_setObj_map _ h1
                · rw [Array.toList_push]; exact relEs_push h2 hk hv
                · intro x hx
                  rw [Array.toList_push] at hx
                  rcases List.mem_append.1 hx with hx | hx
                  · exact Nat.lt_succ_of_lt (h3 x hx)
                  · simp at hx; subst hx; exact Nat.lt_succ_self _
                · rw [Array.toList_push]
                  refine List.pairwise_append.2 ⟨h4, by simp, ?_⟩
                  intro a ha b hb
                  simp at hb; subst hb
                  exact Nat.ne_of_lt (h3 a ha)
              · cases e1
            · cases hput
          · cases hp
        · cases hp
      · cases hp
    · exact hl.elim
  · exact hl.elim
def mapEnt (z : AVal) (h : Heap) (m k : AVal) (K : AVal → Int → Heap → Prop) : Prop :=
  match m with
  | .mapr r => match h r with
    | some (.map l) => match findM k l 0 with
      | some (some (i, v)) => ∀ b : Int, K v b (h.set r (.mapS (l.set i (k, v)) i b))
      | some none => ∀ b : Int, K z b (h.set r (.mapS (l ++ [(k, z)]) l.length b))
      | none => False
    | _ => False
  | _ => False
def mapEntryA (P : Program) (h : Heap) (t : TypeId) (m k : AVal) (K : AVal → Heap → Prop) : Prop :=
  match mapT P t with
  | some (kt, et) => match zeroC P et with
    | some z => chkH (keyV P kt k && storable (absV z)) (mapEnt (absV z) h m k fun v b h' => K (.tuple [v, .int .i64 b]) h')
    | none => False
  | none => False
def entSt (h : Heap) (m : AVal) (s : Int) (x : AVal) (K : Heap → Prop) : Prop :=
  match m with
  | .mapr r => match h r with
    | some (.mapS l i b) => s = b ∧ match l[i]? with
      | some kv => K (h.set r (.map (l.set i (kv.1, x))))
      | none => False
    | _ => False
  | _ => False
def entryStoreA (h : Heap) (m s x : AVal) (K : Heap → Prop) : Prop :=
  match s with
  | .int .i64 b => entSt h m b x K
  | _ => False
omit [Nam] in
theorem born_key (es : List MapEntry) (i : Nat) (uk : Value) : (es.modify i fun e => { e with key := uk }).map (·.born) = es.map (·.born) := by
  induction es generalizing i with
  | nil => cases i <;> rfl
  | cons e es ih => cases i with
    | zero => rfl
    | succ i => simp [ih]
omit [Nam] in
theorem born_val (es : List MapEntry) (i : Nat) (uv : Value) : (es.modify i fun e => { e with val := uv }).map (·.born) = es.map (·.born) := by
  induction es generalizing i with
  | nil => cases i <;> rfl
  | cons e es ih => cases i with
    | zero => rfl
    | succ i => simp [ih]
omit [Nam] in
theorem born_lt {es es' : List MapEntry} {c : Nat} (he : es'.map (·.born) = es.map (·.born)) (h : ∀ e ∈ es, e.born < c) : ∀ e ∈ es', e.born < c := fun x hx => by
  have : x.born ∈ es.map (·.born) := by rw [← he]; exact List.mem_map_of_mem hx
  obtain ⟨y, hy, hyx⟩ := List.mem_map.1 this
  rw [← hyx]
  exact h y hy
omit [Nam] in
theorem born_ne {es es' : List MapEntry} (he : es'.map (·.born) = es.map (·.born)) (h : es.Pairwise (fun a b => a.born ≠ b.born)) : es'.Pairwise (fun a b => a.born ≠ b.born) := by
  have := (List.pairwise_map (f := fun e : MapEntry => e.born) (R := fun a b => a ≠ b)).2 h
  rw [← he] at this
  exact List.pairwise_map.1 this
omit [Nam] in
theorem relEs_setK {l : List (AVal × AVal)} {es : List MapEntry} (hr : RelEs κ l es) {k v : AVal} {uk : Value} (hk : RelV κ k uk) :
    ∀ (i : Nat) (e : MapEntry), es[i]? = some e → RelV κ v e.val → RelEs κ (l.set i (k, v)) (es.modify i fun e => { e with key := uk }) := by
  induction hr with
  | nil => intro i; cases i <;> exact fun _ _ _ => .nil
  | cons hk' hv' hs ih =>
    intro i e he hv
    cases i with
    | zero =>
      cases he
      exact .cons hk hv hs
    | succ i => exact .cons hk' hv' (ih i e he hv)
omit [Nam] in
theorem relEs_setV {l : List (AVal × AVal)} {es : List MapEntry} (hr : RelEs κ l es) {x : AVal} {ux : Value} (hx : RelV κ x ux) :
    ∀ (i : Nat) (kv : AVal × AVal), l[i]? = some kv → RelEs κ (l.set i (kv.1, x)) (es.modify i fun e => { e with val := ux }) := by
  induction hr with
  | nil => intro i kv h; simp at h
  | cons hk' hv' hs ih =>
    intro i kv h
    cases i with
    | zero =>
      cases h
      exact .cons hk' hx hs
    | succ i => exact .cons hk' hv' (ih i kv h)
omit [Nam] in
theorem relEs_len {l : List (AVal × AVal)} {es : List MapEntry} (h : RelEs κ l es) : es.length = l.length := by
  induction h with
  | nil => rfl
  | cons _ _ _ ih => simp [ih]
theorem mapEntryA_ok (H : RelH κ h w) {t : TypeId} {m k : AVal} {um uk : Value} {K : AVal → Heap → Prop} (hm : RelV κ m um) (hk : RelV κ k uk) (hl : mapEntryA P h t m k K) :
    ∃ v av w' h', (Instr.mapEntry t um uk).run P w = .ok v w' ∧ RelV κ av v ∧ RelH κ h' w' ∧ K av h' := by
  unfold mapEntryA at hl
  split at hl
  · rename_i kt et ht
    split at hl
    · rename_i z hz
      have hc := (chk_iff.1 hl).1
      replace hl := (chk_iff.1 hl).2
      simp only [Bool.and_eq_true] at hc
      obtain ⟨hkv, hst⟩ := hc
      obtain ⟨hck, hbits⟩ := keyV_ok hkv hk
      obtain ⟨hz1, hz2, _⟩ := zeroC_some hz
      have habs : RelV κ (absV z) z := absV_rel κ z
      have ht' : P.underlying t = some (.map kt et) := by
        unfold mapT at ht
        split at ht
        · cases ht; assumption
        · cases ht
      unfold mapEnt at hl
      split at hl
      · rename_i r
        split at hl
        · rename_i l hr
          cases hm
          rename_i L hL
          obtain ⟨L2, e1, _, es, clock, h1, h2, h3, h4⟩ := H.obj _ _ hr
          rw [hL] at e1; cases e1
          have hlt : L.b < w.heap.size := (Array.getElem?_eq_some_iff.1 h1).1
          have write : ∀ (l' : List (AVal × AVal)) (i : Nat) (b : Int) (es' : Array MapEntry) (clock' : Nat), RelEs κ l' es'.toList → (∀ e ∈ es'.toList, e.born < clock') → es'.toList.Pairwise (fun a b => a.born ≠ b.born) → (∃ e, es'[i]? = some e ∧ (e.born : Int) = b) →
              RelH κ (h.set r (.mapS l' i b)) { w with heap := w.heap.setIfInBounds L.b (.map es' clock') } := by
            intro l' i b es' clock' a c d e
            refine H.write hr rfl hL (fun b' hb' => ?_) rfl rfl rfl (Nat.le_refl _) (o' := .mapS l' i b) ⟨es', clock', ?_, a, c, d, e⟩
            · simp only [Array.getElem?_setIfInBounds]
              rw [if_neg (Ne.symm hb')]
            · simp [hlt]
          split at hl
          · rename_i i av hf
            rcases findM_ok hkv hk h2 hf with ⟨e, _⟩ | ⟨j, e, av', e1, e2, e3, e4, e5⟩
            · cases e
            · simp only [Option.some.injEq, Prod.mk.injEq] at e1
              obtain ⟨rfl, rfl⟩ := e1
              have e2' : es[i]? = some e := by simpa using e2
              have hm := born_key es.toList i uk
              refine ⟨_, _, _, _, ?_, .tuple (xs := [e.val, .int .i64 (e.born : Int)]) (.cons e4 (.cons (.int _ _) .nil)), write _ i (e.born : Int) (es.modify i fun e => { e with key := uk }) clock ?_ ?_ ?_ ⟨{ e with key := uk }, ?_, rfl⟩, hl _⟩
              · simp only [Instr.mapEntry, Sem.run_bind, run_underlying ht', Result.andThen, Go.MapKept.run_getObj_map h1, hck, e5 _, e2', Option.map_some, Option.getD_some, e3, Instr.keyThatStays, hbits, if_true, Sem.run_pure, goInt]
                rw [Go.MapKept.run_setObj_map _ h1]
              · rw [Array.toList_modify]; exact relEs_setK h2 hk i e e2 e4
              · rw [Array.toList_modify]; exact born_lt hm h3
              · rw [Array.toList_modify]; exact born_ne hm h4
              · rw [Array.getElem?_modify, if_pos rfl, e2']
                rfl
          · rename_i hf
            rcases findM_ok hkv hk h2 hf with ⟨_, e5⟩ | ⟨j, e, av', e1, _⟩
            · have hlen : l.length = es.size := by rw [← relEs_len h2]; simp
              refine ⟨_, _, _, _, ?_, .tuple (xs := [z, .int .i64 (clock : Int)]) (.cons habs (.cons (.int _ _) .nil)), write _ l.length (clock : Int) (es.push { key := uk, val := z, born := clock }) (clock + 1) ?_ ?_ ?_ ⟨{ key := uk, val := z, born := clock }, ?_, rfl⟩, hl _⟩
              · simp only [Instr.mapEntry, Sem.run_bind, run_underlying ht', Result.andThen, Go.MapKept.run_getObj_map h1, hck, e5 _, hz1, goInt]
                rw [Go.MapKept.run_setObj_map _ h1]
                rfl
              · rw [Array.toList_push]; exact relEs_push h2 hk habs
              · intro x hx
                rw [Array.toList_push] at hx
                rcases List.mem_append.1 hx with hx | hx
                · exact Nat.lt_succ_of_lt (h3 x hx)
                · simp at hx; subst hx; exact Nat.lt_succ_self _
              · rw [Array.toList_push]
                refine List.pairwise_append.2 ⟨h4, by simp, ?_⟩
                intro a ha b hb
                simp at hb; subst hb
                exact Nat.ne_of_lt (h3 a ha)
              · rw [hlen]
                simp
            · cases e1
          · exact hl.elim
        · exact hl.elim
      · exact hl.elim
    · exact hl.elim
  · exact hl.elim
theorem entryStoreA_ok (H : RelH κ h w) {t : TypeId} {m s x : AVal} {um us ux : Value} {K : Heap → Prop} (hm : RelV κ m um) (hs : RelV κ s us) (hx : RelV κ x ux) (hl : entryStoreA h m s x K) :
    ∃ w' h', (Instr.entryStore t um us ux).run P w = .ok () w' ∧ RelH κ h' w' ∧ K h' := by
  unfold entryStoreA at hl
  split at hl
  · rename_i b0
    cases hs
    unfold entSt at hl
    split at hl
    · rename_i r
      split at hl
      · rename_i l i b hr
        have hbb := hl.1
        replace hl := hl.2
        subst hbb
        split at hl
        · rename_i kv hkv
          cases hm
          rename_i L hL
          obtain ⟨L2, e1, _, es, clock, h1, h2, h3, h4, e, he, hb⟩ := H.obj _ _ hr
          rw [hL] at e1; cases e1
          have hlt : L.b < w.heap.size := (Array.getElem?_eq_some_iff.1 h1).1
          have hfind : es.findIdx? (fun e => (e.born : Int) == b0) = some i := by
            rw [Array.findIdx?_eq_some_iff_getElem]
            obtain ⟨hil, hie⟩ := Array.getElem?_eq_some_iff.1 he
            refine ⟨hil, by rw [hie]; simpa using hb, fun j hj => ?_⟩
            have hjl : j < es.size := by omega
            have := List.pairwise_iff_getElem.1 h4 j i (by simpa using hjl) (by simpa using hil) hj
            simp only [Array.getElem_toList] at this
            rw [hie] at this
            simp only [beq_iff_eq]
            omega
          have hmb := born_val es.toList i ux
          refine ⟨{ w with heap := w.heap.setIfInBounds L.b (.map (es.modify i fun e => { e with val := ux }) clock) }, _, ?_, H.write hr rfl hL (fun b' hb' => ?_) rfl rfl rfl (Nat.le_refl _) (o' := .map (l.set i (kv.1, x))) ⟨es.modify i fun e => { e with val := ux }, clock, ?_, ?_, ?_, ?_⟩, hl⟩
          · simp only [Instr.entryStore, Sem.run_bind, Result.andThen, Go.MapKept.run_getObj_map h1, asInt, asIntOf, Sem.run_pure, hfind]
            exact Go.MapKept.run_setObj_map _ h1
          · simp only [Array.getElem?_setIfInBounds]
            rw [if_neg (Ne.symm hb')]
          · simp [hlt]
          · rw [Array.toList_modify]; exact relEs_setV h2 hx i kv hkv
          · rw [Array.toList_modify]; exact born_lt hmb h3
          · rw [Array.toList_modify]; exact born_ne hmb h4
        · exact hl.elim
      · exact hl.elim
    · exact hl.elim
  · exact hl.elim
theorem makeMapA_ok (H : RelH κ h w) {t : TypeId} {hint : Option AVal} {uh : Option Value} {K : AVal → Heap → Prop} (hh : ∀ a u, hint = some a → uh = some u → RelV κ a u) (hn : hint.isSome = uh.isSome)
    (hk : makeMapA P h t hint K) : MOK P κ w (Instr.makeMap t uh) K := by
  unfold makeMapA at hk
  obtain ⟨hm, hk⟩ := chk_iff.1 hk
  obtain ⟨⟨kt, et⟩, ht⟩ := Option.isSome_iff_exists.1 hm
  have ht' : P.underlying t = some (.map kt et) := by
    unfold mapT at ht
    split at ht
    · cases ht; assumption
    · cases ht
  have fin : (Instr.makeMap t uh).run P w = .ok (.map (some w.heap.size)) (w.alloc (.map #[] 0)) → newMap h (fun r h' => K (.mapr r) h') → MOK P κ w (Instr.makeMap t uh) K := by
    intro hrun hk
    have le := Ghost.le_addLoc (H.fin _ (Nat.le_refl _)) ⟨w.heap.size, 0, 1, 0⟩
    have H' := H.alloc_loc (.map #[] 0) (.map []) 1 0 ⟨#[], 0, heap_alloc_new w _, .nil, by simp, by simp⟩
    exact ⟨_, _, _, .mapr κ.nref, _, hrun, le, H', .mapr (L := ⟨w.heap.size, 0, 1, 0⟩) (Ghost.addLoc_same _), hk _ H.nref_none H.nam⟩
  split at hk
  · cases uh with
    | none => exact fin rfl hk
    | some _ => cases hn
  · cases uh with
    | none => cases hn
    | some u =>
      have := hh _ _ rfl rfl
      cases this
      exact fin (by simp [Instr.makeMap, run_underlying ht', asInt, Result.andThen]; rfl) hk
  · exact hk.elim
def lenMR (h : Heap) (m : AVal) : Option Int :=
  match entsA h m with
  | some l => some l.length
  | none => none
def lenM (h : Heap) (m : AVal) (K : Int → Prop) : Prop :=
  match lenMR h m with
  | some n => K n
  | none => False
def lenMapA (P : Program) (h : Heap) (t : TypeId) (m : AVal) (K : AVal → Prop) : Prop :=
  chkH (mapT P t).isSome (lenM h m fun n => K (.int .i64 n))
omit [Nam] in
theorem RelEs.length {l : List (AVal × AVal)} {es : List MapEntry} (h : RelEs κ l es) : es.length = l.length := by
  induction h with
  | nil => rfl
  | cons _ _ _ ih => simp [ih]
theorem lenMapA_ok (H : RelH κ h w) {t ty : TypeId} {m : AVal} {um : Value} {K : AVal → Prop} (hm : RelV κ m um) (hl : lenMapA P h t m K) :
    ∃ v av, (Builtin.len_ #[t] ty #[um]).run P w = .ok v w ∧ RelV κ av v ∧ K av := by
  unfold lenMapA at hl
  obtain ⟨hm', hl⟩ := chk_iff.1 hl
  obtain ⟨⟨kt, et⟩, ht⟩ := Option.isSome_iff_exists.1 hm'
  have ht' : P.underlying t = some (.map kt et) := by
    unfold mapT at ht
    split at ht
    · cases ht; assumption
    · cases ht
  unfold lenM at hl
  split at hl
  · rename_i n hn
    unfold lenMR at hn
    split at hn
    · rename_i l he
      cases hn
      obtain ⟨es, hes, hu⟩ := entsA_ok H hm he
      have hlen := hes.length
      refine ⟨.int .i64 l.length, _, ?_, .int _ _, hl⟩
      rcases hu with ⟨rfl, rfl⟩ | ⟨b, clock, rfl, hb⟩
      · have : l.length = 0 := by simpa using hlen.symm
        simp [Builtin.len_, run_underlying ht', goInt, Result.andThen, this]
      · have : es.size = l.length := by simpa using hlen
        simp [Builtin.len_, run_underlying ht', goInt, Result.andThen, Go.MapKept.run_getObj_map hb, this]
    · cases hn
  · exact hl.elim
def bytesOf : List AVal → Option (List Int)
  | [] => some []
  | .int .u8 n :: l => match bytesOf l with
    | some ns => some (n :: ns)
    | none => none
  | _ => none
def strBs (ns : List Int) : ByteArray := ns.foldl (fun r n => r.push (UInt8.ofNat n.toNat)) ByteArray.empty
def bStrR (h : Heap) (x : AVal) : Option ByteArray :=
  match elemsA 1 h x with
  | some l => match bytesOf l with
    | some ns => some (strBs ns)
    | none => none
  | none => none
def bStr (h : Heap) (x : AVal) (K : ByteArray → Prop) : Prop :=
  match bStrR h x with
  | some s => K s
  | none => False
def bytesT' (P : Program) (src dst : TypeId) : Bool :=
  match P.underlying src, P.underlying dst with
  | some (.slice e), some .string => match P.underlying e with
    | some (.int .u8) => true
    | _ => false
  | _, _ => false
def bytesStrA (P : Program) (h : Heap) (src dst : TypeId) (x : AVal) (K : AVal → Prop) : Prop :=
  chkH (bytesT' P src dst) (bStr h x fun s => K (.str s))
omit [Nam] in
theorem bytesOf_ok : ∀ {l : List AVal} {ns : List Int} {ys : List Value}, RelEl κ 1 l ys → ys.length = l.length → bytesOf l = some ns → ys = ns.map (Value.int .u8)
  | [], ns, ys, hr, hn, h => by
    cases h
    simpa using hn
  | v :: l, ns, ys, hr, hn, h => by
    cases hr with
    | @cons _ _ _ xs ys hl hc hs =>
      cases v <;> try (simp [bytesOf] at h)
      rename_i k n
      cases k <;> try (simp [bytesOf] at h)
      cases h' : bytesOf l with
      | none => rw [h'] at h; cases h
      | some ns' =>
        rw [h'] at h
        cases h
        have := bytesOf_ok hs (by simp only [List.length_append, List.length_cons] at hn; omega) h'
        subst this
        cases hc with
        | one h1 h2 => cases h2; rfl
theorem bytesStrA_ok (H : RelH κ h w) {src dst : TypeId} {x : AVal} {u : Value} {K : AVal → Prop} (hx : RelV κ x u) (hl : bytesStrA P h src dst x K) :
    ∃ v av, (convert src dst u).run P w = .ok v w ∧ RelV κ av v ∧ K av := by
  unfold bytesStrA at hl
  obtain ⟨ht, hl⟩ := chk_iff.1 hl
  unfold bytesT' at ht
  split at ht
  · rename_i e hs hd
    split at ht
    · rename_i he
      unfold bStr at hl
      split at hl
      · rename_i s hb
        unfold bStrR at hb
        split at hb
        · rename_i l hel
          split at hb
          · rename_i ns hns
            cases hb
            obtain ⟨base, n, cap, ys, rfl, hn, hc, hm, hlen, hrel, h1, hbase⟩ := elemsA_ok H hx hel
            have hys := bytesOf_ok hrel (by omega) hns
            refine ⟨.string (strBs ns), .str (strBs ns), ?_, .str _, hl⟩
            have hconv : (convert src dst (.slice base n cap)).run P w = (Conv.bytesToString (.slice base n cap)).run P w := by
              simp [convert, run_underlying hs, run_underlying hd, run_underlying he, Result.andThen]
            rw [hconv]
            rcases hbase with ⟨rfl, rfl, rfl⟩ | ⟨a, rfl, hcell⟩
            · have : ns = [] := by
                have h2 : ys.length = 0 := by simpa using hlen
                rw [hys] at h2
                simpa using h2
              subst this
              rfl
            · refine run_bytesToString w a n cap ns ?_
              have := run_loadCells_list (P := P) w a ys hcell
              rw [Nat.mul_one] at hlen
              rw [hlen] at this
              rw [this, hys]
          · cases hb
        · cases hb
      · exact hl.elim
    · cases ht
  · cases ht
/- ---------------- a string's bytes: a new row ---------------- -/
def bytesV (s : ByteArray) : List AVal := s.data.toList.map fun b => .int .u8 b.toNat
def strBytesT (P : Program) (src dst : TypeId) : Bool :=
  match P.underlying src, P.underlying dst with
  | some .string, some (.slice e) => match P.underlying e with
    | some (.int .u8) => true
    | _ => false
  | _, _ => false
def sBytes (h : Heap) (x : AVal) (K : AVal → Heap → Prop) : Prop :=
  match x with
  | .str s => s.size ≤ 4611686018427387904 ∧ newRow 1 (bytesV s) h fun r h' => K (.sl r 1 0 s.size) h'
  | _ => False
def strBytesA (P : Program) (h : Heap) (src dst : TypeId) (x : AVal) (K : AVal → Heap → Prop) : Prop :=
  chkH (strBytesT P src dst) (sBytes h x K)
omit [Nam] in
theorem relEl_bytes (cap : Nat) : ∀ (l : List UInt8), RelEl κ 1 (l.map fun b => .int .u8 b.toNat) ((l.map fun b => (Value.int .u8 b.toNat)) ++ List.replicate cap (.int .u8 0))
  | [] => .nil
  | b :: l => .cons (xs := [_]) rfl (.one rfl (.int ..)) (relEl_bytes cap l)
theorem strBytesA_ok (H : RelH κ h w) {src dst : TypeId} {x : AVal} {u : Value} {K : AVal → Heap → Prop} (hx : RelV κ x u) (hk : strBytesA P h src dst x K) : MOK P κ w (convert src dst u) K := by
  obtain ⟨ht, hk2⟩ := chk_iff.1 hk
  clear hk
  have hk := hk2
  clear hk2
  unfold strBytesT at ht
  split at ht
  · rename_i e hs hd
    split at ht
    · rename_i he
      unfold sBytes at hk
      split at hk
      · rename_i s
        cases hx
        obtain ⟨hb, hk⟩ := hk
        have hrun := run_bytes_of_string (P := P) w src dst e s hs hd he
        have hge := grownCap_ge w s.size 0 e
        have hcm := grownCap_le_maxLen w s.size 0 e (by simp only [maxLen]; omega)
        have hC : (bytesRow s (grownCap w s.size 0 e)).toList = (s.data.toList.map fun b => (Value.int .u8 b.toNat)) ++ List.replicate (grownCap w s.size 0 e - s.size) (.int .u8 0) := by
          simp [bytesRow]
        have hsz : (bytesRow s (grownCap w s.size 0 e)).size = grownCap w s.size 0 e * 1 := by
          have := congrArg List.length hC
          simp only [Array.length_toList, List.length_append, List.length_map, List.length_replicate] at this
          rw [this]
          have : s.data.size = s.size := rfl
          omega
        have hone : ∀ c ∈ (bytesRow s (grownCap w s.size 0 e)).toList, c.oneCell' = true := by
          intro c hc
          rw [hC, List.mem_append] at hc
          rcases hc with hc | hc
          · obtain ⟨b, _, rfl⟩ := List.mem_map.1 hc; rfl
          · rw [(List.mem_replicate.1 hc).2]; rfl
        obtain ⟨κ', r, le, hL, H', hk'⟩ := newRow_okF H.drew (e := e) (fz := ((bytesRow s (grownCap w s.size 0 e)).size, (bytesRow s (grownCap w s.size 0 e)).size + 1)) (by decide) hsz
          (.inr (Nat.le_refl _)) (by simp only [bytesV, List.length_map, Array.length_toList]; exact hge) hcm hone (by rw [hC]; exact relEl_bytes _ _) hk
        refine ⟨_, _, _, _, _, hrun, le, H', ?_, hk'⟩
        have := RelV.sl (κ := κ') (off := 0) (len := s.size) (x := 0) hL rfl (by simpa using hge) hcm (.inl (by simp))
        simpa using this
      · exact hk.elim
    · cases ht
  · cases ht
end
end Go.Sym

namespace Go.Sym
open Go Go.MapKept
variable [Nam]
def mapDelR (h : Heap) (m k : AVal) : Option Heap :=
  match m with
  | .nilmap => some h
  | .mapr r => match h r with
    | some (.map l) => match findM k l 0 with
      | some (some (i, _)) => some (h.set r (.map (l.eraseIdx i)))
      | some none => some (h.set r (.map l))
      | none => none
    | _ => none
  | _ => none
def mapDel (h : Heap) (m k : AVal) (K : Heap → Prop) : Prop :=
  match mapDelR h m k with
  | some h' => K h'
  | none => False
def deleteA (P : Program) (h : Heap) (t : TypeId) (m k : AVal) (K : AVal → Heap → Prop) : Prop :=
  match mapT P t with
  | some (kt, _) => chkH (keyV P kt k) (mapDel h m k fun h' => K (.tuple []) h')
  | none => False
def rangeM (h : Heap) (m : AVal) (K : AVal → Heap → Prop) : Prop :=
  match m with
  | .mapr r => match h r with
    | some (.map l) => ∀ q, h q = none → Nam.G (h.set r (.fmap l)) q → K (.iter q) ((h.set r (.fmap l)).set q (.miter l none))
    | some (.fmap l) => ∀ q, h q = none → Nam.G h q → K (.iter q) (h.set q (.miter l none))
    | _ => False
  | _ => False
def rangeA (P : Program) (h : Heap) (t : TypeId) (m : AVal) (K : AVal → Heap → Prop) : Prop :=
  chkH (mapT P t).isSome (rangeM h m K)
def nextM (h : Heap) (it : AVal) (K : AVal → Heap → Prop) : Prop :=
  match it with
  | .iter q => match h q with
    | some (.miter left _) => match left with
      | [] => K (.tuple [.bool false]) h
      | e :: l => ∀ (i : Nat) (kv : AVal × AVal), (e :: l)[i]? = some kv → K (.tuple [.bool true, kv.1, kv.2]) (h.set q (.miter ((e :: l).eraseIdx i) (some kv)))
    | _ => False
  | _ => False
def nextA (h : Heap) (it : AVal) (isStr : Bool) (K : AVal → Heap → Prop) : Prop :=
  match isStr with
  | false => nextM h it K
  | true => False
def entryA (h : Heap) (it : AVal) (K : AVal → Prop) : Prop :=
  match it with
  | .iter q => match h q with
    | some (.miter _ (some kv)) => K (.tuple [kv.1, kv.2])
    | _ => False
  | _ => False
section
variable {κ : Ghost} {h : Heap} {w : World} {P : Program}
omit [Nam] in
theorem find_born (L : List MapEntry) (hp : L.Pairwise (fun a b => a.born ≠ b.born)) : ∀ e ∈ L, L.find? (fun x => x.born == e.born) = some e := by
  induction hp with
  | nil => intro e h; cases h
  | @cons a l ha _ ih =>
    intro e he
    rw [List.find?_cons]
    rcases List.mem_cons.1 he with rfl | h
    · simp
    · rw [show (a.born == e.born) = false by simpa using ha e h]
      exact ih e h
omit [Nam] in
theorem relEs_erase {l : List (AVal × AVal)} {es : List MapEntry} (hr : RelEs κ l es) : ∀ i, RelEs κ (l.eraseIdx i) (es.eraseIdx i) := by
  induction hr with
  | nil => intro i; simp; exact .nil
  | cons hk hv hs ih =>
    intro i
    cases i with
    | zero => exact hs
    | succ i => exact .cons hk hv (ih i)
theorem deleteA_ok (H : RelH κ h w) {t ty : TypeId} {m k : AVal} {um uk : Value} {K : AVal → Heap → Prop} (hm : RelV κ m um) (hk : RelV κ k uk) (ts : Array TypeId) (hts : ts[0]? = some t) (hl : deleteA P h t m k K) :
    MOK P κ w (Builtin.delete_ ts ty #[um, uk]) K := by
  unfold deleteA at hl
  split at hl
  · rename_i kt et ht
    obtain ⟨hkv, hl⟩ := chk_iff.1 hl
    obtain ⟨hck, _⟩ := keyV_ok hkv hk
    have ht' : P.underlying t = some (.map kt et) := by
      unfold mapT at ht
      split at ht
      · cases ht; assumption
      · cases ht
    unfold mapDel at hl
    split at hl
    · rename_i h' hp
      unfold mapDelR at hp
      split at hp
      · cases hp; cases hm
        refine ⟨.tuple #[], w, κ, .tuple [], _, ?_, Ghost.Le.refl κ, H, .tuple (xs := []) .nil, hl⟩
        simp [Builtin.delete_, hts, Sem.run_bind, run_underlying ht', Result.andThen, hck]
      · rename_i r
        cases hm
        rename_i L hL
        split at hp
        · rename_i l hr
          obtain ⟨L2, e1, _, es, clock, h1, h2, h3, h4⟩ := H.obj _ _ hr
          rw [hL] at e1; cases e1
          have hlt : L.b < w.heap.size := (Array.getElem?_eq_some_iff.1 h1).1
          have write : ∀ (l' : List (AVal × AVal)) (es' : Array MapEntry), RelEs κ l' es'.toList → (∀ e ∈ es'.toList, e.born < clock) → es'.toList.Pairwise (fun a b => a.born ≠ b.born) →
              RelH κ (h.set r (.map l')) { w with heap := w.heap.setIfInBounds L.b (.map es' clock) } := by
            intro l' es' a b c
            refine H.write hr rfl hL (fun b' hb' => ?_) rfl rfl rfl (Nat.le_refl _) ⟨es', clock, ?_, a, b, c⟩
            · simp only [Array.getElem?_setIfInBounds]
              rw [if_neg (Ne.symm hb')]
            · simp [hlt]
          split at hp
          · rename_i i av hf
            cases hp
            rcases findM_ok hkv hk h2 hf with ⟨e, _⟩ | ⟨j, e, av', e1, e2, _, _, e5⟩
            · cases e
            · simp only [Option.some.injEq, Prod.mk.injEq] at e1
              obtain ⟨rfl, rfl⟩ := e1
              have hsub : (es.eraseIdxIfInBounds i).toList = es.toList.eraseIdx i := by
                have hi : i < es.size := by
                  have := (List.getElem?_eq_some_iff.1 e2).1
                  simpa using this
                unfold Array.eraseIdxIfInBounds
                rw [dif_pos hi]
                exact Array.toList_eraseIdx ..
              have hsl : (es.eraseIdxIfInBounds i).toList.Sublist es.toList := by rw [hsub]; exact List.eraseIdx_sublist ..
              refine ⟨.tuple #[], _, κ, .tuple [], _, ?_, Ghost.Le.refl κ, write _ (es.eraseIdxIfInBounds i) (by rw [hsub]; exact relEs_erase h2 i) (fun x hx => h3 x (hsl.mem hx)) (h4.sublist hsl), .tuple (xs := []) .nil, hl⟩
              simp only [Builtin.delete_, hts, Sem.run_bind, run_underlying ht', Result.andThen, Go.MapKept.run_getObj_map h1, hck, e5 _, Go.MapKept.run_setObj_map _ h1, Sem.run_pure, List.getElem?_toArray, List.getElem?_cons_zero, List.getElem?_cons_succ]
          · rename_i hf
            cases hp
            rcases findM_ok hkv hk h2 hf with ⟨_, e5⟩ | ⟨j, e, av', e1, _⟩
            · refine ⟨.tuple #[], _, κ, .tuple [], _, ?_, Ghost.Le.refl κ, write _ es h2 h3 h4, .tuple (xs := []) .nil, hl⟩
              simp only [Builtin.delete_, hts, Sem.run_bind, run_underlying ht', Result.andThen, Go.MapKept.run_getObj_map h1, hck, e5 _, Go.MapKept.run_setObj_map _ h1, Sem.run_pure, List.getElem?_toArray, List.getElem?_cons_zero, List.getElem?_cons_succ]
            · cases e1
          · cases hp
        · cases hp
      · cases hp
    · exact hl.elim
  · exact hl.elim
theorem RelH.freezeM (H : RelH κ h w) {r : Nat} {l : List (AVal × AVal)} (hr : h r = some (.map l)) : ∃ κ' : Ghost, κ.Le κ' ∧ RelH κ' (h.set r (.fmap l)) w ∧ κ'.nref = κ.nref := by
  obtain ⟨L, hL, ho, es, clock, h1, h2, h3, h4⟩ := H.obj _ _ hr
  have himm := ho rfl
  have le := Ghost.le_addImm (κ := κ) (.map es clock) himm
  refine ⟨κ.addImm L.b (.map es clock), le, ⟨⟨fun b o e => ?_, fun r' o hr' => ?_, fun a b x y La Lb ha hb hLa hLb hbb => ?_, H.fin, H.os, H.tape, H.output, H.drawn, fun b hb => (H.mks b hb).elim fun o ho => ⟨o, le.imm _ _ ho⟩⟩, Nam.old hr H.nam, Nam.mono le.imm H.glob⟩, rfl⟩
  · simp only [Ghost.addImm] at e
    split at e
    · rename_i e1; cases e; rw [e1]; exact h1
    · exact H.imm b o e
  · simp only [Heap.set] at hr'
    split at hr'
    · rename_i e1
      cases hr'
      subst e1
      exact ⟨L, hL, (fun e => by cases e), es, clock, by simp [Ghost.addImm], h1, h2.mono le, h3, h4⟩
    · rename_i e1
      obtain ⟨L', a, b, c⟩ := H.obj r' o hr'
      refine ⟨L', a, fun e => ?_, c.mono le⟩
      have hne : L'.b ≠ L.b := fun e2 => e1 (H.sep r' r o _ L' L hr' hr a hL e2)
      simp only [Ghost.addImm, if_neg hne]
      exact b e
  · have fa : ∃ x', h a = some x' := by
      simp only [Heap.set] at ha
      split at ha
      · rename_i e; exact ⟨_, e ▸ hr⟩
      · exact ⟨_, ha⟩
    have fb : ∃ y', h b = some y' := by
      simp only [Heap.set] at hb
      split at hb
      · rename_i e; exact ⟨_, e ▸ hr⟩
      · exact ⟨_, hb⟩
    obtain ⟨x', hx'⟩ := fa
    obtain ⟨y', hy'⟩ := fb
    exact H.sep a b x' y' La Lb hx' hy' hLa hLb hbb
theorem rangeF_ok (H : RelH κ h w) {t kt et : TypeId} {r : Nat} {l : List (AVal × AVal)} {um : Value} {K : AVal → Heap → Prop} (ht' : P.underlying t = some (.map kt et)) (hr : h r = some (.fmap l)) (hm : RelV κ (.mapr r) um)
    (hl : K (.iter κ.nref) (h.set κ.nref (.miter l none))) : MOK P κ w (Instr.range t um) K := by
  cases hm
  rename_i L hL
  obtain ⟨L2, e1, _, es, clock, hi, h1, h2, h3, h4⟩ := H.obj _ _ hr
  rw [hL] at e1; cases e1
  have hf : es.filter (fun e => !(#[] : Array Nat).contains e.born) = es := by simp
  have le := Ghost.le_addLoc (H.fin _ (Nat.le_refl _)) ⟨w.heap.size, 0, 1, 0⟩
  have H' := H.alloc_loc (.mapIter (some L.b) clock #[] clock) (.miter l none) 1 0 ⟨L.b, es, clock, #[], heap_alloc_new w _, le.imm _ _ hi, h3, h4, (by rw [hf]; exact h2.mono le), fun _ e => by cases e⟩
  refine ⟨_, _, _, .iter κ.nref, _, ?_, le, H', .iter (L := ⟨w.heap.size, 0, 1, 0⟩) (Ghost.addLoc_same _), hl⟩
  simp [Instr.range, Sem.run_bind, run_underlying ht', Result.andThen, Go.MapKept.run_getObj_map h1]
theorem rangeA_ok (H : RelH κ h w) {t : TypeId} {m : AVal} {um : Value} {K : AVal → Heap → Prop} (hm : RelV κ m um) (hl : rangeA P h t m K) : MOK P κ w (Instr.range t um) K := by
  unfold rangeA at hl
  obtain ⟨hmt, hl⟩ := chk_iff.1 hl
  obtain ⟨⟨kt, et⟩, ht⟩ := Option.isSome_iff_exists.1 hmt
  have ht' : P.underlying t = some (.map kt et) := by
    unfold mapT at ht
    split at ht
    · cases ht; assumption
    · cases ht
  unfold rangeM at hl
  split at hl
  · rename_i r
    split at hl
    · rename_i l hr
      obtain ⟨κ', le, H', hn⟩ := H.freezeM hr
      have h1 := hl κ'.nref (by rw [hn]; exact H.nref_none) H'.nam
      obtain ⟨v, w', κ2, av, h2, a, b, c⟩ := rangeF_ok (P := P) (K := K) H' ht' (Heap.set_same h _ _) (hm.mono le) h1
      exact ⟨v, w', κ2, av, h2, a, le.trans b, c⟩
    · rename_i l hr
      exact rangeF_ok H ht' hr hm (hl κ.nref H.nref_none H.nam)
    · exact hl.elim
  · exact hl.elim
omit [Nam] in
theorem filter_born (L : List MapEntry) (hp : L.Pairwise (fun a b => a.born ≠ b.born)) : ∀ (i : Nat) (e : MapEntry), L[i]? = some e → L.filter (fun x => !(x.born == e.born)) = L.eraseIdx i := by
  induction hp with
  | nil => intro i e h; simp at h
  | @cons a l ha _ ih =>
    intro i e he
    cases i with
    | zero =>
      simp only [List.getElem?_cons_zero, Option.some.injEq] at he
      subst he
      rw [List.filter_cons]
      simp only [beq_self_eq_true, Bool.not_true, Bool.false_eq_true, if_false, List.eraseIdx_cons_zero]
      rw [List.filter_eq_self]
      intro x hx
      have := ha x hx
      simp only [Bool.not_eq_true', beq_eq_false_iff_ne, ne_eq]
      exact fun e => this e.symm
    | succ i =>
      simp only [List.getElem?_cons_succ] at he
      have hm := List.mem_of_getElem? he
      rw [List.filter_cons, if_pos (by simpa using ha e hm), List.eraseIdx_cons_succ, ih i e he]
omit [Nam] in
theorem RelEs.get {l : List (AVal × AVal)} {es : List MapEntry} (hr : RelEs κ l es) : ∀ {i : Nat} {e : MapEntry}, es[i]? = some e → ∃ k v, l[i]? = some (k, v) ∧ RelV κ k e.key ∧ RelV κ v e.val := by
  induction hr with
  | nil => intro i e h; simp at h
  | cons hk hv hs ih =>
    intro i e he
    cases i with
    | zero => simp at he; subst he; exact ⟨_, _, rfl, hk, hv⟩
    | succ i => exact ih he
theorem nextA_ok (H : RelH κ h w) {it : AVal} {ui : Value} {isStr : Bool} {ty : TypeId} {K : AVal → Heap → Prop} (hi : RelV κ it ui) (hl : nextA h it isStr K) : MOK P κ w (Instr.next ui isStr ty) K := by
  unfold nextA at hl
  split at hl
  · unfold nextM at hl
    split at hl
    · rename_i q
      cases hi
      rename_i L hL
      split at hl
      · rename_i left last hq
        obtain ⟨L2, e1, ho, m, es, clock, seen, h1, h2, h3, h4, h5, _⟩ := H.obj _ _ hq
        rw [hL] at e1; cases e1
        have hmap : w.heap[m]? = some (.map es clock) := H.imm _ _ h2
        have hlt : L.b < w.heap.size := (Array.getElem?_eq_some_iff.1 h1).1
        have hguard : (!seen.isEmpty && !es.isEmpty && es.all (fun e => decide (e.born ≥ clock))) = false := by
          cases hes : es.isEmpty with
          | true => simp
          | false =>
            have : es.all (fun e => decide (e.born ≥ clock)) = false := by
              rw [Array.all_eq_false]
              have hpos : 0 < es.size := by
                rcases Nat.eq_zero_or_pos es.size with h | h
                · simp [Array.isEmpty, h] at hes
                · exact h
              refine ⟨0, hpos, ?_⟩
              have := h3 es[0] (by simp)
              simp only [decide_eq_true_eq]
              omega
            rw [this]; simp
        have hold : (es.filter fun e => !seen.contains e.born).filter (fun e => decide (e.born < clock)) = es.filter fun e => !seen.contains e.born := by
          rw [Array.filter_eq_self]
          intro x hx
          have := h3 x (by
            have := (Array.mem_filter.1 hx).1
            simpa using this)
          exact decide_eq_true this
        have hnew : (es.filter fun e => !seen.contains e.born).filter (fun e => decide (e.born ≥ clock)) = #[] := by
          rw [Array.filter_eq_empty_iff]
          intro x hx
          have := h3 x (by
            have := (Array.mem_filter.1 hx).1
            simpa using this)
          simp only [decide_eq_true_eq]
          omega
        have hlen := h5.length
        have hg1 : (getObj L.b).run P w = .ok (.mapIter (some m) clock seen clock) w := by simp [getObj, Sem.run, h1]
        have hset : ∀ (w1 : World) (o : Obj), w1.heap = w.heap → (setObj L.b o).run P w1 = .ok () { w1 with heap := w.heap.setIfInBounds L.b o } := fun w1 o e => by simp [setObj, Sem.run, e, h1]
        have hch : ∀ n : Nat, 0 < n → ∃ k w1, k < n ∧ (choose (.mapNext n)).run P w = .ok k w1 ∧ w1.heap = w.heap ∧ w1.os = w.os ∧ w1.tape = w.tape ∧ w1.output = w.output ∧ w.drawn ≤ w1.drawn := fun n hn => by
          by_cases hfo : (Question.mapNext n).forced = true
          · exact ⟨0, w, hn, by simp [choose, Sem.run, hfo], rfl, rfl, rfl, rfl, Nat.le_refl _⟩
          · refine ⟨(Question.mapNext n).cut (w.tape w.drawn (.mapNext n)), { w with drawn := w.drawn + 1 }, Nat.mod_lt _ hn, by simp [choose, Sem.run, hfo], rfl, rfl, rfl, rfl, Nat.le_succ _⟩
        have hstep : ∀ (F : Array MapEntry) (R : Result Value), (es.filter fun e => !seen.contains e.born) = F → ((do
            match ((if F.isEmpty then #[none] else #[]) ++ F.map some)[← choose (.mapNext ((if F.isEmpty then #[none] else #[]) ++ F.map some).size)]? with
            | some (some e) =>
              setObj L.b (.mapIter (some m) clock (seen.push e.born) clock)
              pure (.tuple #[.bool true, e.key, e.val])
            | some none => pure (.tuple #[.bool false])
            | none => stuck "Next: no such candidate" : Sem Value)).run P w = R → (Instr.next (.pointer (some ⟨L.b, 0, none⟩)) false ty).run P w = R := fun F R hF h => by
          subst hF
          rw [← h]
          unfold Instr.next
          simp only [Sem.run_bind, hg1, Result.andThen_ok, Go.MapKept.run_getObj_map hmap, hguard, hold, hnew, Bool.false_eq_true, if_false, Array.append_empty]
          rfl
        generalize hF : (es.filter fun e => !seen.contains e.born) = F at *
        split at hl
        · have hF0 : F = #[] := by
            have : F.toList = [] := List.eq_nil_of_length_eq_zero (by simpa using hlen)
            simpa using this
          subst hF0
          obtain ⟨k, w1, hk, hrun, e1, e2, e3, e4, e5⟩ := hch 1 (by omega)
          have hk0 : k = 0 := by omega
          subst hk0
          refine ⟨.tuple #[.bool false], w1, κ, .tuple [.bool false], h, ?_, Ghost.Le.refl κ, H.same e1 e2 e3 e4 e5, .tuple (xs := [.bool false]) (.cons (.bool false) .nil), hl⟩
          refine hstep #[] _ rfl ?_
          rw [Sem.run_bind]
          simp only [Array.isEmpty_empty, if_true, Array.map_empty, Array.append_empty]
          rw [show (#[none] : Array (Option MapEntry)).size = 1 from rfl, hrun]
          rfl
        · rename_i e0 l0
          have hFp : 0 < F.size := by
            have : F.toList.length = l0.length + 1 := by simpa using hlen
            simp at this
            omega
          have hne : F.isEmpty = false := by
            cases e : F.isEmpty with
            | false => rfl
            | true => simp at e; rw [e] at hFp; simp at hFp
          obtain ⟨k, w1, hk, hrun, e1, e2, e3, e4, e5⟩ := hch F.size hFp
          have hget : F.toList[k]? = some F[k] := by simp
          obtain ⟨ka, va, hka, hrk, hrv⟩ := RelEs.get h5 hget
          have hlk := hl k (ka, va) hka
          have hin : F[k] ∈ es.toList := by
            have h6 : F[k] ∈ F := by simp
            have h6 : F[k] ∈ es.filter (fun e => !seen.contains e.born) := by rw [hF]; exact h6
            have := (Array.mem_filter.1 h6).1
            simpa using this
          have hFl : F.toList = es.toList.filter (fun e => !seen.contains e.born) := by rw [← hF, Array.toList_filter]
          have hpw : F.toList.Pairwise (fun a b => a.born ≠ b.born) := by rw [hFl]; exact h4.filter _
          have hF2 : (es.filter fun e => !(seen.push F[k].born).contains e.born).toList = F.toList.eraseIdx k := by
            rw [← filter_born F.toList hpw k F[k] hget, hFl, List.filter_filter, Array.toList_filter]
            refine List.filter_congr fun x _ => ?_
            simp only [Array.contains_push]
            cases seen.contains x.born <;> cases (x.born == F[k].born) <;> simp
          have H1 := H.same e1 e2 e3 e4 e5
          refine ⟨_, _, κ, .tuple [.bool true, ka, va], _, ?_, Ghost.Le.refl κ, H1.write hq rfl hL (w' := { w1 with heap := w.heap.setIfInBounds L.b (.mapIter (some m) clock (seen.push F[k].born) clock) }) (o' := .miter ((e0 :: l0).eraseIdx k) (some (ka, va))) (fun b' hb' => ?_) rfl rfl rfl (Nat.le_refl _) ⟨m, es, clock, seen.push F[k].born, ?_, h2, h3, h4, ?_, fun kv e => by cases e; exact ⟨F[k], hin, Array.back?_push .., hrk, hrv⟩⟩, .tuple (xs := [.bool true, F[k].key, F[k].val]) (.cons (.bool true) (.cons hrk (.cons hrv .nil))), hlk⟩
          · refine hstep F _ rfl ?_
            rw [Sem.run_bind]
            simp only [hne, Bool.false_eq_true, if_false, Array.empty_append, Array.size_map, hrun, Result.andThen_ok]
            rw [show (F.map some)[k]? = some (some F[k]) by simp]
            simp only [Sem.run_bind, hset w1 _ e1, Result.andThen_ok, Sem.run_pure]
          · simp only [Array.getElem?_setIfInBounds]
            rw [if_neg (Ne.symm hb'), e1]
          · simp [hlt]
          · rw [hF2]
            exact relEs_erase h5 k
      · exact hl.elim
    · exact hl.elim
  · exact hl.elim
omit [Nam] in
theorem entryA_ok (H : RelH0 κ h w) {it : AVal} {ui : Value} {K : AVal → Prop} (hi : RelV κ it ui) (hl : entryA h it K) : ∃ v av, (Instr.entry ui).run P w = .ok v w ∧ RelV κ av v ∧ K av := by
  unfold entryA at hl
  split at hl
  · rename_i q
    cases hi
    rename_i L hL
    split at hl
    · rename_i left kv hq
      obtain ⟨L2, e1, ho, m, es, clock, seen, h1, h2, h3, h4, h5, h6⟩ := H.obj _ _ hq
      rw [hL] at e1; cases e1
      obtain ⟨e, he, hb, hk, hv⟩ := h6 _ rfl
      have hmap : w.heap[m]? = some (.map es clock) := H.imm _ _ h2
      have hg1 : (getObj L.b).run P w = .ok (.mapIter (some m) clock seen clock) w := by simp [getObj, Sem.run, h1]
      have hfind : es.find? (fun x => x.born == e.born) = some e := by
        rw [← Array.find?_toList]
        exact find_born es.toList h4 e he
      refine ⟨_, .tuple [kv.1, kv.2], ?_, .tuple (xs := [e.key, e.val]) (.cons hk (.cons hv .nil)), hl⟩
      unfold Instr.entry
      simp only [Sem.run_bind, hg1, Result.andThen_ok, hb, Go.MapKept.run_getObj_map hmap, bne_self_eq_false, Bool.false_eq_true, if_false, hfind, Sem.run_pure]
    · exact hl.elim
  · exact hl.elim
end
end Go.Sym

namespace Go.Sym
open Go
variable [Nam]
/- ---------------- maps: made, read, written; bytes ---------------- -/
def rop (P : Program) (h : Heap) (ev : Operand → AVal) (op : Op) (K : AVal → Prop) : Prop :=
  match op with
  | .load t a => loadA P h t (ev a) K
  | .lookup t m k ok => lookupA P h t (ev m) (ev k) ok K
  | .entry x => entryA h (ev x) K
  | .convert src dst x => bytesStrA P h src dst (ev x) K
  | .call { callee := .builtin .len, args, argTypes } => match args.toList, argTypes.toList with
    | [x], [t] => lenMapA P h t (ev x) K
    | _, _ => False
  | _ => False
def litG (lit : Bool) (K : AVal → Heap → Prop) : AVal → Heap → Prop := match lit with
  | true => fun v h => ∃ S v' h', Lit h S v v' ∧ GStep h h' S ∧ K v' h'
  | false => K
theorem litG_mono {lit : Bool} {A B : AVal → Heap → Prop} (hm : ∀ v h, A v h → B v h) : ∀ v h, litG lit A v h → litG lit B v h := by
  intro v h hk
  cases lit with
  | false => exact hm v h hk
  | true =>
    obtain ⟨S, v', h', a, b, c⟩ := hk
    exact ⟨S, v', h', a, b, hm _ _ c⟩
theorem litG.plain {lit : Bool} {K : AVal → Heap → Prop} {v : AVal} {h : Heap} (hk : K v h) : litG lit K v h := by
  cases lit with
  | false => exact hk
  | true => exact ⟨fun _ => False, v, h, .refl v, GStep.refl h, hk⟩
def wop (P : Program) (lit : Bool) (h : Heap) (ev : Operand → AVal) (op : Op) (K : AVal → Heap → Prop) : Prop :=
  match op with
  | .store t a x => storeA P h t (ev a) (ev x) fun h' => K .undef h'
  | .alloc t => allocA P lit h t K
  | .box t x => boxA P lit h t (ev x) K
  | .buildSlice t n ps => buildSliceA P lit h t n (ps.toList.map fun (i, x) => (i, ev x)) K
  | .makeSlice t l c => makeSliceA P lit h t (ev l) (ev c) K
  | .makeMap t r => makeMapA P h t (r.map ev) K
  | .mapUpdate t m k x => mapUpdateA P h t (ev m) (ev k) (ev x) fun h' => K .undef h'
  | .range t x => rangeA P h t (ev x) K
  | .next x s => nextA h (ev x) s K
  | .insert t m k x => mapUpdateA P h t (ev m) (ev k) (ev x) fun h' => K .undef h'
  | .mapEntry t m k => mapEntryA P h t (ev m) (ev k) K
  | .entryStore _ m s x => entryStoreA h (ev m) (ev s) (ev x) fun h' => K .undef h'
  | .convert s d x => strBytesA P h s d (ev x) K
  | .call { callee := .builtin .delete, args, argTypes } => match args.toList, argTypes.toList with
    | [m, k], t :: _ => deleteA P h t (ev m) (ev k) K
    | _, _ => False
  | .call { callee := .builtin .append, args, argTypes } => match args.toList, argTypes.toList with
    | [s, x], [t, t'] => appendA P h t t' (ev s) (ev x) (litG lit K)
    | _, _ => False
  | _ => False
theorem rop_ok {P : Program} {κ : Ghost} {h : Heap} {w : World} (H : RelH κ h w) {ev : Operand → AVal} {ρ : Operand → Value} (hev : ∀ o, RelV κ (ev o) (ρ o)) {o : Oper} {K : AVal → Prop}
    (hk : rop P h ev o.op K) : RNext P κ w (execOp ρ o) K := by
  obtain ⟨dst, op, ty, pos, after, guard⟩ := o
  simp only at hk
  unfold rop at hk
  split at hk
  · obtain ⟨v, av, h1, h2, h3⟩ := loadA_ok H (hev _) hk
    refine ⟨v, av, ?_, h2, h3⟩
    show Sem.run P (Instr.loadAt _ (ρ _) >>= fun v => pure (Next.value v)) w = _
    rw [Sem.run_bind, h1]
    rfl
  · obtain ⟨v, av, h1, h2, h3⟩ := lookupA_ok H (hev _) (hev _) hk
    refine ⟨v, av, ?_, h2, h3⟩
    show Sem.run P (Instr.lookup _ (ρ _) (ρ _) _ >>= fun v => pure (Next.value v)) w = _
    rw [Sem.run_bind, h1]
    rfl
  · obtain ⟨v, av, h1, h2, h3⟩ := entryA_ok (P := P) H.toRelH0 (hev _) hk
    refine ⟨v, av, ?_, h2, h3⟩
    show Sem.run P (Instr.entry (ρ _) >>= fun v => pure (Next.value v)) w = _
    rw [Sem.run_bind, h1]
    rfl
  · obtain ⟨v, av, h1, h2, h3⟩ := bytesStrA_ok H (hev _) hk
    refine ⟨v, av, ?_, h2, h3⟩
    show Sem.run P (convert _ _ (ρ _) >>= fun v => pure (Next.value v)) w = _
    rw [Sem.run_bind, h1]
    rfl
  · rename_i args ts
    split at hk
    · rename_i x t ha ht
      have ha : args = #[x] := by
        have : args.toList.toArray = [x].toArray := by rw [ha]
        simpa using this
      have ht : ts = #[t] := by
        have : ts.toList.toArray = [t].toArray := by rw [ht]
        simpa using this
      subst ha; subst ht
      obtain ⟨v, av, h1, h2, h3⟩ := lenMapA_ok (ty := ty) H (hev x) hk
      refine ⟨v, av, ?_, h2, h3⟩
      unfold execOp
      simp only [resolve, pure_bind, invoke, builtin, Sem.run_bind, Sem.run_pure, Result.andThen_ok, List.map_toArray, List.map_cons, List.map_nil, h1]
    · exact hk.elim
  · exact hk.elim
theorem wop_ok {P : Program} {κ : Ghost} {h : Heap} {w : World} (H : RelH κ h w) {ev : Operand → AVal} {ρ : Operand → Value} (hev : ∀ o, RelV κ (ev o) (ρ o)) {o : Oper} {lit : Bool} {K : AVal → Heap → Prop}
    (hk : wop P lit h ev o.op K) : MNext P κ w (execOp ρ o) K := by
  obtain ⟨dst, op, ty, pos, after, guard⟩ := o
  simp only at hk
  unfold wop at hk
  split at hk
  · obtain ⟨w', h', h1, h2, h3⟩ := storeA_ok H (hev _) (hev _) hk
    refine ⟨.skip, undef, w', κ, .undef, h', ?_, .inr ⟨rfl, rfl⟩, Ghost.Le.refl κ, h2, .undef _, h3⟩
    show Sem.run P (Instr.storeAt _ (ρ _) (ρ _) >>= fun _ => pure Next.skip) w = _
    rw [Sem.run_bind, h1]
    rfl
  · exact (allocA_ok H hk).next
  · exact (boxA_ok H (hev _) hk).next
  · rename_i t n ps
    simp only [execOp]
    refine MOK.next (buildSliceA_ok H ?_ ?_ hk)
    · simp [Function.comp_def]
    · intro j a u ha hu
      simp only [Array.toList_map, List.getElem?_map, Option.map_eq_some_iff] at ha hu
      obtain ⟨⟨i, x⟩, h1, rfl⟩ := ha
      obtain ⟨⟨i', x'⟩, h2, rfl⟩ := hu
      rw [h1] at h2
      cases h2
      exact hev x
  · exact (makeSliceA_ok H (hev _) (hev _) hk).next
  · rename_i t r
    refine (makeMapA_ok H (uh := r.map ρ) ?_ (by cases r <;> rfl) hk).next
    intro a u ha hu
    cases r with
    | none => cases ha
    | some x => cases ha; cases hu; exact hev x
  · obtain ⟨w', h', h1, h2, h3⟩ := mapUpdateA_ok H (hev _) (hev _) (hev _) hk
    refine ⟨.skip, undef, w', κ, .undef, h', ?_, .inr ⟨rfl, rfl⟩, Ghost.Le.refl κ, h2, .undef _, h3⟩
    show Sem.run P (Instr.mapUpdate _ (ρ _) (ρ _) (ρ _) >>= fun _ => pure Next.skip) w = _
    rw [Sem.run_bind, h1]
    rfl
  · exact (rangeA_ok H (hev _) hk).next
  · exact (nextA_ok H (hev _) hk).next
  · obtain ⟨w', h', h1, h2, h3⟩ := mapUpdateA_ok H (hev _) (hev _) (hev _) hk
    refine ⟨.skip, undef, w', κ, .undef, h', ?_, .inr ⟨rfl, rfl⟩, Ghost.Le.refl κ, h2, .undef _, h3⟩
    show Sem.run P (Instr.mapUpdate _ (ρ _) (ρ _) (ρ _) >>= fun _ => pure Next.skip) w = _
    rw [Sem.run_bind, h1]
    rfl
  · obtain ⟨v, av, w', h', h1, h2, h3, h4⟩ := mapEntryA_ok H (hev _) (hev _) hk
    refine ⟨.value v, v, w', κ, av, h', ?_, .inl rfl, Ghost.Le.refl κ, h3, h2, h4⟩
    show Sem.run P (Instr.mapEntry _ (ρ _) (ρ _) >>= fun v => pure (Next.value v)) w = _
    rw [Sem.run_bind, h1]
    rfl
  · rename_i t m s x
    obtain ⟨w', h', h1, h2, h3⟩ := entryStoreA_ok (t := t) H (hev _) (hev _) (hev _) hk
    refine ⟨.skip, undef, w', κ, .undef, h', ?_, .inr ⟨rfl, rfl⟩, Ghost.Le.refl κ, h2, .undef _, h3⟩
    show Sem.run P (Instr.entryStore _ (ρ _) (ρ _) (ρ _) >>= fun _ => pure Next.skip) w = _
    rw [Sem.run_bind, h1]
    rfl
  · exact (strBytesA_ok H (hev _) hk).next
  · rename_i args ts
    split at hk
    · rename_i m k t rest ha ht
      have ha : args = #[m, k] := by
        have : args.toList.toArray = [m, k].toArray := by rw [ha]
        simpa using this
      subst ha
      have hts : ts[0]? = some t := by
        rw [← Array.getElem?_toList, ht]; rfl
      obtain ⟨v, w', κ', av, h', h1, h2, h3, h4, h5⟩ := deleteA_ok (ty := ty) H (hev m) (hev k) ts hts hk
      have hrun : (execOp ρ ⟨dst, .call { callee := .builtin .delete, args := #[m, k], argTypes := ts }, ty, pos, after, guard⟩).run P w = .ok (.value v) w' := by
        unfold execOp
        simp only [resolve, pure_bind, invoke, builtin, Sem.run_bind, Sem.run_pure, Result.andThen_ok, List.map_toArray, List.map_cons, List.map_nil, h1]
      exact ⟨.value v, v, w', κ', av, h', hrun, .inl rfl, h2, h3, h4, h5⟩
    · exact hk.elim
  · rename_i args ts
    split at hk
    · rename_i s x t t' ha ht
      have ha : args = #[s, x] := by
        have : args.toList.toArray = [s, x].toArray := by rw [ha]
        simpa using this
      have ht : ts = #[t, t'] := by
        have : ts.toList.toArray = [t, t'].toArray := by rw [ht]
        simpa using this
      subst ha; subst ht
      obtain ⟨v, w', κ', av, h', h1, h2, h3, h4, h5⟩ := appendA_ok (ty := ty) H (hev s) (hev x) hk
      have hrun : (execOp ρ ⟨dst, .call { callee := .builtin .append, args := #[s, x], argTypes := #[t, t'] }, ty, pos, after, guard⟩).run P w = .ok (.value v) w' := by
        unfold execOp
        simp only [resolve, pure_bind, invoke, builtin, Sem.run_bind, Sem.run_pure, Result.andThen_ok, List.map_toArray, List.map_cons, List.map_nil, h1]
      cases lit with
      | false => exact ⟨.value v, v, w', κ', av, h', hrun, .inl rfl, h2, h3, h4, h5⟩
      | true =>
        obtain ⟨S, v', h'', a, b, c⟩ := h5
        exact ⟨.value v, v, w', _, v', h'', hrun, .inl rfl, h2.trans (Ghost.le_frz κ' h' w' S), h3.frz b, a.rel h3.toRelH0 h4, c⟩
    · exact hk.elim
  · exact hk.elim
inductive OpK where
  | v | r | w | c
  deriving DecidableEq
def opK (P : Program) (op : Op) : OpK :=
  match op with
  | .load .. | .lookup .. | .entry _ => .r
  | .store .. | .alloc _ | .box .. | .buildSlice .. | .makeSlice .. | .makeMap .. | .mapUpdate .. | .range .. | .next .. | .mapEntry .. | .entryStore .. | .insert .. => .w
  | .convert s d _ => match P.underlying s, P.underlying d with
    | some (.slice _), _ => .r
    | some .string, some (.slice _) => .w
    | _, _ => .v
  | .call { callee := .builtin .append, .. } | .call { callee := .builtin .copy, .. } | .call { callee := .builtin .delete, .. } => .w
  | .call { callee := .builtin .len, argTypes, .. } => match argTypes.toList with
    | [t] => match P.underlying t with
      | some (.map _ _) => .r
      | _ => .v
    | _ => .v
  | .call { callee := .value _, .. } => .c
  | _ => .v
/- ---------------- calls ---------------- -/
def okF (P : Program) (f : FuncId) : Bool :=
  match P.funcs[f]? with
  | some fn => fn.name != "runtime.NumGoroutine" && fn.body.isSome
  | none => false
def ACalls (P : Program) (f : FuncId) (args : List AVal) (h : Heap) (K : AVal → Heap → Prop) : Prop :=
  okF P f = true ∧ ∀ κ xs w, RelVs κ args xs → RelH κ h w →
    Calls P f xs.toArray w fun e w' => ∃ v κ' av h', e = .returned v ∧ κ.Le κ' ∧ RelH κ' h' w' ∧ RelV κ' av v ∧ K av h'
theorem ACalls.mono {P : Program} {f : FuncId} {args : List AVal} {h : Heap} {K K' : AVal → Heap → Prop} (hk : ACalls P f args h K) (hm : ∀ v h', K v h' → K' v h') : ACalls P f args h K' :=
  ⟨hk.1, fun κ xs w hx H => (hk.2 κ xs w hx H).mono fun _ _ ⟨v, κ', av, h', a, b, c, d, e⟩ => ⟨v, κ', av, h', a, b, c, d, hm _ _ e⟩⟩
def callG (P : Program) (f : FuncId) (args : List AVal) (h : Heap) (K : AVal → Heap → Prop) : Prop :=
  ∃ S args' h', Lits h S args args' ∧ GStep h h' S ∧ ACalls P f args' h' K
theorem callG.plain {P : Program} {f : FuncId} {args : List AVal} {h : Heap} {K : AVal → Heap → Prop} (hk : ACalls P f args h K) : callG P f args h K :=
  ⟨fun _ => False, args, h, Lits.refl _, GStep.refl _, hk⟩
theorem callG.ok {P : Program} {f : FuncId} {args : List AVal} {h : Heap} {K : AVal → Heap → Prop} (hk : callG P f args h K) : ACalls P f args h K := by
  obtain ⟨S, args', h', hl, hg, ho, hc⟩ := hk
  refine ⟨ho, fun κ xs w hx H => (hc _ xs w (hl.relVs H.toRelH0 hx) (H.frz hg)).mono ?_⟩
  rintro e w' ⟨v, κ', av, h'', a, b, c⟩
  exact ⟨v, κ', av, h'', a, (Ghost.le_frz κ h w S).trans b, c⟩
abbrev FW (ro : Option Nat) : Fence := { fn := fun _ => True, depth := none, alive := false, round := ro }
def ARound (P : Program) (l : Nat) (args : List AVal) (h : Heap) (K : AVal → Heap → Prop) : Prop :=
  ∀ κ xs w, RelVs κ args xs → RelH κ h w → ∃ r : Loop, w.heap[l]? = some (.loop r) ∧ xs.length = r.params.size ∧
    RoundIn Fence.wide 0 P l r.fn ((r.params.zip xs.toArray).foldl (fun t (p, v) => t.setIfInBounds p v) r.tmps) r.assign r.body w
      fun e w' => ∃ v κ' av h', e = .returned v ∧ κ.Le κ' ∧ RelH κ' h' w' ∧ RelV κ' av v ∧ K av h'
theorem ARound.mono {P : Program} {l : Nat} {args : List AVal} {h : Heap} {K K' : AVal → Heap → Prop} (hk : ARound P l args h K) (hm : ∀ v h', K v h' → K' v h') : ARound P l args h K' :=
  fun κ xs w hx H => let ⟨r, h1, h2, h3⟩ := hk κ xs w hx H; ⟨r, h1, h2, h3.mono fun _ _ ⟨v, κ', av, h', a, b, c, d, e⟩ => ⟨v, κ', av, h', a, b, c, d, hm _ _ e⟩⟩
def callV (P : Program) (fv : AVal) (args : List AVal) (h : Heap) (K : AVal → Heap → Prop) : Prop :=
  match fv with
  | .func (.func f) first cap => callG P f (first ++ args ++ cap) h K
  | .func (.yield l) [] [] => ARound P l args h K
  | _ => False
/- ---------------- kinds of values ---------------- -/
inductive Kd where
  | any
  | int (k : IntKind)
  | bool
  | str
  deriving DecidableEq
inductive Kds where
  | one (k : Kd)
  | tup (ks : List Kd)
  | agg (ks : List Kd)
def ifT (b : Bool) (X Y : Prop) : Prop := (fun _ : Unit =>
  match b with
  | true => X
  | false => Y) J.u160
omit [Nam] in
@[simp] theorem ifT_true (X Y : Prop) : ifT true X Y = X := rfl
omit [Nam] in
@[simp] theorem ifT_false (X Y : Prop) : ifT false X Y = Y := rfl
omit [Nam] in
theorem ifT_eq (b : Bool) (X Y : Prop) : ifT b X Y = if b = true then X else Y := by cases b <;> simp
def ifW (b want : Bool) (X Y : Prop) : Prop := (fun _ : Unit =>
  match want with
  | true => ifT b X Y
  | false => ifT b Y X) J.u160
omit [Nam] in
theorem ifW_eq (b want : Bool) (X Y : Prop) : ifW b want X Y = if b = want then X else Y := by cases b <;> cases want <;> simp [ifW]
def tInt (k : IntKind) (v : AVal) (K : Int → Prop) : Prop :=
  match v with
  | .int k' n => chk (decide (k' = k)) (K n)
  | _ => False
def tBool (v : AVal) (K : Bool → Prop) : Prop :=
  match v with
  | .bool b => K b
  | _ => False
def tStr (v : AVal) (K : ByteArray → Prop) : Prop :=
  match v with
  | .str s => K s
  | _ => False
def tCons (l : List AVal) (K : AVal → List AVal → Prop) : Prop :=
  match l with
  | v :: l => K v l
  | [] => False
def tNil (l : List AVal) (K : Prop) : Prop :=
  match l with
  | [] => K
  | _ => False
def tTup (v : AVal) (K : List AVal → Prop) : Prop :=
  match v with
  | .tuple l => K l
  | _ => False
def tAgg (v : AVal) (K : List AVal → Prop) : Prop :=
  match v with
  | .agg l => K l
  | _ => False
omit [Nam] in
@[simp] theorem tInt_int (k : IntKind) (n : Int) (K : Int → Prop) : tInt k (.int k n) K = K n := by simp [tInt]
omit [Nam] in
@[simp] theorem tBool_bool (b : Bool) (K : Bool → Prop) : tBool (.bool b) K = K b := rfl
omit [Nam] in
@[simp] theorem tStr_str (s : ByteArray) (K : ByteArray → Prop) : tStr (.str s) K = K s := rfl
omit [Nam] in
@[simp] theorem tCons_cons (v : AVal) (l : List AVal) (K : AVal → List AVal → Prop) : tCons (v :: l) K = K v l := rfl
omit [Nam] in
@[simp] theorem tNil_nil (K : Prop) : tNil [] K = K := rfl
omit [Nam] in
@[simp] theorem tTup_tuple (l : List AVal) (K : List AVal → Prop) : tTup (.tuple l) K = K l := rfl
omit [Nam] in
@[simp] theorem tAgg_agg (l : List AVal) (K : List AVal → Prop) : tAgg (.agg l) K = K l := rfl
def typ1 (k : Kd) (v : AVal) (K : AVal → Prop) : Prop := (fun _ : Unit =>
  match k with
  | .any => K v
  | .int k => tInt k v fun n => K (.int k n)
  | .bool => tBool v fun b => K (.bool b)
  | .str => tStr v fun s => K (.str s)) J.u160
def typL : List Kd → List AVal → (List AVal → Prop) → Prop
  | [], l, K => tNil l (K [])
  | k :: ks, l, K => tCons l fun v l => typ1 k v fun v => typL ks l fun vs => K (v :: vs)
def typ (k : Kds) (v : AVal) (K : AVal → Prop) : Prop :=
  match k with
  | .one k => typ1 k v K
  | .tup ks => tTup v fun l => typL ks l fun vs => K (.tuple vs)
  | .agg ks => tAgg v fun l => typL ks l fun vs => K (.agg vs)
omit [Nam] in
theorem typ1_val {k : Kd} {v : AVal} {K : AVal → Prop} (h : typ1 k v K) : K v := by
  cases k with
  | any => exact h
  | int k =>
    cases v <;> first | exact h.elim | skip
    obtain ⟨h1, h2⟩ := chk_iff.1 h
    obtain rfl := of_decide_eq_true h1
    exact h2
  | bool => cases v <;> first | exact h.elim | exact h
  | str => cases v <;> first | exact h.elim | exact h
omit [Nam] in
theorem typL_val : ∀ {ks : List Kd} {l : List AVal} {K : List AVal → Prop}, typL ks l K → K l
  | [], l, K, h => by cases l <;> first | exact h | exact h.elim
  | k :: ks, l, K, h => by
    cases l with
    | nil => exact h.elim
    | cons v l =>
      have h1 : typ1 k v (fun v => typL ks l fun vs => K (v :: vs)) := h
      exact typL_val (K := fun vs => K (v :: vs)) (typ1_val h1)
omit [Nam] in
theorem typ_val {k : Kds} {v : AVal} {K : AVal → Prop} (h : typ k v K) : K v := by
  cases k with
  | one k => exact typ1_val h
  | tup ks =>
    cases v <;> first
      | exact h.elim
      | exact typL_val (K := fun vs => K (.tuple vs)) h
  | agg ks =>
    cases v <;> first
      | exact h.elim
      | exact typL_val (K := fun vs => K (.agg vs)) h
def kd1 (P : Program) (t : TypeId) : Kd :=
  match P.underlying t with
  | some (.int k) => .int k
  | some .bool => .bool
  | some .string => .str
  | _ => .any
def plainF (P : Program) (t : TypeId) : Bool :=
  match P.underlying t with
  | some (.struct _) | some (.array _ _) | some (.tuple _) => false
  | some _ => true
  | none => false
def kds (P : Program) (t : TypeId) : Kds :=
  match P.underlying t with
  | some (.tuple es) => match es.toList with
    | [] => .one .any
    | l => .tup (l.map (kd1 P))
  | some (.struct fs) => if fs.toList.all (fun f => plainF P f.type) then .agg (fs.toList.map fun f => kd1 P f.type) else .one .any
  | _ => .one (kd1 P t)
end Go.Sym

namespace Go.Sym
open Go
variable [Nam]
abbrev Env := Nat → AVal
def upd (σ : Env) (t : Nat) (v : AVal) : Env := fun t' => bif Nat.beq t' t then v else σ t'
def putD (N : Nat) (σ : Env) (d : Option Nat) (v : AVal) : Env :=
  match d with
  | some d => bif Nat.blt d N then upd σ d v else σ
  | none => σ
def evA (σ : Env) : Operand → AVal
  | .tmp t => σ t
  | .const v => absV v
  | .func f => .func (.func f) [] []
  | .global _ => .undef
def marksOK (κ : Ghost) (ds : List Deferred) : Prop :=
  ∃ Ds : List Nat, ds = Ds.map (fun D => { target := .collected D, args := #[] }) ∧ Ds.Nodup ∧ ∀ D ∈ Ds, ¬ κ.mks D ∧ κ.imm D = some (.deferred (some []))
omit [Nam] in
theorem marksOK.mono {κ κ' : Ghost} (le : κ.Le κ') {ds : List Deferred} (h : marksOK κ ds) : marksOK κ' ds := by
  obtain ⟨Ds, h2, h3, h4⟩ := h
  refine ⟨Ds, h2, h3, fun D hD => ?_⟩
  rw [le.mks]
  exact ⟨(h4 D hD).1, le.imm _ _ (h4 D hD).2⟩
omit [Nam] in
theorem marksOK.nil (κ : Ghost) : marksOK κ [] := ⟨[], rfl, List.nodup_nil, fun _ h => by cases h⟩
structure RelT (N : Nat) (κ : Ghost) (σ : Env) (a : Act) : Prop where
  size : a.tmps.size = N
  tmps : ∀ t, RelV κ (σ t) (a.tmps.getD t undef)
  defers : marksOK κ a.defers
omit [Nam] in
theorem RelT.mono {N : Nat} {κ κ' : Ghost} {σ : Env} {a : Act} (le : κ.Le κ') (h : RelT N κ σ a) : RelT N κ' σ a := ⟨h.size, fun t => (h.tmps t).mono le, h.defers.mono le⟩
omit [Nam] in
theorem RelT.upd_same {N : Nat} {κ : Ghost} {σ : Env} {a : Act} (h : RelT N κ σ a) {t : Nat} {v : AVal} (hv : σ t = v) : RelT N κ (upd σ t v) a :=
  ⟨h.size, fun t' => by
    unfold upd
    cases e : Nat.beq t' t with
    | true => have := Nat.eq_of_beq_eq_true e; subst this; simpa [← hv] using h.tmps t'
    | false => simpa using h.tmps t', h.defers⟩
omit [Nam] in
theorem RelT.put {N : Nat} {κ : Ghost} {σ : Env} {a : Act} (h : RelT N κ σ a) {d : Option Nat} {v : AVal} {x : Value} (hv : RelV κ v x) : RelT N κ (putD N σ d v) (a.put d x) := by
  cases d with
  | none => exact h
  | some d =>
    refine ⟨by simpa [Act.put] using h.size, fun t => ?_, h.defers⟩
    simp only [putD, Act.put]
    have hlt : Nat.blt d N = decide (d < N) := by
      rw [Bool.eq_iff_iff]
      simp
    rw [hlt]
    by_cases hd : d < N
    · simp only [hd, decide_true, cond_true, upd]
      by_cases ht : t = d
      · subst ht
        simp [Nat.beq_refl, Array.getD_eq_getD_getElem?, h.size, hd, hv]
      · have : Nat.beq t d = false := by
          cases e : Nat.beq t d with
          | true => exact absurd (Nat.eq_of_beq_eq_true e) ht
          | false => rfl
        simp only [this, cond_false]
        have h2 := h.tmps t
        simpa [Array.getD_eq_getD_getElem?, Array.getElem?_setIfInBounds, Ne.symm ht] using h2
    · simp only [hd, decide_false, cond_false]
      have h2 := h.tmps t
      have e : a.tmps.setIfInBounds d x = a.tmps := Array.setIfInBounds_eq_of_size_le (by rw [h.size]; omega)
      rw [e]
      exact h2
omit [Nam] in
theorem evA_ok {N : Nat} {κ : Ghost} {σ : Env} {a : Act} (h : RelT N κ σ a) (o : Operand) : RelV κ (evA σ o) (a.eval o) := by
  cases o with
  | tmp t => exact h.tmps t
  | const v => exact absV_rel κ v
  | func f => exact .func (fs := []) (cs := []) .nil .nil
  | global g => exact .undef _
def evOp (P : Program) (N : Nat) (o : Oper) (lit : Bool) (σ : Env) (h : Heap) (K : Env → Heap → Prop) : Prop :=
  match opK P o.op with
  | .v => vop P (evA σ) o.op fun v => typ (kds P o.type) v fun v => K (putD N σ o.dst v) h
  | .r => rop P h (evA σ) o.op fun v => typ (kds P o.type) v fun v => K (putD N σ o.dst v) h
  | .w => wop P lit h (evA σ) o.op fun v h' => typ (kds P o.type) v fun v => K (putD N σ o.dst v) h'
  | .c => match o.op with
    | .call { callee := .value f, args, .. } => callV P (evA σ f) (args.toList.map (evA σ)) h fun v h' => typ (kds P o.type) v fun v => K (putD N σ o.dst v) h'
    | _ => False
def Then (N : Nat) (κ : Ghost) (K : Env → Heap → Prop) (next : Act → World → Prop) : Prop :=
  ∀ κ' σ' h' a' w', κ.Le κ' → RelT N κ' σ' a' → RelH κ' h' w' → K σ' h' → next a' w'
omit [Nam] in
theorem run_callFunc {P : Program} {f : FuncId} {xs : Array Value} {w : World} (h : okF P f = true) : (callFunc f xs).run P w = .ok (.enter f xs) w := by
  unfold okF at h
  split at h
  · rename_i fn hfn
    simp only [Bool.and_eq_true, bne_iff_ne, ne_eq] at h
    obtain ⟨h1, h2⟩ := h
    have h3 : fn.body.isNone = false := by cases e : fn.body <;> simp_all
    have h4 : (fn.name == "runtime.NumGoroutine") = false := by simpa using h1
    unfold callFunc
    simp only [Sem.run_bind, run_program, Result.andThen_ok, hfn, h4, h3, Bool.false_eq_true, if_false, Sem.run_pure]
  · cases h
theorem callV_ok {P : Program} {ro : Option Nat} {o : Oper} {f : Operand} {args : Array Operand} {ats : Array TypeId} (hop : o.op = .call { callee := .value f, args := args, argTypes := ats })
    {fv : AVal} {avs : List AVal} {h : Heap} {K : AVal → Heap → Prop} {κ : Ghost} {a : Act} {w : World} (H : RelH κ h w) (hf : RelV κ fv (a.eval f)) (hargs : RelVs κ avs (args.toList.map a.eval))
    (hk : callV P fv avs h K) {next : Act → World → Prop} {Q : Exit → Act → World → Prop}
    (hn : ∀ κ' av v h' w', κ.Le κ' → RelH κ' h' w' → RelV κ' av v → K av h' → next (a.put o.dst v) w') : o.uponIn (FW ro) 0 P a next Q ((execOp a.eval o).run P w) := by
  unfold callV at hk
  split at hk
  · rename_i g first cap
    obtain ⟨fs, cs, hval, hfs, hcs⟩ : ∃ fs cs, a.eval f = .func (.func g) (List.toArray fs) (List.toArray cs) ∧ RelVs κ first fs ∧ RelVs κ cap cs := by
      cases he : a.eval f <;> rw [he] at hf <;> cases hf
      exact ⟨_, _, rfl, by assumption, by assumption⟩
    obtain ⟨hok, hc⟩ := hk.ok
    have hcall := hc κ _ w ((hfs.append hargs).append hcs) H
    have hrun : (execOp a.eval o).run P w = .ok (.enter g (fs ++ args.toList.map a.eval ++ cs).toArray) w := by
      unfold execOp
      simp only [hop, resolve, hval, Deferred.ofValue, pure_bind, invoke, run_callFunc hok]
      simp [← Array.toList_map]
    rw [hrun, Oper.uponIn_enter]
    refine ⟨(fun e => by cases e), ?_⟩
    refine (callsIn_wide (n := 0 - 1)).2 (hcall.mono ?_)
    rintro e w' ⟨v, κ', av, h', rfl, le, H', hv, hK⟩
    exact hn κ' av v h' w' le H' hv hK
  · rename_i l
    have hval : a.eval f = .func (.yield l) #[] #[] := by
      cases he : a.eval f <;> rw [he] at hf <;> cases hf
      rename_i h1 h2
      cases h1; cases h2; rfl
    obtain ⟨r, h1, h2, h3⟩ := hk κ _ w hargs H
    have hrun : (execOp a.eval o).run P w = .ok (.round l r.fn ((r.params.zip (args.toList.map a.eval).toArray).foldl (fun t (p, v) => t.setIfInBounds p v) r.tmps) r.assign r.body) w := by
      have := run_yield (P := P) (args := (args.toList.map a.eval).toArray) h1 (by simpa using h2)
      unfold execOp
      simp only [hop, resolve, hval, Deferred.ofValue, pure_bind, invoke]
      rw [← this]
      simp [← Array.toList_map]
    rw [hrun, Oper.uponIn_round]
    refine ⟨(fun e => by cases e), RoundIn.mono (F := Fence.wide) (n := 0) h3 ?_⟩
    rintro e w' ⟨v, κ', av, h', rfl, le, H', hv, hK⟩
    exact hn κ' av v h' w' le H' hv hK
  · exact hk.elim
omit [Nam] in
theorem wpIn_of_exec {P : Program} {ro : Option Nat} {o : Oper} {a : Act} {w : World} {next : Act → World → Prop} {Q : Exit → Act → World → Prop} (hd : ∀ c, o.op ≠ .defer c)
    (hk : o.uponIn (FW ro) 0 P a next Q ((execOp a.eval o).run P w)) : o.wpIn (FW ro) 0 P a w next Q :=
  ⟨fun _ _ => trivial, by rw [Oper.semAt_eq _ _ _ hd]; exact hk⟩
theorem evOp_ok {P : Program} {ro : Option Nat} {N : Nat} {o : Oper} {lit : Bool} {σ : Env} {h : Heap} {K : Env → Heap → Prop} {κ : Ghost} {a : Act} {w : World} (T : RelT N κ σ a) (H : RelH κ h w)
    (hk : evOp P N o lit σ h K) {next : Act → World → Prop} (hn : Then N κ K next) (Q : Exit → Act → World → Prop) : o.wpIn (FW ro) 0 P a w next Q := by
  have hd : ∀ c, o.op ≠ .defer c := by
    intro c e
    unfold evOp at hk
    rw [e] at hk
    exact hk
  refine wpIn_of_exec hd ?_
  unfold evOp at hk
  split at hk
  · obtain ⟨v, av, h1, h2, h3⟩ := vop_ok (P := P) (evA_ok T) hk
    rw [h1, Oper.uponIn_value]
    exact hn κ _ h _ w (Ghost.Le.refl κ) (T.put h2) H (typ_val h3)
  · obtain ⟨v, av, h1, h2, h3⟩ := rop_ok H (evA_ok T) hk
    rw [h1, Oper.uponIn_value]
    exact hn κ _ h _ w (Ghost.Le.refl κ) (T.put h2) H (typ_val h3)
  · obtain ⟨r, v, w', κ', av, h', h1, h2, h3, h4, h5, h6⟩ := wop_ok H (evA_ok T) hk
    rw [h1]
    rcases h2 with rfl | ⟨rfl, rfl⟩
    · rw [Oper.uponIn_value]
      exact hn κ' _ h' _ w' h3 ((T.mono h3).put h5) h4 (typ_val h6)
    · rw [Oper.uponIn_skip]
      exact hn κ' _ h' _ w' h3 ((T.mono h3).put h5) h4 (typ_val h6)
  · split at hk
    · rename_i f args ats hop
      refine callV_ok hop H (evA_ok T f) (relVs_map (κ := κ) (f := evA σ) (g := a.eval) args.toList (fun x _ => evA_ok T x)) hk ?_
      intro κ' av v h' w' le H' hv hK
      exact hn κ' _ h' _ w' le ((T.mono le).put hv) H' (typ_val hK)
    · exact hk.elim
def dstOf (ops : Array Oper) (j : Nat) : Option Nat := (ops[j]?).bind (·.dst)
end Go.Sym

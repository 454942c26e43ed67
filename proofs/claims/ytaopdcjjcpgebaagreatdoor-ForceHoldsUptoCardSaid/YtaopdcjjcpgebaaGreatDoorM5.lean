/- From a row's reading to abstract values. No condition: laws over any program. The program's package variables: the library's table of trailing zeros stands in block 0. No condition. Words for contracts: slices as lists, places, reads. No condition: laws over any program. Words for contracts: memory that is made, grown, written, and becomes plain data. No condition: laws over any program. Words for contracts: a pair of slices that grow, behind one pointer. No condition: laws over any program. Words for contracts: a list of owned things. No condition: laws over any program. -/
import Derived.Test.YtaopdcjjcpgebaaGreatDoorM3
import GoSem.ClaimChange
import Derived.Shelf.Spec.TrailingZeros

set_option linter.unusedVariables false
set_option linter.unusedSimpArgs false

namespace Go.Sym
open Go
def ghost0 (w : World) : Ghost := { imm := fun b => w.heap[b]?, loc := fun _ => none, nref := 0, env := w, mks := fun _ => False }
theorem relHI [Nam] (w : World) (hn : Nam.G (fun _ => none) 0) (hi : Nam.I fun b => w.heap[b]?) : RelH (ghost0 w) (fun _ => none) w where
  nam := hn
  glob := hi
  imm _ _ h := h
  obj _ _ h := by cases h
  sep _ _ _ _ _ _ h := by cases h
  fin _ _ := rfl
  os := rfl
  tape := rfl
  output := rfl
  drawn := Nat.le_refl _
  mks := fun _ h => h.elim
structure BulkOK {H : Type} (bulk : DataW H → Nat) : Prop where
  str : ∀ l : List UInt8, l.length ≤ bulk (.lit (.string l))
  ptr : ∀ d, bulk d ≤ bulk (.ptr d)
  len : ∀ l r, l.length ≤ bulk (.slice l r)
  elem : ∀ l r d, d ∈ l → bulk d ≤ bulk (.slice l r)
  part : ∀ l d, d ∈ l → bulk d ≤ bulk (.agg l)
def aggT (P : Program) (t : TypeId) : Bool :=
  match P.underlying t with
  | some (.struct _) | some (.array _ _) => true
  | _ => false
def ShV (P : Program) (B : Nat) : Nat → TypeId → List AVal → Prop
  | 0, _, _ => False
  | n + 1, t, l =>
    match P.underlying t with
    | some .bool => ∃ b, l = [.bool b]
    | some (.int k) => ∃ x, l = [.int k x] ∧ (Lit.int k x).wf = true
    | some .string => ∃ s : ByteArray, l = [.str s] ∧ s.size ≤ B
    | some (.pointer e) => l = [.nilptr] ∨ ∃ c, l = [.lptr c] ∧ c.length = P.cellsOf e ∧ ShV P B n e c
    | some (.slice e) => l = [.nilsl] ∨ ∃ elems, l = [.lsl (P.cellsOf e) elems] ∧ elems.length ≤ B ∧ ∀ x ∈ elems, x.isAgg = aggT P e ∧ (cellsOf x).length = P.cellsOf e ∧ ShV P B n e (cellsOf x)
    | some (.struct fs) => l.length = P.cellsOf t ∧ ∀ f ∈ fs.toList, ShV P B n f.type ((l.drop f.offset).take (P.cellsOf f.type))
    | some (.func ..) => l = [.nilfunc] ∨ l = [.undef]
    | some (.interface _) => l = [.niliface] ∨ l = [.undef]
    | some (.map _ _) => l = [.nilmap] ∨ l = [.undef]
    | some (.array m e) => l.length = m * P.cellsOf e ∧ ∀ i, i < m → ShV P B n e ((l.drop (i * P.cellsOf e)).take (P.cellsOf e))
    | _ => False
def contig (P : Program) : List Field → Nat → Option Nat
  | [], o => some o
  | f :: fs, o => match Nat.beq f.offset o with
    | true => contig P fs (o + P.cellsOf f.type)
    | false => none
def layOne (P : Program) (t : TypeId) : Bool :=
  match P.underlying t with
  | some (.struct fs) => match contig P fs.toList 0 with
    | some m => Nat.beq m (P.cellsOf t)
    | none => false
  | _ => true
def closedT (P : Program) (ts : List TypeId) : Bool := ts.all fun t => layOne P t && match P.underlying t with
  | some (.pointer e) | some (.slice e) => memB e ts && Nat.blt 0 (P.cellsOf e)
  | some (.struct fs) => fs.toList.all fun f => memB f.type ts
  | some (.array m e) => memB e ts && Nat.beq (P.cellsOf t) (m * P.cellsOf e)
  | some .bool | some (.int _) | some .string | some (.func ..) | some (.interface _) | some (.map _ _) => true
  | _ => false
theorem layOne_at {P : Program} {t : TypeId} (h : layOne P t = true) {fs : Array Field} (hu : P.underlying t = some (.struct fs)) : contig P fs.toList 0 = some (P.cellsOf t) := by
  unfold layOne at h
  rw [hu] at h
  simp only at h
  split at h
  · rename_i m hm
    rw [hm, Nat.eq_of_beq_eq_true h]
  · cases h
def plainT (P : Program) (t : TypeId) : Bool :=
  match P.underlying t with
  | some .bool | some (.int _) | some .string | some (.func ..) | some (.interface _) | some (.map _ _) | some (.pointer _) | some (.slice _) | some (.struct _) | some (.array _ _) => true
  | _ => false
theorem closedT_at {P : Program} {ts : List TypeId} (h : closedT P ts = true) {t : TypeId} (ht : t ∈ ts) :
    plainT P t = true ∧ layOne P t = true ∧ (∀ e, P.underlying t = some (.pointer e) ∨ P.underlying t = some (.slice e) → e ∈ ts ∧ 0 < P.cellsOf e) ∧ ∀ fs, P.underlying t = some (.struct fs) → ∀ f ∈ fs.toList, f.type ∈ ts := by
  have := List.all_eq_true.1 h t ht
  simp only [Bool.and_eq_true] at this
  refine ⟨?_, this.1, ?_, ?_⟩
  · have h2 := this.2
    unfold plainT
    split at h2 <;> first | (rename_i hu; rw [hu]) | cases h2
  · rintro e (hu | hu) <;> (have h2 := this.2; rw [hu] at h2; simp only [Bool.and_eq_true] at h2; exact ⟨memB_iff.1 h2.1, by simpa using h2.2⟩)
  · intro fs hu f hf
    have h2 := this.2
    rw [hu] at h2
    exact memB_iff.1 (List.all_eq_true.1 h2 f hf)
theorem closedT_arr {P : Program} {ts : List TypeId} (h : closedT P ts = true) {t : TypeId} (ht : t ∈ ts) {m : Nat} {e : TypeId} (hu : P.underlying t = some (.array m e)) : e ∈ ts ∧ P.cellsOf t = m * P.cellsOf e := by
  have := List.all_eq_true.1 h t ht
  simp only [Bool.and_eq_true, hu] at this
  exact ⟨memB_iff.1 this.2.1, Nat.eq_of_beq_eq_true this.2.2⟩
theorem contig_le {P : Program} : ∀ {fs : List Field} {o m : Nat}, contig P fs o = some m → o ≤ m
  | [], o, m, h => by cases h; exact Nat.le_refl _
  | f :: fs, o, m, h => by
    unfold contig at h
    split at h
    · have := contig_le h; omega
    · cases h
section
variable {H : Type} {enc : TypeId × Value → H} {P : Program} {w : World} {base B n : Nat} {sp : Nat → Bool} {held : Bool} {bulk : DataW H → Nat}
def Got (P : Program) (w : World) (B n : Nat) (t : TypeId) (cs : List Value) : Prop :=
  ∃ l, RelVs (ghost0 w) l cs ∧ ShV P B n t l ∧ (∀ c ∈ cs, c.oneCell' = true)
theorem fields_rel {cs : List Value} : ∀ {fs : List Field} {o m : Nat} {xs : List (DataW H × List MemPlace)}, contig P fs o = some m → cs.length = m →
    (∀ f ∈ fs, ∀ x, DataW.trod enc P w base sp held n f.type ((cs.drop f.offset).take (P.cellsOf f.type)) = some x → bulk x.1 ≤ B → Got P w B n f.type ((cs.drop f.offset).take (P.cellsOf f.type))) →
    fs.mapM (fun f => DataW.trod enc P w base sp held n f.type ((cs.drop f.offset).take (P.cellsOf f.type))) = some xs → (∀ x ∈ xs, bulk x.1 ≤ B) →
    ∃ l, RelVs (ghost0 w) l (cs.drop o) ∧ (∀ f ∈ fs, o ≤ f.offset ∧ ShV P B n f.type ((l.drop (f.offset - o)).take (P.cellsOf f.type))) ∧ ∀ c ∈ cs.drop o, c.oneCell' = true
  | [], o, m, xs, hc, hl, _, _, _ => by
    cases hc
    refine ⟨[], ?_, by simp, ?_⟩
    · rw [List.drop_eq_nil_of_le (by omega)]; exact .nil
    · rw [List.drop_eq_nil_of_le (by omega)]; simp
  | f :: fs, o, m, xs, hc, hl, ih, hm, hb => by
    unfold contig at hc
    split at hc
    · rename_i he
      have he := Nat.eq_of_beq_eq_true he
      simp only [List.mapM_cons, Option.pure_def, Option.bind_eq_bind, Option.bind_eq_some_iff] at hm
      obtain ⟨x, hx, ys, hys, hxs⟩ := hm
      cases hxs
      obtain ⟨l1, a1, a2, a3⟩ := ih f List.mem_cons_self x hx (hb x List.mem_cons_self)
      obtain ⟨l2, b1, b2, b3⟩ := fields_rel hc hl (fun g hg => ih g (List.mem_cons_of_mem _ hg)) hys (fun y hy => hb y (List.mem_cons_of_mem _ hy))
      have hle := contig_le hc
      have hlen : ((cs.drop o).take (P.cellsOf f.type)).length = P.cellsOf f.type := by simp; omega
      rw [he] at a1 a3
      have hl1 : l1.length = P.cellsOf f.type := by rw [← hlen]; exact a1.length.symm
      have hsplit : cs.drop o = (cs.drop o).take (P.cellsOf f.type) ++ cs.drop (o + P.cellsOf f.type) := by rw [← List.drop_drop, List.take_append_drop]
      refine ⟨l1 ++ l2, ?_, ?_, ?_⟩
      · rw [hsplit]; exact a1.append b1
      · intro g hg
        rcases List.mem_cons.1 hg with rfl | hg
        · refine ⟨by omega, ?_⟩
          rw [he, Nat.sub_self, List.drop_zero, List.take_append_of_le_length (by omega), List.take_of_length_le (by omega)]
          exact a2
        · obtain ⟨c1, c2⟩ := b2 g hg
          refine ⟨by omega, ?_⟩
          rw [List.drop_append, List.drop_eq_nil_of_le (by omega), List.nil_append, show g.offset - o - l1.length = g.offset - (o + P.cellsOf f.type) by omega]
          exact c2
      · intro c hc'
        rw [hsplit] at hc'
        rcases List.mem_append.1 hc' with h | h
        · exact a3 c h
        · exact b3 c h
    · cases hc
theorem array_rel {cs : List Value} {e : TypeId} {m : Nat} (hl : cs.length = m * P.cellsOf e)
    (ih : ∀ i, i < m → ∀ x, DataW.trod enc P w base sp held n e ((cs.drop (i * P.cellsOf e)).take (P.cellsOf e)) = some x → bulk x.1 ≤ B → Got P w B n e ((cs.drop (i * P.cellsOf e)).take (P.cellsOf e))) :
    ∀ (d i : Nat) {xs : List (DataW H × List MemPlace)}, i + d = m → (List.range' i d).mapM (fun i => DataW.trod enc P w base sp held n e ((cs.drop (i * P.cellsOf e)).take (P.cellsOf e))) = some xs → (∀ x ∈ xs, bulk x.1 ≤ B) →
    ∃ l, RelVs (ghost0 w) l (cs.drop (i * P.cellsOf e)) ∧ (∀ j, j < d → ShV P B n e ((l.drop (j * P.cellsOf e)).take (P.cellsOf e))) ∧ ∀ c ∈ cs.drop (i * P.cellsOf e), c.oneCell' = true
  | 0, i, xs, hd, _, _ => by
    obtain rfl : i = m := by omega
    refine ⟨[], ?_, fun j hj => by omega, ?_⟩
    · rw [List.drop_eq_nil_of_le (by omega)]; exact .nil
    · rw [List.drop_eq_nil_of_le (by omega)]; simp
  | d + 1, i, xs, hd, hm, hb => by
    simp only [List.range'_succ, List.mapM_cons, Option.pure_def, Option.bind_eq_bind, Option.bind_eq_some_iff] at hm
    obtain ⟨x, hx, ys, hys, hxs⟩ := hm
    cases hxs
    obtain ⟨l1, a1, a2, a3⟩ := ih i (by omega) x hx (hb x List.mem_cons_self)
    obtain ⟨l2, b1, b2, b3⟩ := array_rel hl ih d (i + 1) (by omega) hys (fun y hy => hb y (List.mem_cons_of_mem _ hy))
    have hk : (i + 1) * P.cellsOf e = i * P.cellsOf e + P.cellsOf e := by rw [Nat.add_mul]; omega
    have hle : (i + 1) * P.cellsOf e ≤ m * P.cellsOf e := Nat.mul_le_mul_right _ (by omega)
    have hlen : ((cs.drop (i * P.cellsOf e)).take (P.cellsOf e)).length = P.cellsOf e := by
      rw [List.length_take, List.length_drop]; omega
    have hl1 : l1.length = P.cellsOf e := by rw [← hlen]; exact a1.length.symm
    have hsplit : cs.drop (i * P.cellsOf e) = (cs.drop (i * P.cellsOf e)).take (P.cellsOf e) ++ cs.drop ((i + 1) * P.cellsOf e) := by
      rw [hk, ← List.drop_drop, List.take_append_drop]
    refine ⟨l1 ++ l2, ?_, fun j hj => ?_, fun c hc => ?_⟩
    · rw [hsplit]; exact a1.append b1
    · cases j with
      | zero =>
        rw [Nat.zero_mul, List.drop_zero, List.take_append_of_le_length (by omega), List.take_of_length_le (by omega)]
        exact a2
      | succ j =>
        have e2 : (j + 1) * P.cellsOf e = l1.length + j * P.cellsOf e := by rw [Nat.add_mul, hl1]; omega
        rw [e2, List.drop_append, List.drop_eq_nil_of_le (by omega), List.nil_append, Nat.add_sub_cancel_left]
        exact b2 j (by omega)
    · rw [hsplit] at hc
      rcases List.mem_append.1 hc with h | h
      · exact a3 c h
      · exact b3 c h
theorem cells_at {a : Addr} {k : Nat} {cs : List Value} (hk : 0 < k) (h : w.cells? base a k = some cs) :
    ∃ b off C te fz, a = ⟨b, off, none⟩ ∧ w.heap[b]? = some (.cells C te fz) ∧ cs = (C.toList.drop off).take k ∧ off + k ≤ C.size := by
  obtain ⟨_, hl, hc⟩ := World.cells?_some h
  obtain ⟨b, off, spot⟩ := a
  have h0 := hc 0 hk
  have hlt : 0 < cs.length := by omega
  rw [List.getElem?_eq_getElem hlt] at h0
  have hadd : (⟨b, off, spot⟩ : Addr).add 0 = ⟨b, off, spot⟩ := by simp [Addr.add]
  rw [hadd] at h0
  unfold World.cell? at h0
  simp only at h0
  split at h0
  · rename_i C te fz hb
    split at h0
    · cases h0
    · rename_i hs
      have hs : spot = none := by simpa using hs
      subst hs
      have hget : ∀ i, i < k → C[off + i]? = cs[i]? := by
        intro i hi
        have := hc i hi
        rw [addr_add, cell?_eq hb] at this
        exact this
      have hsz : off + k ≤ C.size := by
        have := hget (k - 1) (by omega)
        rw [List.getElem?_eq_getElem (by omega)] at this
        have := (Array.getElem?_eq_some_iff.1 this).1
        omega
      refine ⟨b, off, C, te, fz, rfl, hb, ?_, hsz⟩
      apply List.ext_getElem?
      intro i
      by_cases hi : i < k
      · rw [List.getElem?_take, if_pos hi, List.getElem?_drop]; have := hget i hi; rw [← this]; simp
      · rw [List.getElem?_eq_none (by omega), List.getElem?_eq_none (by simp; omega)]
  all_goals simp at h0
theorem elems_rel {κ : Ghost} {es off len : Nat} {C : List Value} {Q : AVal → Prop} (each : ∀ i, i < len → ∃ v, RelC κ v ((C.drop (off + i * es)).take es) ∧ off + i * es + es ≤ C.length ∧ Q v) :
    ∀ d j, j + d = len → ∃ els, els.length = d ∧ RelEl κ es els (C.drop (off + j * es)) ∧ ∀ x ∈ els, Q x
  | 0, j, _ => ⟨[], rfl, .nil, by simp⟩
  | d + 1, j, hj => by
    obtain ⟨v, h1, h2, h3⟩ := each j (by omega)
    obtain ⟨els, e1, e2, e3⟩ := elems_rel each d (j + 1) (by omega)
    refine ⟨v :: els, by simp [e1], ?_, ?_⟩
    · have hsplit : C.drop (off + j * es) = (C.drop (off + j * es)).take es ++ C.drop (off + (j + 1) * es) := by
        rw [show off + (j + 1) * es = (off + j * es) + es by rw [Nat.add_mul]; omega]
        generalize off + j * es = q
        rw [← List.drop_drop, List.take_append_drop]
      rw [hsplit]
      exact .cons (by simp; omega) h1 e2
    · intro x hx
      rcases List.mem_cons.1 hx with rfl | hx
      · exact h3
      · exact e3 x hx
theorem shV_one {t : TypeId} {l : List AVal} (h : ShV P B n t l) (ha : aggT P t = false) : ∃ v, l = [v] ∧ v.isAgg = false := by
  cases n with
  | zero => exact h.elim
  | succ n =>
    unfold ShV at h
    unfold aggT at ha
    split at h
    · obtain ⟨b, rfl⟩ := h; exact ⟨_, rfl, rfl⟩
    · obtain ⟨x, rfl, _⟩ := h; exact ⟨_, rfl, rfl⟩
    · obtain ⟨x, rfl, _⟩ := h; exact ⟨_, rfl, rfl⟩
    · rcases h with rfl | ⟨c, rfl, _⟩ <;> exact ⟨_, rfl, rfl⟩
    · rcases h with rfl | ⟨c, rfl, _⟩ <;> exact ⟨_, rfl, rfl⟩
    · rename_i hu; rw [hu] at ha; cases ha
    · rcases h with rfl | rfl <;> exact ⟨_, rfl, rfl⟩
    · rcases h with rfl | rfl <;> exact ⟨_, rfl, rfl⟩
    · rcases h with rfl | rfl <;> exact ⟨_, rfl, rfl⟩
    · rename_i hu; rw [hu] at ha; cases ha
    · exact h.elim
theorem Got.elem {t : TypeId} {cs : List Value} (h : Got P w B n t cs) : ∃ v, RelC (ghost0 w) v cs ∧ v.isAgg = aggT P t ∧ (Sym.cellsOf v).length = cs.length ∧ ShV P B n t (Sym.cellsOf v) := by
  obtain ⟨l, h1, h2, h3⟩ := h
  cases ha : aggT P t with
  | true => exact ⟨.agg l, .agg h1, rfl, h1.length.symm, h2⟩
  | false =>
    obtain ⟨v, rfl, hv⟩ := shV_one h2 ha
    have hc : Sym.cellsOf v = [v] := by cases v <;> first | rfl | simp [AVal.isAgg] at hv
    cases h1 with
    | cons a b => cases b; exact ⟨v, .one hv a, hv, by rw [hc]; rfl, by rw [hc]; exact h2⟩
theorem trod_rel (hbk : BulkOK bulk) {ts : List TypeId} (hts : closedT P ts = true) : ∀ (n : Nat) (t : TypeId) (cs : List Value) (x : DataW H × List MemPlace), t ∈ ts →
    DataW.trod enc P w base sp held n t cs = some x → bulk x.1 ≤ B → Got P w B n t cs
  | 0, t, cs, x, _, h, _ => by simp [DataW.trod] at h
  | n + 1, t, cs, x, ht, h, hb => by
    have ih := trod_rel hbk hts n
    obtain ⟨hpl, hlay, hsub, hfs⟩ := closedT_at hts ht
    unfold plainT at hpl
    unfold DataW.trod at h
    split at h
    · rename_i b hu
      exact ⟨[.bool b], .cons (.bool b) .nil, by unfold ShV; rw [hu]; exact ⟨b, rfl⟩, by simp [Value.oneCell']⟩
    · rename_i k k' m hu
      split at h
      · rename_i hk
        obtain ⟨rfl, hw⟩ := hk
        exact ⟨[.int k' m], .cons (.int _ _) .nil, by unfold ShV; rw [hu]; exact ⟨m, rfl, hw⟩, by simp [Value.oneCell']⟩
      · cases h
    · rename_i hu
      rw [hu] at hpl
      cases hpl
    · rename_i s hu
      split at h
      · cases h
        refine ⟨[.str s], .cons (.str s) .nil, ?_, by simp [Value.oneCell']⟩
        unfold ShV; rw [hu]
        refine ⟨s, rfl, Nat.le_trans ?_ hb⟩
        have := hbk.str s.data.toList
        simpa using this
      · cases h
    · rename_i hu
      exact ⟨[.nilptr], .cons .nilptr .nil, by unfold ShV; rw [hu]; exact .inl rfl, by simp [Value.oneCell']⟩
    · rename_i e a hu
      obtain ⟨he, hpos⟩ := hsub e (.inl hu)
      simp only [Option.map_eq_some_iff, Option.bind_eq_some_iff] at h
      obtain ⟨y, ⟨cs', hcs, hy⟩, rfl⟩ := h
      obtain ⟨l, h1, h2, h3⟩ := ih e cs' y he hy (Nat.le_trans (hbk.ptr _) hb)
      obtain ⟨b, off, C, te, fz, rfl, hblk, hwin, hsz⟩ := cells_at hpos hcs
      have hlen : l.length = P.cellsOf e := by
        rw [h1.length.symm, hwin]; simp; omega
      refine ⟨[.lptr l], .cons (.lptr hblk ?_ ?_) .nil, ?_, by simp [Value.oneCell']⟩
      · rw [hlen, ← hwin]; exact h3
      · rw [hlen, ← hwin]; exact h1
      · unfold ShV; rw [hu]; exact .inr ⟨l, rfl, hlen, h2⟩
    · rename_i hu
      exact ⟨[.nilsl], .cons .nilsl .nil, by unfold ShV; rw [hu]; exact .inl rfl, by simp [Value.oneCell']⟩
    · rename_i e a len cap hu
      obtain ⟨he, hpos⟩ := hsub e (.inr hu)
      simp only at h
      split at h
      · rename_i hc
        obtain ⟨_, hle, hmax⟩ := hc
        simp only [Option.bind_eq_some_iff, Option.map_eq_some_iff] at h
        obtain ⟨elems, hel, rest, hrest, rfl⟩ := h
        have hlen : elems.length = len := by simpa using mapM_some_length hel
        have hblen : len ≤ B := by
          have := hbk.len (elems.map (·.1)) (rest.map (·.1))
          simp only [List.length_map] at this
          have hb' : bulk (.slice (elems.map (·.1)) (rest.map (·.1))) ≤ B := hb
          omega
        have each : ∀ i, i < len → ∃ cs', w.cells? base (a.add (i * P.cellsOf e)) (P.cellsOf e) = some cs' ∧ Got P w B n e cs' := by
          intro i hi
          have := mapM_some_get hel i i (by simp [hi])
          rw [List.getElem?_eq_getElem (by omega)] at this
          simp only [Option.bind_eq_some_iff] at this
          obtain ⟨cs', h1, h2⟩ := this
          exact ⟨cs', h1, ih e cs' _ he h2 (Nat.le_trans (hbk.elem _ _ _ (List.mem_map_of_mem (List.getElem_mem _))) hb)⟩
        by_cases h0 : len = 0
        · subst h0
          exact ⟨[.lsl (P.cellsOf e) []], .cons (.lsl0 hmax) .nil, by unfold ShV; rw [hu]; exact .inr ⟨[], rfl, by simp, by simp⟩, by simp [Value.oneCell']⟩
        · obtain ⟨cs0, hcs0, _⟩ := each 0 (by omega)
          rw [Nat.zero_mul, show a.add 0 = a by simp [Addr.add]] at hcs0
          obtain ⟨b, off, C, te, fz, rfl, hblk, _, _⟩ := cells_at hpos hcs0
          have each2 : ∀ i, i < len → ∃ v, RelC (ghost0 w) v ((C.toList.drop (off + i * P.cellsOf e)).take (P.cellsOf e)) ∧ off + i * P.cellsOf e + P.cellsOf e ≤ C.toList.length ∧
              (v.isAgg = aggT P e ∧ (cellsOf v).length = P.cellsOf e ∧ ShV P B n e (cellsOf v)) := by
            intro i hi
            obtain ⟨cs', h1, h2⟩ := each i hi
            rw [addr_add] at h1
            obtain ⟨b', off', C', te', fz', ha, hblk', hwin, hsz⟩ := cells_at hpos h1
            simp only [Addr.mk.injEq, and_true] at ha
            obtain ⟨rfl, rfl⟩ := ha
            rw [hblk] at hblk'
            cases hblk'
            obtain ⟨v, v1, v2, v3, v4⟩ := h2.elem
            refine ⟨v, by rw [← hwin]; exact v1, by simpa using hsz, v2, ?_, v4⟩
            rw [v3, hwin]; simp; omega
          have single : ∀ c ∈ (C.toList.drop off).take (len * P.cellsOf e), c.oneCell' = true := by
            intro c hc
            obtain ⟨k, hk, hck⟩ := List.mem_iff_getElem.1 hc
            simp only [List.length_take, List.length_drop] at hk
            have hdiv : k / P.cellsOf e < len := (Nat.div_lt_iff_lt_mul hpos).2 (by omega)
            obtain ⟨cs', h1, h2⟩ := each (k / P.cellsOf e) hdiv
            rw [addr_add] at h1
            obtain ⟨b', off', C', te', fz', ha, hblk', hwin, hsz⟩ := cells_at hpos h1
            simp only [Addr.mk.injEq, and_true] at ha
            obtain ⟨rfl, rfl⟩ := ha
            rw [hblk] at hblk'
            cases hblk'
            obtain ⟨_, _, _, h3⟩ := h2
            refine h3 c ?_
            rw [hwin]
            refine List.mem_iff_getElem?.2 ⟨k % P.cellsOf e, ?_⟩
            have hm : k % P.cellsOf e < P.cellsOf e := Nat.mod_lt _ hpos
            rw [List.getElem?_take, if_pos hm, List.getElem?_drop]
            have e1 : off + k / P.cellsOf e * P.cellsOf e + k % P.cellsOf e = off + k := by
              have := Nat.div_add_mod k (P.cellsOf e)
              rw [Nat.mul_comm] at this
              omega
            rw [e1]
            have : ((C.toList.drop off).take (len * P.cellsOf e))[k]? = some c := by rw [← hck]; exact List.getElem?_eq_getElem _
            rw [List.getElem?_take] at this
            split at this
            · rw [List.getElem?_drop] at this; exact this
            · cases this
          obtain ⟨els, e1, e2, e3⟩ := elems_rel each2 len 0 (by omega)
          rw [Nat.zero_mul, Nat.add_zero] at e2
          refine ⟨[.lsl (P.cellsOf e) els], .cons (.lsl hblk e1.symm hle hmax (by rw [e1]; exact single) e2) .nil, ?_, by simp [Value.oneCell']⟩
          unfold ShV; rw [hu]
          exact .inr ⟨els, rfl, by omega, e3⟩
      · cases h
    · rename_i fs hu
      split at h
      · rename_i hl
        simp only [Option.map_eq_some_iff] at h
        obtain ⟨xs, hxs, rfl⟩ := h
        obtain ⟨l, h1, h2, h3⟩ := fields_rel (enc := enc) (base := base) (sp := sp) (held := held) (bulk := bulk) (B := B) (layOne_at hlay hu) hl
          (fun f hf x hx hbx => ih f.type _ x (hfs fs hu f hf) hx hbx) hxs
          (fun x hx => Nat.le_trans (hbk.part _ _ (List.mem_map_of_mem hx)) hb)
        rw [List.drop_zero] at h1 h3
        refine ⟨l, h1, ?_, h3⟩
        unfold ShV; rw [hu]
        exact ⟨by rw [← h1.length, hl], fun f hf => by simpa using (h2 f hf).2⟩
      · cases h
    · rename_i m e hu
      obtain ⟨he, hc⟩ := closedT_arr hts ht hu
      split at h
      · rename_i hl
        simp only [Option.map_eq_some_iff] at h
        obtain ⟨xs, hxs, rfl⟩ := h
        rw [List.range_eq_range'] at hxs
        obtain ⟨l, h1, h2, h3⟩ := array_rel (enc := enc) (base := base) (sp := sp) (held := held) (bulk := bulk) (B := B) (hl.trans hc)
          (fun i hi x hx hbx => ih e _ x he hx hbx) m 0 (by omega) hxs (fun x hx => Nat.le_trans (hbk.part _ _ (List.mem_map_of_mem hx)) hb)
        rw [Nat.zero_mul, List.drop_zero] at h1 h3
        refine ⟨l, h1, ?_, h3⟩
        unfold ShV; rw [hu]
        exact ⟨by rw [← h1.length, hl, hc], h2⟩
      · cases h
    all_goals first
      | (cases h; done)
      | (rename_i hu; rw [hu] at hpl; cases hpl; done)
      | (rename_i hu; exact ⟨[.undef], .cons (.undef _) .nil, by unfold ShV; rw [hu]; exact .inr rfl, by simp [Value.oneCell']⟩)
      | (rename_i hu; rcases hu with hu | hu; exact ⟨[.undef], .cons (.undef _) .nil, by unfold ShV; rw [hu]; exact .inr rfl, by simp [Value.oneCell']⟩)
      | skip
end
end Go.Sym

namespace Go.Proofs.YtaopdcjjcpgebaaGreatDoor
open Go Go.Sym
def tabI (i : Nat → Option Obj) : Prop := ∃ C e fz, i 0 = some (.cells C e fz) ∧ ∀ j, j < Lib.deBruijn64tab.length → C[j]? = some (.int .u8 (Lib.deBruijn64tab.getD j 0))
instance namT : Nam := ⟨fun _ _ => True, fun _ _ => trivial, fun _ _ => trivial, fun _ _ _ => trivial, tabI, fun h ⟨C, e, fz, a, b⟩ => ⟨C, e, fz, h _ _ a, b⟩⟩
theorem tabAt {κ : Ghost} {h : Heap} {w : World} (H : RelH κ h w) : TabAt 0 Lib.deBruijn64tab w := fun j hj => by
  obtain ⟨C, e, fz, a, b⟩ := H.glob
  have := H.imm _ _ a
  unfold World.cell?
  simp only [this]
  exact b j hj
theorem relHT {W : World} (hT : TabAt 0 Lib.deBruijn64tab W) : RelH (ghost0 W) (fun _ => none) W := by
  refine relHI W trivial ?_
  have h0 := hT 0 (by decide)
  show tabI fun b => W.heap[b]?
  unfold World.cell? at h0
  split at h0
  · rename_i C e fz hb
    refine ⟨C, e, fz, hb, fun j hj => ?_⟩
    have := hT j hj
    unfold World.cell? at this
    simp only [hb] at this
    exact this
  · cases h0
end Go.Proofs.YtaopdcjjcpgebaaGreatDoor

namespace Go.Sym
open Go
def SlOf (es : Nat) (v : AVal) (l : List AVal) : Prop := v = .lsl es l ∨ (v = .nilsl ∧ l = [])
theorem SlOf.lsl (es : Nat) (l : List AVal) : SlOf es (.lsl es l) l := .inl rfl
theorem SlOf.nil (es : Nat) : SlOf es .nilsl [] := .inr ⟨rfl, rfl⟩
theorem lenN_of {es : Nat} {v : AVal} {l : List AVal} (h : SlOf es v l) (K : Int → Prop) : lenN v K = K l.length := by
  rcases h with rfl | ⟨rfl, rfl⟩ <;> rfl
theorem ixS_of {es : Nat} {v : AVal} {l : List AVal} (h : SlOf es v l) {i : Int} {e : AVal} (h0 : 0 ≤ i) (hi : l[i.toNat]? = some e) (K : AVal → Prop) : ixS es v i K = K (.lptr (cellsOf e)) := by
  rcases h with rfl | ⟨rfl, rfl⟩
  · rw [ixS_eq]
    simp only [ixS0, Nat.beq_refl, chk_true, hi]
    simp [h0]
  · simp at hi
theorem ixS_nat {es : Nat} {v : AVal} {l : List AVal} (h : SlOf es v l) {i : Nat} {e : AVal} (hi : l[i]? = some e) (K : AVal → Prop) : ixS es v (i : Int) K = K (.lptr (cellsOf e)) :=
  ixS_of h (by omega) (by simpa using hi) K
@[simp] theorem ld1_lptr (h : Heap) (v : AVal) (l : List AVal) (K : AVal → Prop) : ld1 h (.lptr (v :: l)) K = K v := rfl
@[simp] theorem addOff_lptr (l : List AVal) (n : Nat) (K : AVal → Prop) : addOff (.lptr l) n K = K (.lptr (l.drop n)) := rfl
theorem ldN_lptr (n : Nat) (h : Heap) (l : List AVal) (K : List AVal → Prop) (hl : n ≤ l.length) : ldN n h (.lptr l) K = K (l.take n) := by
  unfold ldN ldCells
  rw [Nat.ble_eq_true_of_le hl]
  rfl
@[simp] theorem ldN_agg2 (h : Heap) (a b : AVal) (K : List AVal → Prop) : ldN 2 h (.lptr [a, b]) K = K [a, b] := rfl
theorem rg_of {n : Int} {p : Prop} (h1 : -9223372036854775808 ≤ n) (h2 : n ≤ 9223372036854775807) (hp : p) : rg n p := ⟨⟨h1, h2⟩, hp⟩
theorem callG_of {P : Program} {f : FuncId} {args : List AVal} {h : Heap} {K : AVal → Heap → Prop} (hk : ACalls P f args h K) : callG P f args h K := callG.plain hk
theorem retG_of {v : AVal} {h : Heap} {K : AVal → Heap → Prop} (hk : K v h) : retG v h K := retG.plain hk
theorem ifT_pos {b : Bool} (hb : b = true) {X Y : Prop} (h : X) : ifT b X Y := by subst hb; exact h
theorem ifT_neg {b : Bool} (hb : b = false) {X Y : Prop} (h : Y) : ifT b X Y := by subst hb; exact h
def Ints (v : AVal) (l : List Int) : Prop := SlOf 1 v (l.map (.int .i64))
def Strs (v : AVal) (l : List ByteArray) : Prop := SlOf 1 v (l.map .str)
inductive All2 {α β : Type} (R : α → β → Prop) : List α → List β → Prop
  | nil : All2 R [] []
  | cons {a : α} {b : β} {l : List α} {m : List β} (h : R a b) (hs : All2 R l m) : All2 R (a :: l) (b :: m)
theorem All2.length {α β : Type} {R : α → β → Prop} : ∀ {l : List α} {m : List β}, All2 R l m → l.length = m.length
  | _, _, .nil => rfl
  | _, _, .cons _ hs => by simp [All2.length hs]
theorem All2.get {α β : Type} {R : α → β → Prop} : ∀ {l : List α} {m : List β}, All2 R l m → ∀ {i : Nat} {b : β}, m[i]? = some b → ∃ a, l[i]? = some a ∧ R a b
  | _, _, .nil, i, b, h => by simp at h
  | _, _, .cons h hs, 0, b, hb => by simp at hb; subst hb; exact ⟨_, rfl, h⟩
  | _, _, .cons h hs, i + 1, b, hb => by simpa using All2.get hs (i := i) (b := b) (by simpa using hb)
theorem All2.append {α β : Type} {R : α → β → Prop} : ∀ {l : List α} {m : List β} {l' : List α} {m' : List β}, All2 R l m → All2 R l' m' → All2 R (l ++ l') (m ++ m')
  | _, _, _, _, .nil, h => h
  | _, _, _, _, .cons h hs, h' => .cons h (All2.append hs h')
def Intss (v : AVal) (ll : List (List Int)) : Prop := ∃ l, SlOf 1 v l ∧ All2 Ints l ll
def Strss (v : AVal) (ll : List (List ByteArray)) : Prop := ∃ l, SlOf 1 v l ∧ All2 Strs l ll
theorem Ints.len {v : AVal} {l : List Int} (h : Ints v l) (K : Int → Prop) : lenN v K = K l.length := by rw [lenN_of h]; simp
theorem Strs.len {v : AVal} {l : List ByteArray} (h : Strs v l) (K : Int → Prop) : lenN v K = K l.length := by rw [lenN_of h]; simp
theorem Ints.ix {v : AVal} {l : List Int} (h : Ints v l) {i : Nat} (hi : i < l.length) (K : AVal → Prop) : ixS 1 v (i : Int) K = K (.lptr [.int .i64 l[i]]) := by
  rw [ixS_nat h (e := .int .i64 l[i]) (by simp [hi])]; rfl
theorem Strs.ix {v : AVal} {l : List ByteArray} (h : Strs v l) {i : Nat} (hi : i < l.length) (K : AVal → Prop) : ixS 1 v (i : Int) K = K (.lptr [.str l[i]]) := by
  rw [ixS_nat h (e := .str l[i]) (by simp [hi])]; rfl
theorem Intss.len {v : AVal} {l : List (List Int)} (h : Intss v l) (K : Int → Prop) : lenN v K = K l.length := by
  obtain ⟨m, h1, h2⟩ := h
  rw [lenN_of h1, h2.length]
theorem Strss.len {v : AVal} {l : List (List ByteArray)} (h : Strss v l) (K : Int → Prop) : lenN v K = K l.length := by
  obtain ⟨m, h1, h2⟩ := h
  rw [lenN_of h1, h2.length]
theorem Ints.notAgg {v : AVal} {l : List Int} (h : Ints v l) : cellsOf v = [v] ∧ sc v = true := by
  rcases h with rfl | ⟨rfl, _⟩ <;> exact ⟨rfl, rfl⟩
theorem Strs.notAgg {v : AVal} {l : List ByteArray} (h : Strs v l) : cellsOf v = [v] ∧ sc v = true := by
  rcases h with rfl | ⟨rfl, _⟩ <;> exact ⟨rfl, rfl⟩
theorem Intss.ix {v : AVal} {l : List (List Int)} (h : Intss v l) {i : Nat} (hi : i < l.length) : ∃ e, Ints e l[i] ∧ ∀ K : AVal → Prop, ixS 1 v (i : Int) K = K (.lptr [e]) := by
  obtain ⟨m, h1, h2⟩ := h
  obtain ⟨e, he, hr⟩ := h2.get (i := i) (b := l[i]) (by simp [hi])
  refine ⟨e, hr, fun K => ?_⟩
  rw [ixS_nat h1 he, hr.notAgg.1]
theorem Strss.ix {v : AVal} {l : List (List ByteArray)} (h : Strss v l) {i : Nat} (hi : i < l.length) : ∃ e, Strs e l[i] ∧ ∀ K : AVal → Prop, ixS 1 v (i : Int) K = K (.lptr [e]) := by
  obtain ⟨m, h1, h2⟩ := h
  obtain ⟨e, he, hr⟩ := h2.get (i := i) (b := l[i]) (by simp [hi])
  refine ⟨e, hr, fun K => ?_⟩
  rw [ixS_nat h1 he, hr.notAgg.1]
theorem strEq_dec (a b : ByteArray) : strEq a b = decide (a = b) := by
  rw [strEq_iff, Bool.eq_iff_iff, MapKept.bytes_beq, decide_eq_true_iff]
theorem drop_eq_step {α : Type} [DecidableEq α] {a b : List α} {i : Nat} (ha : i < a.length) (hb : i < b.length) :
    decide (a.drop i = b.drop i) = (decide (a[i] = b[i]) && decide (a.drop (i + 1) = b.drop (i + 1))) := by
  rw [Bool.eq_iff_iff, Bool.and_eq_true, decide_eq_true_iff, decide_eq_true_iff, decide_eq_true_iff, List.drop_eq_getElem_cons ha, List.drop_eq_getElem_cons hb, List.cons.injEq]
end Go.Sym

namespace Go.Sym
open Go
theorem Heap.set_get (h : Heap) (r q : Nat) (o : AObj) : h.set r o q = if q = r then some o else h q := rfl
theorem Heap.set_ne (h : Heap) {r q : Nat} (o : AObj) (hne : q ≠ r) : h.set r o q = h q := by simp [Heap.set, hne]
theorem Heap.set_set (h : Heap) (r : Nat) (o o' : AObj) : (h.set r o).set r o' = h.set r o' := by funext q; simp only [Heap.set]; split <;> rfl
theorem Heap.set_comm (h : Heap) {r q : Nat} (o o' : AObj) (hne : q ≠ r) : (h.set r o).set q o' = (h.set q o').set r o := by
  funext x; simp only [Heap.set]; split
  · rename_i e; subst e; rw [if_neg hne]
  · rfl
theorem Heap.del_set (h : Heap) {r : Nat} (o : AObj) (hr : h r = none) : (h.set r o).del r = h := by
  funext x; simp only [Heap.set, Heap.del]; split
  · rename_i e; subst e; exact hr.symm
  · rfl
theorem Heap.fresh_ne {h : Heap} {r q : Nat} {o : AObj} (hr : h r = some o) (hq : h q = none) : q ≠ r := fun e => by subst e; rw [hr] at hq; cases hq
theorem newRow_in {es : Nat} {elems : List AVal} {h : Heap} {K : Nat → Heap → Prop} (hk : ∀ r, h r = none → K r (h.set r (.row es elems))) : newRow es elems h K := fun r hr _ => hk r hr
theorem mkS_own {es bytes : Nat} {z : AVal} {h : Heap} {n : Nat} {K : AVal → Heap → Prop} (hb : bytes * n ≤ 281474976710656) (hn : n ≤ 281474976710656)
    (hk : ∀ r, h r = none → K (.sl r es 0 n) (h.set r (.row es (List.replicate n z)))) : mkS false es bytes z h (n : Int) (n : Int) K := by
  have h2 : ((bytes : Int) * (n : Int)) ≤ 281474976710656 := by rw [← Int.natCast_mul]; omega
  exact ⟨⟨by omega, by omega, h2, by omega⟩, fun r hr _ => hk r hr⟩
theorem ixS_sl {es r off len : Nat} {i : Int} {K : AVal → Prop} (h0 : 0 ≤ i) (h1 : i < len) (hk : K (.ptr r (off + i.toNat) 0)) : ixS es (.sl r es off len) i K := by
  rw [ixS_eq]
  simp only [ixS0, Nat.beq_refl, chk_true]
  exact ⟨⟨h0, h1⟩, hk⟩
theorem ixS_sl0 {es r len i : Nat} {K : AVal → Prop} (h1 : i < len) (hk : K (.ptr r i 0)) : ixS es (.sl r es 0 len) (i : Int) K :=
  ixS_sl (by omega) (by omega) (by rw [Int.toNat_natCast, Nat.zero_add]; exact hk)
@[simp] theorem lenN_sl (r es off len : Nat) (K : Int → Prop) : lenN (.sl r es off len) K = K len := rfl
@[simp] theorem addOff_ptr (r i o n : Nat) (K : AVal → Prop) : addOff (.ptr r i o) n K = K (.ptr r i (o + n)) := rfl
theorem ld1_ptr {h : Heap} {r i es : Nat} {elems : List AVal} {e : AVal} (hr : h r = some (.row es elems)) (he : elems[i]? = some e) (ha : e.isAgg = false) (K : AVal → Prop) : ld1 h (.ptr r i 0) K = K e := by
  unfold ld1 ldCells
  simp only [hr, he, List.drop_zero]
  cases e <;> first | rfl | cases ha
theorem ld1_fld {h : Heap} {r o es : Nat} {cs : List AVal} {e : AVal} (hr : h r = some (.row es [.agg cs])) (he : cs[o]? = some e) (K : AVal → Prop) : ld1 h (.ptr r 0 o) K = K e := by
  unfold ld1 ldCells
  simp only [hr, List.getElem?_cons_zero, cellsOf_agg]
  have hlt : o < cs.length := (List.getElem?_eq_some_iff.1 he).1
  rw [List.drop_eq_getElem_cons hlt]
  simp only
  rw [(List.getElem?_eq_some_iff.1 he).2]
theorem ldN_fld {h : Heap} {r n es : Nat} {cs : List AVal} (hr : h r = some (.row es [.agg cs])) (hn : n = cs.length) (K : List AVal → Prop) : ldN n h (.ptr r 0 0) K = K cs := by
  subst hn
  unfold ldN ldCells
  simp only [hr, List.getElem?_cons_zero, cellsOf_agg, List.drop_zero, List.take_length]
  rw [Nat.ble_eq_true_of_le (Nat.le_refl _)]
  rfl
theorem ld1_one {h : Heap} {r es : Nat} {e : AVal} (hr : h r = some (.row es [e])) (ha : e.isAgg = false) (K : AVal → Prop) : ld1 h (.ptr r 0 0) K = K e := ld1_ptr hr rfl ha K
theorem st_elem {h : Heap} {r i es : Nat} {elems : List AVal} {e c : AVal} {K : Heap → Prop} (hr : h r = some (.row es elems)) (he : elems[i]? = some e) (ha : e.isAgg = false)
    (hk : K (h.set r (.row es (elems.set i c)))) : st true h (.ptr r i 0) [c] K := by
  unfold st
  simp only [hr, he]
  have hc : cellsOf e = [e] := by cases e <;> first | rfl | cases ha
  rw [hc, show putCells e 0 [c] = c by unfold putCells; cases e <;> first | rfl | cases ha]
  simp only [List.length_singleton, Nat.zero_add, Bool.or_true, Bool.and_true]
  exact hk
theorem st_fld {h : Heap} {r o es : Nat} {cs : List AVal} {c : AVal} {K : Heap → Prop} (hr : h r = some (.row es [.agg cs])) (ho : o < cs.length)
    (hk : K (h.set r (.row es [.agg (cs.set o c)]))) : st true h (.ptr r 0 o) [c] K := by
  unfold st
  simp only [hr, List.getElem?_cons_zero, cellsOf_agg, AVal.isAgg, Bool.or_true, Bool.and_true, List.length_singleton]
  rw [Nat.ble_eq_true_of_le (by omega), chk_true]
  have : putCells (.agg cs) o [c] = .agg (cs.set o c) := by
    unfold putCells
    simp only [List.length_singleton]
    rw [List.set_eq_take_append_cons_drop, if_pos ho]
    simp
  rw [this]
  exact hk
theorem st_all {h : Heap} {r es : Nat} {cs ds : List AVal} {K : Heap → Prop} (hr : h r = some (.row es [.agg cs])) (hl : cs.length = ds.length)
    (hk : K (h.set r (.row es [.agg ds]))) : st false h (.ptr r 0 0) ds K := by
  unfold st
  simp only [hr, List.getElem?_cons_zero, cellsOf_agg, AVal.isAgg, Bool.true_or, Bool.and_true, Nat.zero_add]
  rw [Nat.ble_eq_true_of_le (by omega), chk_true]
  have : putCells (.agg cs) 0 ds = .agg ds := by
    unfold putCells
    simp only [List.take_zero, List.nil_append, Nat.zero_add]
    rw [List.drop_eq_nil_of_le (by omega), List.append_nil]
  rw [this]
  exact hk
inductive Grow (es : Nat) (hb : Heap) : AVal → List AVal → Heap → Prop
  | nil : Grow es hb .nilsl [] hb
  | own {r : Nat} {l : List AVal} (hr : hb r = none) : Grow es hb (.sl r es 0 l.length) l (hb.set r (.row es l))
theorem Grow.len {es : Nat} {hb h : Heap} {v : AVal} {l : List AVal} (g : Grow es hb v l h) (K : Int → Prop) : lenN v K = K l.length := by cases g <;> rfl
theorem Grow.sc {es : Nat} {hb h : Heap} {v : AVal} {l : List AVal} (g : Grow es hb v l h) : sc v = true ∧ cellsOf v = [v] ∧ v.isAgg = false := by cases g <;> exact ⟨rfl, rfl, rfl⟩
theorem Grow.old {es : Nat} {hb h : Heap} {v : AVal} {l : List AVal} (g : Grow es hb v l h) {r : Nat} {o : AObj} (hr : hb r = some o) : h r = some o := by
  cases g with
  | nil => exact hr
  | own hq => rw [Heap.set_ne _ _ (fun e => by subst e; rw [hq] at hr; cases hr)]; exact hr
theorem Grow.fresh {es : Nat} {hb h : Heap} {v : AVal} {l : List AVal} (g : Grow es hb v l h) {r : Nat} (hr : h r = none) : hb r = none := by
  cases e : hb r with
  | none => rfl
  | some o => rw [g.old e] at hr; cases hr
theorem Grow.upd {es : Nat} {hb h : Heap} {v : AVal} {l : List AVal} (g : Grow es hb v l h) {r : Nat} {o x : AObj} (hr : hb r = some o) : Grow es (hb.set r x) v l (h.set r x) := by
  cases g with
  | nil => exact .nil
  | own hq =>
    have hne := Heap.fresh_ne hr hq
    rw [Heap.set_comm _ _ _ hne.symm]
    exact .own (by rw [Heap.set_ne _ _ hne]; exact hq)
theorem Grow.ix {es : Nat} {hb h : Heap} {v : AVal} {l : List AVal} (g : Grow es hb v l h) {i : Nat} {e : AVal} (he : l[i]? = some e) (ha : e.isAgg = false) {K : AVal → Prop} (hk : K e) :
    ixS es v (i : Int) fun p => ld1 h p K := by
  cases g with
  | nil => simp at he
  | own hr =>
    refine ixS_sl0 (List.getElem?_eq_some_iff.1 he).1 ?_
    rw [ld1_ptr (Heap.set_same _ _ _) he ha]
    exact hk
theorem appC_lit {es bytes : Nat} {hb h : Heap} {v x : AVal} {l new : List AVal} {K : AVal → Heap → Prop} (g : Grow es hb v l h) (hx : elemsA es h x = some new) (hne : new ≠ [])
    (h1 : l.length + new.length ≤ 4611686018427387904) (h2 : (l.length + new.length) * bytes ≤ 140737488355328) (hk : ∀ v' h', Grow es hb v' (l ++ new) h' → K v' h') : appC es bytes h v x K := by
  unfold appC
  rw [hx]
  simp only
  unfold app
  cases g with
  | nil =>
    refine ⟨⟨by simpa using h1, by simpa using h2⟩, fun e => absurd e hne, fun _ r hr _ => ?_⟩
    exact hk _ _ (.own hr)
  | own hr =>
    simp only [Nat.beq_refl, chk_true, Heap.set_same]
    refine ⟨⟨h1, h2⟩, by omega, fun _ r' hr' _ => ?_, fun e => absurd (by omega : 0 + l.length = l.length) e⟩
    rw [Heap.del_set _ _ hr, List.drop_zero]
    have hb' : hb r' = none := by
      rw [Heap.set_get] at hr'
      split at hr'
      · cases hr'
      · exact hr'
    have := hk _ _ (Grow.own (es := es) (l := l ++ new) hb')
    rwa [List.length_append] at this
theorem appC_one {es bytes : Nat} {hb h : Heap} {v x : AVal} {l : List AVal} {K : AVal → Heap → Prop} (g : Grow es hb v l h)
    (h1 : l.length < 4611686018427387904) (h2 : (l.length + 1) * bytes ≤ 140737488355328) (hk : ∀ v' h', Grow es hb v' (l ++ [x]) h' → K v' h') : appC es bytes h v (.lsl es [x]) K :=
  appC_lit g (new := [x]) (by simp [elemsA]) (by simp) (by simp only [List.length_singleton]; omega) (by simpa using h2) hk
theorem Grow.freeze {es : Nat} {hb h : Heap} {v : AVal} {l : List AVal} (g : Grow es hb v l h) : ∃ S v', Lit h S v v' ∧ SlOf es v' l ∧ GStep h hb S := by
  cases g with
  | nil => exact ⟨fun _ => False, _, .refl _, .nil es, GStep.refl _⟩
  | own hr =>
    rename_i r
    refine ⟨fun q => q = r, .lsl es l, .sl rfl (Heap.set_same _ _ _) (by simp) (by simpa using Lits.refl l), .lsl es l, fun _ _ => trivial, fun q o hq => ⟨o, ?_, ?_, .refl o⟩⟩
    · rw [Heap.set_ne _ _ (fun e => by subst e; rw [hr] at hq; cases hq)]; exact hq
    · rintro rfl; rw [hr] at hq; cases hq
theorem Grow.drop {es : Nat} {hb h : Heap} {v : AVal} {l : List AVal} (g : Grow es hb v l h) : GStep h hb fun _ => False := by
  refine ⟨fun _ _ => trivial, fun q o hq => ⟨o, g.old hq, id, .refl o⟩⟩
theorem GStep.drop {h h' : Heap} (hs : ∀ q o, h' q = some o → h q = some o) : GStep h h' fun _ => False := ⟨fun _ _ => trivial, fun q o hq => ⟨o, hs q o hq, id, .refl o⟩⟩
theorem retG_drop {v : AVal} {h h' : Heap} {K : AVal → Heap → Prop} (hs : ∀ q o, h' q = some o → h q = some o) (hk : K v h') : retG v h K := ⟨_, v, h', .refl v, GStep.drop hs, hk⟩
theorem Heap.set_sub {h : Heap} {r : Nat} {o : AObj} (hr : h r = none) : ∀ q o', h q = some o' → h.set r o q = some o' := fun q o' hq => by
  rw [Heap.set_ne _ _ (fun e => by subst e; rw [hr] at hq; cases hq)]; exact hq
theorem Lits.set {h : Heap} {S : Nat → Prop} : ∀ {l : List AVal} {i : Nat} {v v' : AVal}, l[i]? = some v → Lit h S v v' → Lits h S l (l.set i v')
  | [], i, v, v', hv, _ => by simp at hv
  | x :: l, 0, v, v', hv, hl => by simp at hv; subst hv; exact .cons hl (Lits.refl l)
  | x :: l, i + 1, v, v', hv, hl => .cons (.refl x) (Lits.set (by simpa using hv) hl)
theorem GStep.row {h h0 : Heap} {ro ra es : Nat} {R : List AVal} {i : Nat} {v v' : AVal} (hro : h ro = some (.row es R)) (hne : ra ≠ ro) (hra : h0 ra = none) (hold : ∀ q o, h0 q = some o → h q = some o)
    (hv : R[i]? = some v) (hl : Lit h (fun q => q = ra) v v') : GStep h (h0.set ro (.row es (R.set i v'))) fun q => q = ra := by
  refine ⟨fun _ _ => trivial, fun q o' hq => ?_⟩
  rw [Heap.set_get] at hq
  split at hq
  · rename_i e
    subst e
    cases hq
    exact ⟨_, hro, hne.symm, .row (Lits.set hv hl)⟩
  · exact ⟨o', hold q o' hq, (fun e => by rw [e, hra] at hq; cases hq), .refl o'⟩
theorem Lit.whole {h : Heap} {S : Nat → Prop} {r es n : Nat} {l : List AVal} (hs : S r) (hr : h r = some (.row es l)) (hn : n = l.length) : Lit h S (.sl r es 0 n) (.lsl es l) := by
  subst hn
  exact .sl hs hr (by simp) (by simpa using Lits.refl l)
inductive Stk (es : Nat) (hb : Heap) : AVal → List AVal → Heap → Prop
  | nil : Stk es hb .nilsl [] hb
  | own {r : Nat} {l junk : List AVal} (hr : hb r = none) : Stk es hb (.sl r es 0 l.length) l (hb.set r (.row es (l ++ junk)))
theorem Stk.len {es : Nat} {hb h : Heap} {v : AVal} {l : List AVal} (g : Stk es hb v l h) (K : Int → Prop) : lenN v K = K l.length := by cases g <;> rfl
theorem Stk.old {es : Nat} {hb h : Heap} {v : AVal} {l : List AVal} (g : Stk es hb v l h) {r : Nat} {o : AObj} (hr : hb r = some o) : h r = some o := by
  cases g with
  | nil => exact hr
  | own hq => rw [Heap.set_ne _ _ (fun e => by subst e; rw [hq] at hr; cases hr)]; exact hr
theorem Stk.upd {es : Nat} {hb h : Heap} {v : AVal} {l : List AVal} (g : Stk es hb v l h) {r : Nat} {o x : AObj} (hr : hb r = some o) : Stk es (hb.set r x) v l (h.set r x) := by
  cases g with
  | nil => exact .nil
  | own hq =>
    have hne := Heap.fresh_ne hr hq
    rw [Heap.set_comm _ _ _ hne.symm]
    exact .own (by rw [Heap.set_ne _ _ hne]; exact hq)
theorem Stk.ix {es : Nat} {hb h : Heap} {v : AVal} {l : List AVal} (g : Stk es hb v l h) {i : Nat} {e : AVal} (he : l[i]? = some e) (ha : e.isAgg = false) {K : AVal → Prop} (hk : K e) :
    ixS es v (i : Int) fun p => ld1 h p K := by
  cases g with
  | nil => simp at he
  | own hr =>
    have hlt := (List.getElem?_eq_some_iff.1 he).1
    refine ixS_sl0 hlt ?_
    rw [ld1_ptr (Heap.set_same _ _ _) (by rw [List.getElem?_append_left hlt]; exact he) ha]
    exact hk
theorem Stk.pop {es : Nat} {hb h : Heap} {v x : AVal} {l : List AVal} (g : Stk es hb v (l ++ [x]) h) {n : Int} (hn : n = l.length) {K : AVal → Prop} (hk : ∀ v', Stk es hb v' l h → K v') : slX es v 0 (some n) K := by
  subst hn
  generalize hL : l ++ [x] = L at g
  cases g with
  | nil => simp at hL
  | own hr =>
    rename_i r junk
    subst hL
    unfold slX
    simp only
    rw [slA_eq]
    simp only [slA0, Nat.beq_refl, chk_true]
    refine ⟨⟨by omega, by omega, by simp; omega⟩, ?_⟩
    have := hk (.sl r es 0 l.length) (by
      have := Stk.own (es := es) (l := l) (junk := x :: junk) hr
      rwa [show l ++ x :: junk = l ++ [x] ++ junk by simp] at this)
    simpa using this
theorem appC_stk {es bytes : Nat} {hb h : Heap} {v x : AVal} {l : List AVal} {K : AVal → Heap → Prop} (g : Stk es hb v l h)
    (h1 : l.length < 4611686018427387904) (h2 : (l.length + 1) * bytes ≤ 140737488355328) (hk : ∀ v' h', Stk es hb v' (l ++ [x]) h' → K v' h') : appC es bytes h v (.lsl es [x]) K := by
  unfold appC
  rw [show elemsA es h (.lsl es [x]) = some [x] by simp [elemsA]]
  simp only
  unfold app
  cases g with
  | nil =>
    refine ⟨⟨by simp only [List.length_singleton]; omega, by simpa using h2⟩, fun e => absurd e (by simp), fun _ r hr _ => ?_⟩
    have := hk _ _ (Stk.own (es := es) (hb := hb) (l := [x]) (junk := []) hr)
    simpa using this
  | own hr =>
    rename_i r junk
    simp only [Nat.beq_refl, chk_true, Heap.set_same, List.length_singleton]
    refine ⟨⟨by omega, h2⟩, by simp, fun e r' hr' _ => ?_, fun e => ⟨?_, ?_⟩⟩
    · have hj : junk = [] := by
        simp only [List.length_append] at e
        exact List.eq_nil_of_length_eq_zero (by omega)
      subst hj
      rw [Heap.del_set _ _ hr, List.drop_zero, List.append_nil]
      have hb' : hb r' = none := by
        rw [Heap.set_get] at hr'
        split at hr'
        · cases hr'
        · exact hr'
      have := hk _ _ (Stk.own (es := es) (l := l ++ [x]) (junk := []) hb')
      simpa using this
    · simp only [List.length_append] at e ⊢
      omega
    · cases junk with
      | nil => simp at e
      | cons j js =>
        rw [Heap.set_set]
        have := hk _ _ (Stk.own (es := es) (l := l ++ [x]) (junk := js) hr)
        have e1 : (l ++ j :: js).take (0 + l.length) ++ [x] ++ (l ++ j :: js).drop (0 + l.length + 1) = l ++ [x] ++ js := by simp
        rw [e1]
        simpa using this
end Go.Sym

namespace Go.Sym
open Go
theorem Grow.swap {es es' : Nat} {h0 h1 h : Heap} {v v' : AVal} {l l' : List AVal} (g : Grow es h0 v l h1) (g' : Grow es' h1 v' l' h) : ∃ h2, Grow es' h0 v' l' h2 ∧ Grow es h2 v l h := by
  cases g with
  | nil => exact ⟨h, g', .nil⟩
  | own hr =>
    rename_i r
    cases g' with
    | nil => exact ⟨h0, .nil, .own hr⟩
    | own hr' =>
      rename_i r'
      have hne : r' ≠ r := fun e => by rw [e, Heap.set_same] at hr'; cases hr'
      have h0' : h0 r' = none := by rwa [Heap.set_ne _ _ hne] at hr'
      refine ⟨_, .own h0', ?_⟩
      rw [Heap.set_comm _ _ _ hne]
      exact .own (by rw [Heap.set_ne _ _ hne.symm]; exact hr)
inductive MBs (hb : Heap) (ro : Nat) (sU sV vU vV : AVal) (LU LV : List AVal) (h : Heap) : Prop
  | mk (h2 : Heap) (ho : hb ro = none) (gU : Grow 1 (hb.set ro (.row 2 [.agg [sU, sV]])) vU LU h2) (gV : Grow 1 h2 vV LV h)
abbrev MB (hb : Heap) (ro : Nat) (vU vV : AVal) (LU LV : List AVal) (h : Heap) : Prop := MBs hb ro vU vV vU vV LU LV h
section
variable {hb h : Heap} {ro : Nat} {sU sV vU vV : AVal} {LU LV : List AVal}
theorem MBs.get (M : MBs hb ro sU sV vU vV LU LV h) : h ro = some (.row 2 [.agg [sU, sV]]) := by
  obtain ⟨h2, ho, gU, gV⟩ := M
  exact gV.old (gU.old (Heap.set_same _ _ _))
theorem MBs.old (M : MBs hb ro sU sV vU vV LU LV h) {q : Nat} {o : AObj} (hq : hb q = some o) : h q = some o := by
  obtain ⟨h2, ho, gU, gV⟩ := M
  exact gV.old (gU.old (Heap.set_sub ho q o hq))
theorem MBs.upd (M : MBs hb ro sU sV vU vV LU LV h) {q : Nat} {o x : AObj} (hq : hb q = some o) : MBs (hb.set q x) ro sU sV vU vV LU LV (h.set q x) := by
  obtain ⟨h2, ho, gU, gV⟩ := M
  have hne : ro ≠ q := Heap.fresh_ne hq ho
  have h1 : (hb.set ro (.row 2 [.agg [sU, sV]])) q = some o := Heap.set_sub ho q o hq
  have := gU.upd (x := x) h1
  rw [Heap.set_comm _ _ _ hne.symm] at this
  exact ⟨_, by rw [Heap.set_ne _ _ hne]; exact ho, this, gV.upd (gU.old h1)⟩
theorem MBs.sc (M : MBs hb ro sU sV vU vV LU LV h) : (Go.Sym.sc vU = true ∧ vU.isAgg = false) ∧ Go.Sym.sc vV = true ∧ vV.isAgg = false := by
  obtain ⟨h2, ho, gU, gV⟩ := M
  exact ⟨⟨gU.sc.1, gU.sc.2.2⟩, gV.sc.1, gV.sc.2.2⟩
theorem MBs.start (ho : hb ro = none) : MB hb ro .nilsl .nilsl [] [] (hb.set ro (.row 2 [.agg [.nilsl, .nilsl]])) := ⟨_, ho, .nil, .nil⟩
theorem MBs.appU {bytes : Nat} {x : AVal} {K : AVal → Heap → Prop} (M : MBs hb ro sU sV vU vV LU LV h) (h1 : LU.length < 4611686018427387904) (h2 : (LU.length + 1) * bytes ≤ 140737488355328)
    (hk : ∀ v' h', MBs hb ro sU sV v' vV (LU ++ [x]) LV h' → K v' h') : appC 1 bytes h vU (.lsl 1 [x]) K := by
  obtain ⟨hh, ho, gU, gV⟩ := M
  obtain ⟨h3, g1, g2⟩ := gU.swap gV
  refine appC_one g2 h1 h2 fun v' h' g3 => hk v' h' ?_
  obtain ⟨h4, g4, g5⟩ := g1.swap g3
  exact ⟨h4, ho, g4, g5⟩
theorem MBs.appV {bytes : Nat} {x : AVal} {K : AVal → Heap → Prop} (M : MBs hb ro sU sV vU vV LU LV h) (h1 : LV.length < 4611686018427387904) (h2 : (LV.length + 1) * bytes ≤ 140737488355328)
    (hk : ∀ v' h', MBs hb ro sU sV vU v' LU (LV ++ [x]) h' → K v' h') : appC 1 bytes h vV (.lsl 1 [x]) K := by
  obtain ⟨hh, ho, gU, gV⟩ := M
  exact appC_one gV h1 h2 fun v' h' g3 => hk v' h' ⟨hh, ho, gU, g3⟩
theorem MBs.put {a b : AVal} (M : MBs hb ro sU sV vU vV LU LV h) : MBs hb ro a b vU vV LU LV (h.set ro (.row 2 [.agg [a, b]])) := by
  obtain ⟨h2, ho, gU, gV⟩ := M
  have := gU.upd (x := .row 2 [.agg [a, b]]) (Heap.set_same _ _ _)
  rw [Heap.set_set] at this
  exact ⟨_, ho, this, gV.upd (gU.old (Heap.set_same _ _ _))⟩
theorem MBs.stU {K : Heap → Prop} (M : MBs hb ro sU sV vU vV LU LV h) {x : AVal} (hk : ∀ h', MBs hb ro x sV vU vV LU LV h' → K h') : st true h (.ptr ro 0 0) [x] K :=
  st_fld M.get (by simp) (hk _ M.put)
theorem MBs.stV {K : Heap → Prop} (M : MBs hb ro sU sV vU vV LU LV h) {x : AVal} (hk : ∀ h', MBs hb ro sU x vU vV LU LV h' → K h') : st true h (.ptr ro 0 1) [x] K :=
  st_fld M.get (by simp) (hk _ M.put)
theorem MBs.ldU (M : MBs hb ro sU sV vU vV LU LV h) (K : AVal → Prop) : ld1 h (.ptr ro 0 0) K = K sU := ld1_fld M.get rfl K
theorem MBs.ldV (M : MBs hb ro sU sV vU vV LU LV h) (K : AVal → Prop) : ld1 h (.ptr ro 0 1) K = K sV := ld1_fld M.get rfl K
theorem MBs.ld (M : MBs hb ro sU sV vU vV LU LV h) (K : List AVal → Prop) : ldN 2 h (.ptr ro 0 0) K = K [sU, sV] := ldN_fld M.get rfl K
theorem MBs.swap {es : Nat} {v : AVal} {l : List AVal} {h' : Heap} (M : MBs hb ro sU sV vU vV LU LV h) (g : Grow es h v l h') : ∃ hb', Grow es hb v l hb' ∧ MBs hb' ro sU sV vU vV LU LV h' := by
  obtain ⟨h2, ho, gU, gV⟩ := M
  obtain ⟨h3, g1, g2⟩ := gV.swap g
  obtain ⟨h4, g3, g4⟩ := gU.swap g1
  cases g3 with
  | nil => exact ⟨hb, .nil, h3, ho, g4, g2⟩
  | own hr =>
    rename_i r
    have hne : r ≠ ro := fun e => by rw [e, Heap.set_same] at hr; cases hr
    have hr' : hb r = none := by rwa [Heap.set_ne _ _ hne] at hr
    rw [Heap.set_comm _ _ _ hne] at g4
    exact ⟨_, .own hr', h3, by rw [Heap.set_ne _ _ hne.symm]; exact ho, g4, g2⟩
theorem MBs.freeze (M : MBs hb ro sU sV vU vV LU LV h) : ∃ S vU' vV', Lit h S vU vU' ∧ Lit h S vV vV' ∧ SlOf 1 vU' LU ∧ SlOf 1 vV' LV ∧ (∀ q, S q → hb q = none) ∧ ∀ q o, hb q = some o → h q = some o := by
  have hold := fun q o (hq : hb q = some o) => M.old hq
  obtain ⟨h2, ho, gU, gV⟩ := M
  have fr : ∀ {r}, (hb.set ro (.row 2 [.agg [sU, sV]])) r = none → hb r = none := fun {r} hr => by
    rw [Heap.set_get] at hr
    split at hr
    · cases hr
    · exact hr
  cases gU with
  | nil =>
    cases gV with
    | nil => exact ⟨fun _ => False, .nilsl, .nilsl, .refl _, .refl _, .nil 1, .nil 1, (fun _ h => h.elim), hold⟩
    | own hr =>
      rename_i r
      exact ⟨fun q => q = r, .nilsl, .lsl 1 LV, .refl _, .whole rfl (Heap.set_same _ _ _) rfl, .nil 1, .lsl 1 LV, (fun q e => by rw [e]; exact fr hr), hold⟩
  | own hr =>
    rename_i r
    cases gV with
    | nil => exact ⟨fun q => q = r, .lsl 1 LU, .nilsl, .whole rfl (Heap.set_same _ _ _) rfl, .refl _, .lsl 1 LU, .nil 1, (fun q e => by rw [e]; exact fr hr), hold⟩
    | own hr' =>
      rename_i r'
      have hne : r ≠ r' := fun e => by rw [← e, Heap.set_same] at hr'; cases hr'
      have hr2 : (hb.set ro (.row 2 [.agg [sU, sV]])) r' = none := by rwa [Heap.set_ne _ _ hne.symm] at hr'
      exact ⟨fun q => q = r ∨ q = r', .lsl 1 LU, .lsl 1 LV, .whole (.inl rfl) (by rw [Heap.set_ne _ _ hne, Heap.set_same]) rfl, .whole (.inr rfl) (Heap.set_same _ _ _) rfl, .lsl 1 LU, .lsl 1 LV,
        (fun q e => by
          rcases e with e | e
          · rw [e]; exact fr hr
          · rw [e]; exact fr hr2), hold⟩
end
theorem ldN2 {h : Heap} {r es : Nat} {a b : AVal} (hr : h r = some (.row es [.agg [a, b]])) (K : List AVal → Prop) : ldN 2 h (.ptr r 0 0) K = K [a, b] := ldN_fld hr rfl K
theorem appC_copy {es bytes : Nat} {h : Heap} {r : Nat} {x : AVal} {new : List AVal} {K : AVal → Heap → Prop} (hr : h r = none) (hx : elemsA es (h.set r (.row es [])) x = some new)
    (h1 : new.length ≤ 4611686018427387904) (h2 : new.length * bytes ≤ 140737488355328) (hk : ∀ v' h', Grow es h v' new h' → K v' h') : appC es bytes (h.set r (.row es [])) (.sl r es 0 0) x K := by
  unfold appC
  rw [hx]
  simp only
  unfold app
  simp only [Nat.beq_refl, chk_true, Heap.set_same]
  refine ⟨⟨by simpa using h1, by simpa using h2⟩, by simp, fun _ r' hr' _ => ?_, fun e => absurd rfl e⟩
  rw [Heap.del_set _ _ hr]
  have hb' : h r' = none := by
    rw [Heap.set_get] at hr'
    split at hr'
    · cases hr'
    · exact hr'
  have := hk _ _ (Grow.own (es := es) (l := new) hb')
  simpa using this
theorem elemsA_of {es : Nat} {h : Heap} {v : AVal} {l : List AVal} (hv : SlOf es v l) : elemsA es h v = some l := by
  rcases hv with rfl | ⟨rfl, rfl⟩
  · simp [elemsA]
  · rfl
theorem nilS_of {es : Nat} {v : AVal} {l : List AVal} (hv : SlOf es v l) {K : Bool → Prop} (h1 : l = [] → v = .nilsl → K true) (h2 : v = .lsl es l → K false) : nilS v K := by
  rcases hv with rfl | ⟨rfl, rfl⟩
  · exact h2 rfl
  · exact h1 rfl rfl
def nameOf (v : AVal) (q : Nat) : Prop := match v with
  | .sl r _ _ _ => q = r
  | _ => False
theorem Grow.fresh_name {es : Nat} {hb h : Heap} {v : AVal} {l : List AVal} (g : Grow es hb v l h) {q : Nat} (hq : nameOf v q) : hb q = none := by
  cases g with
  | nil => exact hq.elim
  | own hr => rw [show q = _ from hq]; exact hr
theorem Grow.lit {es : Nat} {hb h hf : Heap} {v : AVal} {l : List AVal} (g : Grow es hb v l h) {S : Nat → Prop} (hS : ∀ q, nameOf v q → S q) (hh : ∀ q o, h q = some o → hf q = some o) :
    ∃ v', Lit hf S v v' ∧ SlOf es v' l := by
  cases g with
  | nil => exact ⟨.nilsl, .refl _, .nil es⟩
  | own hr => exact ⟨.lsl es l, .whole (hS _ rfl) (hh _ _ (Heap.set_same _ _ _)) rfl, .lsl es l⟩
theorem Lits.snoc {h : Heap} {S : Nat → Prop} : ∀ (l : List AVal) {v v' : AVal}, Lit h S v v' → Lits h S (l ++ [v]) (l ++ [v'])
  | [], _, _, hl => .cons hl .nil
  | x :: l, _, _, hl => .cons (.refl x) (Lits.snoc l hl)
theorem MBs.settle1 {hb hb' h : Heap} {ro : Nat} {vU vV row : AVal} {LU LV Lrow : List AVal} (M : MB hb' ro vU vV (LU ++ [row]) LV h) (g1 : Grow 1 hb row Lrow hb') :
    ∃ S h' row', SlOf 1 row' Lrow ∧ MB hb ro vU vV (LU ++ [row']) LV h' ∧ GStep h h' S := by
  have hold : ∀ q o, hb' q = some o → h q = some o := fun q o hq => M.old hq
  obtain ⟨h2, ho, gU, gV⟩ := M
  obtain ⟨row', l1, s1⟩ := g1.lit (S := fun q => nameOf row q) (fun q hq => hq) (fun q o hq => hold q o hq)
  have hsub : ∀ q o, hb q = some o → hb' q = some o := fun q o hq => g1.old hq
  have hnone : ∀ q, hb' q = none → hb q = none := fun q hq => g1.fresh hq
  have nS : ∀ q, nameOf row q → hb q = none ∧ hb' q ≠ none := by
    intro q hq
    refine ⟨g1.fresh_name hq, ?_⟩
    cases g1 with
    | nil => exact hq.elim
    | own hr => rw [show q = _ from hq, Heap.set_same]; simp
  generalize hLU : LU ++ [row] = L1 at gU
  cases gU with
  | nil => simp at hLU
  | own hrU =>
    rename_i rU
    subst hLU
    have hneU : rU ≠ ro := fun e => by rw [e, Heap.set_same] at hrU; cases hrU
    have hU : hb' rU = none := by rwa [Heap.set_ne _ _ hneU] at hrU
    have e1 : (LU ++ [row]).length = (LU ++ [row']).length := by simp
    cases gV with
    | nil =>
      refine ⟨fun q => nameOf row q, (hb.set ro (.row 2 [.agg [.sl rU 1 0 (LU ++ [row]).length, .nilsl]])).set rU (.row 1 (LU ++ [row'])), row', s1, .mk _ (hnone ro ho) ?_ .nil, fun _ _ => trivial, fun q o' hq => ?_⟩
      · rw [e1]; exact .own (by rw [Heap.set_ne _ _ hneU]; exact hnone _ hU)
      · simp only [Heap.set_get] at hq
        split at hq
        · rename_i e
          subst e
          cases hq
          exact ⟨_, Heap.set_same _ _ _, fun hs => (nS _ hs).2 hU, .row (Lits.snoc _ l1)⟩
        · rename_i eU
          split at hq
          · rename_i e
            subst e
            cases hq
            exact ⟨_, by rw [Heap.set_ne _ _ eU, Heap.set_same], fun hs => (nS _ hs).2 ho, .refl _⟩
          · exact ⟨o', hold q o' (hsub q o' hq), (fun hs => by rw [(nS _ hs).1] at hq; cases hq), .refl _⟩
    | own hrV =>
      rename_i rV
      have hneV : rV ≠ rU := fun e => by rw [e, Heap.set_same] at hrV; cases hrV
      have hneV2 : rV ≠ ro := fun e => by rw [e, Heap.set_ne _ _ hneU.symm, Heap.set_same] at hrV; cases hrV
      have hV : hb' rV = none := by rwa [Heap.set_ne _ _ hneV, Heap.set_ne _ _ hneV2] at hrV
      refine ⟨fun q => nameOf row q, ((hb.set ro (.row 2 [.agg [.sl rU 1 0 (LU ++ [row]).length, .sl rV 1 0 LV.length]])).set rU (.row 1 (LU ++ [row']))).set rV (.row 1 LV), row', s1, .mk ((hb.set ro (.row 2 [.agg [.sl rU 1 0 (LU ++ [row]).length, .sl rV 1 0 LV.length]])).set rU (.row 1 (LU ++ [row']))) (hnone ro ho) ?_ ?_, fun _ _ => trivial, fun q o' hq => ?_⟩
      · rw [e1]; exact .own (by rw [Heap.set_ne _ _ hneU]; exact hnone _ hU)
      · exact .own (by rw [Heap.set_ne _ _ hneV, Heap.set_ne _ _ hneV2]; exact hnone _ hV)
      · simp only [Heap.set_get] at hq
        split at hq
        · rename_i e
          subst e
          cases hq
          exact ⟨_, Heap.set_same _ _ _, fun hs => (nS _ hs).2 hV, .refl _⟩
        · rename_i eV
          split at hq
          · rename_i e
            subst e
            cases hq
            exact ⟨_, by rw [Heap.set_ne _ _ eV, Heap.set_same], fun hs => (nS _ hs).2 hU, .row (Lits.snoc _ l1)⟩
          · rename_i eU
            split at hq
            · rename_i e
              subst e
              cases hq
              exact ⟨_, by rw [Heap.set_ne _ _ eV, Heap.set_ne _ _ eU, Heap.set_same], fun hs => (nS _ hs).2 ho, .refl _⟩
            · exact ⟨o', hold q o' (hsub q o' hq), (fun hs => by rw [(nS _ hs).1] at hq; cases hq), .refl _⟩
theorem MBs.settleV {hb hb' h : Heap} {ro : Nat} {vU vV cp : AVal} {LU LV Lcp : List AVal} (M : MB hb' ro vU vV LU (LV ++ [cp]) h) (g1 : Grow 1 hb cp Lcp hb') :
    ∃ S h' cp', SlOf 1 cp' Lcp ∧ MB hb ro vU vV LU (LV ++ [cp']) h' ∧ GStep h h' S := by
  have hold : ∀ q o, hb' q = some o → h q = some o := fun q o hq => M.old hq
  obtain ⟨h2, ho, gU, gV⟩ := M
  obtain ⟨cp', l1, s1⟩ := g1.lit (S := fun q => nameOf cp q) (fun q hq => hq) (fun q o hq => hold q o hq)
  have hsub : ∀ q o, hb q = some o → hb' q = some o := fun q o hq => g1.old hq
  have hnone : ∀ q, hb' q = none → hb q = none := fun q hq => g1.fresh hq
  have nS : ∀ q, nameOf cp q → hb q = none ∧ hb' q ≠ none := by
    intro q hq
    refine ⟨g1.fresh_name hq, ?_⟩
    cases g1 with
    | nil => exact hq.elim
    | own hr => rw [show q = _ from hq, Heap.set_same]; simp
  obtain ⟨h3, gV0, gU0⟩ := gU.swap gV
  generalize hLV : LV ++ [cp] = L1 at gV0
  cases gV0 with
  | nil => simp at hLV
  | own hrV =>
    rename_i rV
    subst hLV
    have hneV : rV ≠ ro := fun e => by rw [e, Heap.set_same] at hrV; cases hrV
    have hV : hb' rV = none := by rwa [Heap.set_ne _ _ hneV] at hrV
    have e1 : (LV ++ [cp]).length = (LV ++ [cp']).length := by simp
    cases gU0 with
    | nil =>
      refine ⟨fun q => nameOf cp q, (hb.set ro (.row 2 [.agg [.nilsl, .sl rV 1 0 (LV ++ [cp]).length]])).set rV (.row 1 (LV ++ [cp'])), cp', s1, .mk _ (hnone ro ho) .nil ?_, fun _ _ => trivial, fun q o' hq => ?_⟩
      · rw [e1]; exact .own (by rw [Heap.set_ne _ _ hneV]; exact hnone _ hV)
      · simp only [Heap.set_get] at hq
        split at hq
        · rename_i e
          subst e
          cases hq
          exact ⟨_, Heap.set_same _ _ _, fun hs => (nS _ hs).2 hV, .row (Lits.snoc _ l1)⟩
        · rename_i eV
          split at hq
          · rename_i e
            subst e
            cases hq
            exact ⟨_, by rw [Heap.set_ne _ _ eV, Heap.set_same], fun hs => (nS _ hs).2 ho, .refl _⟩
          · exact ⟨o', hold q o' (hsub q o' hq), (fun hs => by rw [(nS _ hs).1] at hq; cases hq), .refl _⟩
    | own hrU =>
      rename_i rU
      have hneU : rU ≠ rV := fun e => by rw [e, Heap.set_same] at hrU; cases hrU
      have hneU2 : rU ≠ ro := fun e => by rw [e, Heap.set_ne _ _ hneV.symm, Heap.set_same] at hrU; cases hrU
      have hU : hb' rU = none := by rwa [Heap.set_ne _ _ hneU, Heap.set_ne _ _ hneU2] at hrU
      have gg : Grow 1 (hb.set ro (.row 2 [.agg [.sl rU 1 0 LU.length, .sl rV 1 0 (LV ++ [cp]).length]])) (.sl rV 1 0 (LV ++ [cp]).length) (LV ++ [cp']) ((hb.set ro (.row 2 [.agg [.sl rU 1 0 LU.length, .sl rV 1 0 (LV ++ [cp]).length]])).set rV (.row 1 (LV ++ [cp']))) := by
        rw [e1]; exact .own (by rw [Heap.set_ne _ _ hneV]; exact hnone _ hV)
      have gg2 : Grow 1 ((hb.set ro (.row 2 [.agg [.sl rU 1 0 LU.length, .sl rV 1 0 (LV ++ [cp]).length]])).set rV (.row 1 (LV ++ [cp']))) (.sl rU 1 0 LU.length) LU (((hb.set ro (.row 2 [.agg [.sl rU 1 0 LU.length, .sl rV 1 0 (LV ++ [cp]).length]])).set rV (.row 1 (LV ++ [cp']))).set rU (.row 1 LU)) :=
        .own (by rw [Heap.set_ne _ _ hneU, Heap.set_ne _ _ hneU2]; exact hnone _ hU)
      obtain ⟨h5, g5, g6⟩ := gg.swap gg2
      refine ⟨fun q => nameOf cp q, _, cp', s1, .mk h5 (hnone ro ho) g5 g6, fun _ _ => trivial, fun q o' hq => ?_⟩
      simp only [Heap.set_get] at hq
      split at hq
      · rename_i e
        subst e
        cases hq
        exact ⟨_, Heap.set_same _ _ _, fun hs => (nS _ hs).2 hU, .refl _⟩
      · rename_i eU
        split at hq
        · rename_i e
          subst e
          cases hq
          exact ⟨_, by rw [Heap.set_ne _ _ eU, Heap.set_same], fun hs => (nS _ hs).2 hV, .row (Lits.snoc _ l1)⟩
        · rename_i eV
          split at hq
          · rename_i e
            subst e
            cases hq
            exact ⟨_, by rw [Heap.set_ne _ _ eU, Heap.set_ne _ _ eV, Heap.set_same], fun hs => (nS _ hs).2 ho, .refl _⟩
          · exact ⟨o', hold q o' (hsub q o' hq), (fun hs => by rw [(nS _ hs).1] at hq; cases hq), .refl _⟩
end Go.Sym

namespace Go.Sym
open Go
inductive Ow where
  | cell (q : Nat) (o : AObj)
  | slc (es : Nat) (v : AVal) (l : List AVal)
def Ow.nm : Ow → Nat → Prop
  | .cell q _, n => n = q
  | .slc _ v _, n => nameOf v n
def Ow.obj : Ow → AObj
  | .cell _ o => o
  | .slc es _ l => .row es l
def Ow.fit : Ow → Prop
  | .cell _ _ => True
  | .slc es v l => (v = .nilsl ∧ l = []) ∨ ∃ r, v = .sl r es 0 l.length
structure Own (hb : Heap) (os : List Ow) (h : Heap) : Prop where
  fit : ∀ (i : Nat) (x : Ow), os[i]? = some x → x.fit
  get : ∀ (i : Nat) (x : Ow) (n : Nat), os[i]? = some x → x.nm n → h n = some x.obj
  new : ∀ (i : Nat) (x : Ow) (n : Nat), os[i]? = some x → x.nm n → hb n = none
  one : ∀ (i j : Nat) (x y : Ow) (n : Nat), os[i]? = some x → os[j]? = some y → x.nm n → y.nm n → i = j
  old : ∀ q o, hb q = some o → h q = some o
section
variable {hb h h' : Heap} {os : List Ow} {K : Heap → Prop}
theorem Own.start (hb : Heap) : Own hb [] hb :=
  ⟨fun i x e => by simp at e, fun i x n e => by simp at e, fun i x n e => by simp at e, fun i j x y n e => by simp at e, fun _ _ e => e⟩
theorem Own.change (W : Own hb os h) {i : Nat} {x x' : Ow} (hi : os[i]? = some x) (hf : x'.fit) (hn : ∀ n, x'.nm n → x.nm n ∨ h n = none) (hg : ∀ n, x'.nm n → h' n = some x'.obj)
    (hh : ∀ q o, h q = some o → ¬ x.nm q → h' q = some o) : Own hb (os.set i x') h' := by
  have lk : ∀ (j : Nat) (y : Ow), (os.set i x')[j]? = some y → (j = i ∧ y = x') ∨ (j ≠ i ∧ os[j]? = some y) := by
    intro j y e
    rw [List.getElem?_set] at e
    split at e
    · rename_i e1
      split at e
      · cases e; exact .inl ⟨e1.symm, rfl⟩
      · cases e
    · rename_i e1
      exact .inr ⟨fun e2 => e1 e2.symm, e⟩
  have nw : ∀ n, x'.nm n → hb n = none := fun n hx => by
    rcases hn n hx with h1 | h1
    · exact W.new i x n hi h1
    · cases e : hb n with
      | none => rfl
      | some o => rw [W.old n o e] at h1; cases h1
  have cl : ∀ (j : Nat) (y : Ow) (n : Nat), j ≠ i → os[j]? = some y → y.nm n → ¬ x'.nm n := fun j y n hj hy hn1 hn2 => by
    rcases hn n hn2 with h1 | h1
    · exact hj (W.one j i y x n hy hi hn1 h1)
    · rw [W.get j y n hy hn1] at h1; cases h1
  refine ⟨fun j y e => ?_, fun j y n e e1 => ?_, fun j y n e e1 => ?_, fun j k y z n e e1 e2 e3 => ?_, fun q o hq => ?_⟩
  · rcases lk j y e with ⟨_, rfl⟩ | ⟨_, e2⟩
    · exact hf
    · exact W.fit j y e2
  · rcases lk j y e with ⟨_, rfl⟩ | ⟨hj, e2⟩
    · exact hg n e1
    · exact hh n _ (W.get j y n e2 e1) (fun hx => hj (W.one j i y x n e2 hi e1 hx))
  · rcases lk j y e with ⟨_, rfl⟩ | ⟨hj, e2⟩
    · exact nw n e1
    · exact W.new j y n e2 e1
  · rcases lk j y e with ⟨rfl, rfl⟩ | ⟨hj, e4⟩
    · rcases lk k z e1 with ⟨rfl, rfl⟩ | ⟨hk, e5⟩
      · rfl
      · exact (cl k z n hk e5 e3 e2).elim
    · rcases lk k z e1 with ⟨rfl, rfl⟩ | ⟨hk, e5⟩
      · exact (cl j y n hj e4 e2 e3).elim
      · exact W.one j k y z n e4 e5 e2 e3
  · exact hh q o (W.old q o hq) (fun hx => by rw [W.new i x q hi hx] at hq; cases hq)
theorem Own.push (W : Own hb os h) {x : Ow} (hf : x.fit) (hn : ∀ n, x.nm n → h n = none) (hg : ∀ n, x.nm n → h' n = some x.obj) (hh : ∀ q o, h q = some o → h' q = some o) : Own hb (os ++ [x]) h' := by
  have lk : ∀ (j : Nat) (y : Ow), (os ++ [x])[j]? = some y → (j = os.length ∧ y = x) ∨ (j < os.length ∧ os[j]? = some y) := by
    intro j y e
    rw [List.getElem?_append] at e
    split at e
    · rename_i e1; exact .inr ⟨e1, e⟩
    · rename_i e1
      have := (List.getElem?_eq_some_iff.1 e).1
      simp only [List.length_singleton] at this
      have e2 : j = os.length := by omega
      subst e2
      simp at e
      exact .inl ⟨rfl, e.symm⟩
  have cl : ∀ (j : Nat) (y : Ow) (n : Nat), os[j]? = some y → y.nm n → ¬ x.nm n := fun j y n hy h1 h2 => by
    have := hn n h2
    rw [W.get j y n hy h1] at this; cases this
  refine ⟨fun j y e => ?_, fun j y n e e1 => ?_, fun j y n e e1 => ?_, fun j k y z n e e1 e2 e3 => ?_, fun q o hq => hh q o (W.old q o hq)⟩
  · rcases lk j y e with ⟨_, rfl⟩ | ⟨_, e2⟩
    · exact hf
    · exact W.fit j y e2
  · rcases lk j y e with ⟨_, rfl⟩ | ⟨hj, e2⟩
    · exact hg n e1
    · exact hh n _ (W.get j y n e2 e1)
  · rcases lk j y e with ⟨_, rfl⟩ | ⟨hj, e2⟩
    · cases e3 : hb n with
      | none => rfl
      | some o => have := hn n e1; rw [W.old n o e3] at this; cases this
    · exact W.new j y n e2 e1
  · rcases lk j y e with ⟨rfl, rfl⟩ | ⟨hj, e4⟩
    · rcases lk k z e1 with ⟨rfl, rfl⟩ | ⟨hk, e5⟩
      · rfl
      · exact (cl k z n e5 e3 e2).elim
    · rcases lk k z e1 with ⟨rfl, rfl⟩ | ⟨hk, e5⟩
      · exact (cl j y n e4 e2 e3).elim
      · exact W.one j k y z n e4 e5 e2 e3
theorem Own.pop {x : Ow} (W : Own hb (os ++ [x]) h) : Own hb os h := by
  have lk : ∀ (j : Nat) (y : Ow), os[j]? = some y → (os ++ [x])[j]? = some y := fun j y e => by
    rw [List.getElem?_append_left (List.getElem?_eq_some_iff.1 e).1]; exact e
  exact ⟨fun i y e => W.fit i y (lk i y e), fun i y n e => W.get i y n (lk i y e), fun i y n e => W.new i y n (lk i y e), fun i j y z n e e1 => W.one i j y z n (lk i y e) (lk j z e1), W.old⟩
theorem Own.base (W : Own hb os h) {q : Nat} {o x : AObj} (hq : hb q = some o) : Own (hb.set q x) os (h.set q x) := by
  have ne : ∀ (i : Nat) (y : Ow) (n : Nat), os[i]? = some y → y.nm n → n ≠ q := fun i y n e e1 e2 => by
    have := W.new i y n e e1
    rw [e2, hq] at this; cases this
  refine ⟨W.fit, fun i y n e e1 => ?_, fun i y n e e1 => ?_, W.one, fun q' o' e => ?_⟩
  · rw [Heap.set_ne _ _ (ne i y n e e1)]; exact W.get i y n e e1
  · rw [Heap.set_ne _ _ (ne i y n e e1)]; exact W.new i y n e e1
  · rw [Heap.set_get] at e ⊢
    split at e
    · rename_i e1; rw [if_pos e1]; exact e
    · rename_i e1; rw [if_neg e1]; exact W.old q' o' e
theorem Own.fresh (W : Own hb os h) {q : Nat} (hq : h q = none) : hb q = none := by
  cases e : hb q with
  | none => rfl
  | some o => rw [W.old q o e] at hq; cases hq
theorem Own.newC (W : Own hb os h) {r : Nat} (hr : h r = none) (o : AObj) : Own hb (os ++ [.cell r o]) (h.set r o) :=
  W.push trivial (fun n e => by rw [show n = r from e]; exact hr) (fun n e => by rw [show n = r from e, Heap.set_same]; rfl) (Heap.set_sub hr)
theorem Own.newS (W : Own hb os h) {r es : Nat} (hr : h r = none) (l : List AVal) : Own hb (os ++ [.slc es (.sl r es 0 l.length) l]) (h.set r (.row es l)) :=
  W.push (.inr ⟨r, rfl⟩) (fun n e => by rw [show n = r from e]; exact hr) (fun n e => by rw [show n = r from e, Heap.set_same]; rfl) (Heap.set_sub hr)
theorem Own.newN (W : Own hb os h) (es : Nat) : Own hb (os ++ [.slc es .nilsl []]) h :=
  W.push (.inl ⟨rfl, rfl⟩) (fun n e => e.elim) (fun n e => e.elim) (fun _ _ e => e)
theorem Own.put (W : Own hb os h) {i q : Nat} {o : AObj} (hi : os[i]? = some (.cell q o)) (o' : AObj) : Own hb (os.set i (.cell q o')) (h.set q o') :=
  W.change hi trivial (fun n e => .inl e) (fun n e => by rw [show n = q from e, Heap.set_same]; rfl) (fun n o2 e hne => by rw [Heap.set_ne _ _ hne]; exact e)
theorem Own.putS (W : Own hb os h) {i r es : Nat} {l : List AVal} (hi : os[i]? = some (.slc es (.sl r es 0 l.length) l)) {l' : List AVal} (hl : l'.length = l.length) : Own hb (os.set i (.slc es (.sl r es 0 l.length) l')) (h.set r (.row es l')) :=
  W.change hi (.inr ⟨r, by rw [hl]⟩) (fun n e => .inl e) (fun n e => by rw [show n = r from e, Heap.set_same]; rfl) (fun n o2 e hne => by rw [Heap.set_ne _ _ hne]; exact e)
theorem Own.sc (W : Own hb os h) {i es : Nat} {v : AVal} {l : List AVal} (hi : os[i]? = some (.slc es v l)) : Go.Sym.sc v = true ∧ cellsOf v = [v] ∧ v.isAgg = false := by
  rcases W.fit i _ hi with ⟨rfl, _⟩ | ⟨r, rfl⟩ <;> exact ⟨rfl, rfl, rfl⟩
theorem Own.len (W : Own hb os h) {i es : Nat} {v : AVal} {l : List AVal} (hi : os[i]? = some (.slc es v l)) (K : Int → Prop) : lenN v K = K l.length := by
  rcases W.fit i _ hi with ⟨rfl, rfl⟩ | ⟨r, rfl⟩ <;> rfl
theorem Own.appL (W : Own hb os h) {i es bytes : Nat} {v x : AVal} {l new : List AVal} {K : AVal → Heap → Prop} (hi : os[i]? = some (.slc es v l)) (hx : elemsA es h x = some new) (hne : new ≠ [])
    (h1 : l.length + new.length ≤ 4611686018427387904) (h2 : (l.length + new.length) * bytes ≤ 140737488355328) (hk : ∀ v' h', Own hb (os.set i (.slc es v' (l ++ new))) h' → K v' h') : appC es bytes h v x K := by
  unfold appC
  rw [hx]
  simp only
  unfold app
  rcases W.fit i _ hi with ⟨rfl, rfl⟩ | ⟨r, rfl⟩
  · refine ⟨⟨by simpa using h1, by simpa using h2⟩, fun e => absurd e hne, fun _ r hr _ => hk _ _ ?_⟩
    exact W.change hi (.inr ⟨r, rfl⟩) (fun n e => .inr (by rw [show n = r from e]; exact hr)) (fun n e => by rw [show n = r from e, Heap.set_same]; rfl) (fun q o e _ => Heap.set_sub hr q o e)
  · have hr := W.get i _ r hi rfl
    simp only [Nat.beq_refl, chk_true, hr, Ow.obj]
    refine ⟨⟨h1, h2⟩, by omega, fun _ r' hr' _ => ?_, fun e => absurd (by omega : 0 + l.length = l.length) e⟩
    rw [List.drop_zero]
    refine hk _ _ (W.change hi (.inr ⟨r', by simp⟩) (fun n e => ?_) (fun n e => by rw [show n = r' from e, Heap.set_same]; rfl) (fun q o e hne => ?_))
    · exact .inr (by rw [show n = r' from e]; exact hr')
    · have hq : q ≠ r := hne
      rw [Heap.set_ne _ _ (fun e1 => by rw [e1, hr'] at e; cases e)]
      unfold Heap.del
      simpa [hq] using e
theorem Own.app (W : Own hb os h) {i es bytes : Nat} {v x : AVal} {l : List AVal} {K : AVal → Heap → Prop} (hi : os[i]? = some (.slc es v l))
    (h1 : l.length < 4611686018427387904) (h2 : (l.length + 1) * bytes ≤ 140737488355328) (hk : ∀ v' h', Own hb (os.set i (.slc es v' (l ++ [x]))) h' → K v' h') : appC es bytes h v (.lsl es [x]) K :=
  W.appL hi (new := [x]) (by simp [elemsA]) (by simp) (by simp only [List.length_singleton]; omega) (by simpa using h2) hk
theorem Own.lit (W : Own hb os h) {i es : Nat} {v : AVal} {l l' : List AVal} (hi : os[i]? = some (.slc es v l)) {S : Nat → Prop} (hS : ∀ n, nameOf v n → S n) (hl : Lits h S l l') : ∃ v', Lit h S v v' ∧ SlOf es v' l' := by
  rcases W.fit i _ hi with ⟨rfl, rfl⟩ | ⟨r, rfl⟩
  · cases hl
    exact ⟨_, .refl _, .nil es⟩
  · exact ⟨.lsl es l', .sl (hS _ rfl) (W.get i _ r hi rfl) (by simp) (by simpa using hl), .lsl es l'⟩
open Classical in
noncomputable def mkH (hb : Heap) (os : List Ow) : Heap := fun q => if hx : ∃ y, (∃ j : Nat, os[j]? = some y) ∧ y.nm q then some (Classical.choose hx).obj else hb q
theorem Own.step (W : Own hb os h) (S : Nat → Prop) (os' : List Ow) (hS : ∀ n, S n → hb n = none)
    (ha : ∀ (j : Nat) (y' : Ow), os'[j]? = some y' → ∃ y, os[j]? = some y ∧ y'.fit ∧ (∀ n, y'.nm n → y.nm n ∧ ¬ S n) ∧ LitO h S y.obj y'.obj) : ∃ h', GStep h h' S ∧ Own hb os' h' := by
  have get : ∀ (j : Nat) (y : Ow) (n : Nat), os'[j]? = some y → y.nm n → mkH hb os' n = some y.obj := by
    intro j y n hj hn
    unfold mkH
    have hx : ∃ y, (∃ j : Nat, os'[j]? = some y) ∧ y.nm n := ⟨y, ⟨j, hj⟩, hn⟩
    rw [dif_pos hx]
    obtain ⟨⟨k, hk⟩, hn'⟩ := Classical.choose_spec hx
    obtain ⟨z, hz, _, hzn, _⟩ := ha j y hj
    obtain ⟨z', hz', _, hzn', _⟩ := ha k _ hk
    have e := W.one j k z z' n hz hz' (hzn n hn).1 (hzn' n hn').1
    subst e
    rw [hj] at hk
    rw [← Option.some.inj hk]
  refine ⟨mkH hb os', ⟨fun _ _ => trivial, fun q o' hq => ?_⟩, fun j y hj => ?_, get, fun j y n hj hn => ?_, fun j k y z n hj hk hn hm => ?_, fun q o hq => ?_⟩
  · unfold mkH at hq
    split at hq
    · rename_i hx
      obtain ⟨⟨k, hk⟩, hn'⟩ := Classical.choose_spec hx
      obtain ⟨z, hz, _, hzn, hl⟩ := ha k _ hk
      cases hq
      exact ⟨_, W.get k z q hz (hzn q hn').1, (hzn q hn').2, hl⟩
    · exact ⟨o', W.old q o' hq, (fun hs => by rw [hS q hs] at hq; cases hq), .refl _⟩
  · obtain ⟨z, hz, hf, _⟩ := ha j y hj
    exact hf
  · obtain ⟨z, hz, _, hzn, _⟩ := ha j y hj
    exact W.new j z n hz (hzn n hn).1
  · obtain ⟨u, hu, _, hun, _⟩ := ha j y hj
    obtain ⟨w, hw, _, hwn, _⟩ := ha k z hk
    exact W.one j k u w n hu hw (hun n hn).1 (hwn n hm).1
  · unfold mkH
    rw [dif_neg]
    · exact hq
    · rintro ⟨y, ⟨j, hj⟩, hn⟩
      obtain ⟨z, hz, _, hzn, _⟩ := ha j y hj
      rw [W.new j z q hz (hzn q hn).1] at hq
      cases hq
theorem Own.renum (W : Own hb os h) (os' : List Ow) (f : Nat → Nat) (hf : ∀ (j : Nat) (y : Ow), os'[j]? = some y → os[f j]? = some y) (inj : ∀ j, j < os'.length → ∀ k, k < os'.length → f j = f k → j = k) : Own hb os' h :=
  ⟨fun i y e => W.fit _ y (hf i y e), fun i y n e => W.get _ y n (hf i y e), fun i y n e => W.new _ y n (hf i y e),
    fun i j y z n e e1 h1 h2 => inj i (List.getElem?_eq_some_iff.1 e).1 j (List.getElem?_eq_some_iff.1 e1).1 (W.one _ _ y z n (hf i y e) (hf j z e1) h1 h2), W.old⟩
theorem Own.drop (W : Own hb os h) : GStep h hb fun _ => False := GStep.drop W.old
end
theorem base_step {hb h : Heap} {os : List Ow} (W : Own hb os h) (S : Nat → Prop) (hS : ∀ n, S n → hb n = none) : GStep h hb S :=
  ⟨fun _ _ => trivial, fun q o hq => ⟨o, W.old q o hq, (fun hs => by rw [hS q hs] at hq; cases hq), .refl o⟩⟩
end Go.Sym

/- What an operation computes is one value; it looks at its operands alone. No condition: laws over any program. An operation looks at its operands alone; what a region that draws its order must keep. No condition: laws over any program. A region that draws its order: whatever the order, the model comes to what one order says. No condition: laws over any program. Whatever order is drawn: the proof. No condition: laws over any program. Whatever order is drawn: the induction, and the draw itself. No condition: laws over any program. The order that the model draws is one that fits. No condition: laws over any program. A region that draws its order and in which some turns of memory stand in no order: each order of them is looked at. No condition: laws over any program. Regions and code: the evaluator is sound. No condition: laws over any program. The evaluator is sound; from the evaluator to a call. No condition: laws over any program. -/
import Derived.Test.YtaopdcjjcpgebaaGreatDoorM2

set_option linter.unusedVariables false
set_option linter.unusedSimpArgs false

namespace Go.Sym
open Go
def Det {α : Type} (F : (α → Prop) → Prop) : Prop := ∀ K, F K → ∃ v, K v ∧ F fun x => x = v
theorem Det.val {α : Type} (v : α) : Det fun K : α → Prop => K v := fun _ h => ⟨v, h, rfl⟩
theorem Det.no {α : Type} : Det fun _ : α → Prop => False := fun _ h => h.elim
theorem Det.and {α : Type} {c : Prop} {F : (α → Prop) → Prop} (hF : Det F) : Det fun K => c ∧ F K := fun K ⟨hc, h⟩ => let ⟨v, a, b⟩ := hF K h; ⟨v, a, hc, b⟩
theorem Det.chk {α : Type} {c : Bool} {F : (α → Prop) → Prop} (hF : Det F) : Det fun K => chk c (F K) := by
  cases c
  · exact Det.no
  · exact hF
theorem Det.bind {α β : Type} {F : (α → Prop) → Prop} {G : α → (β → Prop) → Prop} (hF : Det F) (hm : ∀ {A B : α → Prop}, (∀ v, A v → B v) → F A → F B) (hG : ∀ v, Det (G v)) : Det fun K => F fun v => G v K := by
  intro K h
  obtain ⟨v, h1, h2⟩ := hF _ h
  obtain ⟨u, h3, h4⟩ := hG v K h1
  exact ⟨u, h3, hm (fun x e => by subst e; exact h4) h2⟩
theorem Det.ite {α : Type} {c : Prop} [Decidable c] {F G : (α → Prop) → Prop} (hF : Det F) (hG : Det G) : Det fun K => if c then F K else G K := by
  by_cases h : c
  · simpa only [if_pos h] using hF
  · simpa only [if_neg h] using hG
theorem fitI_det (k : IntKind) (n : Int) : Det (fitI k n) := by
  intro K h
  unfold fitI at h ⊢
  split at h
  · exact ⟨_, h.2, h.1, rfl⟩
  · exact ⟨_, h, rfl⟩
theorem binA_det (op : BinOp) (x y : AVal) : Det (binA op x y) := by
  intro K h
  unfold binA at h
  split at h <;> first
    | exact h.elim
    | (unfold binA; exact Det.chk (fitI_det _ _) K h)
    | (unfold binA; exact Det.chk (Det.and (fitI_det _ _)) K h)
    | (unfold binA; exact Det.chk (Det.and (Det.val _)) K h)
    | (unfold binA; exact Det.chk (Det.val _) K h)
    | (unfold binA; exact Det.and (Det.val _) K h)
    | (unfold binA; exact Det.val _ K h)
theorem pickA_det (c a b : AVal) : Det (pickA c a b) := by
  intro K h
  unfold pickA at h ⊢
  split at h
  · exact ⟨_, h, rfl⟩
  · exact Det.ite (Det.val _) (Det.val _) K h
  · exact h.elim
theorem unA_det (op : UnOp) (x : AVal) : Det (unA op x) := by
  intro K h
  unfold unA at h ⊢
  split at h
  · exact ⟨_, h, rfl⟩
  · exact fitI_det _ _ K h
  · exact ⟨_, h, rfl⟩
  · exact h.elim
theorem eqK_det (op : BinOp) (r : Bool) : Det fun K => eqK op K r := by
  intro K h
  unfold eqK at h ⊢
  split at h
  · exact ⟨_, h, rfl⟩
  · exact ⟨_, h, rfl⟩
  · exact h.elim
theorem eqA_det (P : Program) (op : BinOp) (t : TypeId) (x y : AVal) : Det (eqA P op t x y) := by
  intro K h
  unfold eqA at h ⊢
  split at h
  · refine Det.chk (F := fun K => nilS x (eqK op K)) (fun K h => ?_) K h
    simp only [nilS_eq] at h ⊢; unfold nilS0 at h ⊢
    split at h <;> first | exact h.elim | exact eqK_det op _ K h
  · refine Det.chk (F := fun K => nilM x (eqK op K)) (fun K h => ?_) K h
    unfold nilM at h ⊢
    split at h <;> first | exact h.elim | exact eqK_det op _ K h
  · refine Det.chk (F := fun K => nilF x (eqK op K)) (fun K h => ?_) K h
    unfold nilF at h ⊢
    split at h <;> first | exact h.elim | exact eqK_det op _ K h
  · refine Det.chk (F := fun K => nilP x (eqK op K)) (fun K h => ?_) K h
    simp only [nilP_eq] at h ⊢; unfold nilP0 at h ⊢
    split at h <;> first | exact h.elim | exact eqK_det op _ K h
  · unfold eqQ at h ⊢
    obtain ⟨h1, h2⟩ := h
    split at h2
    · rename_i r hr
      obtain ⟨v, a, b⟩ := eqK_det op r K h2
      exact ⟨v, a, h1, b⟩
    · exact h2.elim
theorem convA_det (P : Program) (s d : TypeId) (x : AVal) : Det (convA P s d x) := by
  intro K h
  unfold convA at h ⊢
  split at h
  · exact fitI_det _ _ K h
  · exact ⟨_, h, rfl⟩
  · exact ⟨_, h, rfl⟩
  · exact h.elim
theorem addOff_det (p : AVal) (n : Nat) : Det (addOff p n) := by
  intro K h
  simp only [addOff_eq] at h ⊢; unfold addOff0 at h ⊢
  split at h
  · exact ⟨_, h, rfl⟩
  · exact ⟨_, h, rfl⟩
  · exact h.elim
theorem prt_det (k : Option Nat) (cs : List AVal) (off : Nat) : Det (prt k cs off) := by
  intro K h
  unfold prt at h ⊢
  split at h
  · split at h
    · exact ⟨_, h, rfl⟩
    · exact h.elim
  · exact Det.chk (Det.val _) K h
theorem fieldAddrA_det (P : Program) (s : TypeId) (f : Nat) (p : AVal) : Det (fieldAddrA P s f p) := by
  intro K h
  unfold fieldAddrA at h ⊢
  split at h
  · exact addOff_det _ _ K h
  · exact h.elim
theorem fieldA_det (P : Program) (s : TypeId) (f : Nat) (x : AVal) : Det (fieldA P s f x) := by
  intro K h
  unfold fieldA at h ⊢
  split at h
  · split at h
    · unfold fld at h ⊢
      split at h
      · exact prt_det _ _ _ K h
      · exact h.elim
    · exact h.elim
  · exact h.elim
theorem ixS_det (es : Nat) (x : AVal) (i : Int) : Det (ixS es x i) := by
  intro K h
  simp only [ixS_eq] at h ⊢; unfold ixS0 at h ⊢
  split at h
  · exact Det.chk (Det.and (Det.val _)) K h
  · obtain ⟨hc, h0, h1⟩ := chk_iff.1 h
    split at h1
    · rename_i e he
      exact ⟨_, h1, chk_iff.2 ⟨hc, h0, by simp only⟩⟩
    · exact h1.elim
  · exact h.elim
theorem indexAddrA_det (P : Program) (t : TypeId) (x ix : AVal) : Det (indexAddrA P t x ix) := by
  intro K h
  unfold indexAddrA at h ⊢
  split at h
  · exact ixS_det _ _ _ K h
  · exact Det.and (addOff_det _ _) K h
  · exact h.elim
theorem indexA_det (P : Program) (t : TypeId) (x ix : AVal) : Det (indexA P t x ix) := by
  intro K h
  unfold indexA at h ⊢
  split at h
  · split at h
    · unfold ixStr at h ⊢
      split at h
      · exact ⟨_, h.2, h.1, rfl⟩
      · exact h.elim
    · split at h
      · unfold ixAgg at h ⊢
        split at h
        · exact Det.and (prt_det _ _ _) K h
        · exact h.elim
      · exact h.elim
    · exact h.elim
  · exact h.elim
theorem slA_det (es : Nat) (x : AVal) (l hh : Int) : Det (slA es x l hh) := by
  intro K h
  simp only [slA_eq] at h ⊢; unfold slA0 at h ⊢
  split at h
  · exact Det.chk (Det.and (Det.val _)) K h
  · exact Det.chk (Det.and (Det.val _)) K h
  · exact ⟨_, h.2.2, h.1, h.2.1, rfl⟩
  · exact h.elim
theorem slX_det (es : Nat) (x : AVal) (l : Int) (hh : Option Int) : Det (slX es x l hh) := by
  intro K h
  unfold slX at h ⊢
  split at h
  · exact slA_det _ _ _ _ K h
  · simp only [lenN_eq] at h ⊢; unfold lenN0 at h ⊢
    split at h <;> first | exact h.elim | exact slA_det _ _ _ _ K h
theorem slM_det (es : Nat) (x : AVal) (l hh m : Int) : Det (slM es x l hh m) := by
  intro K h
  unfold slM at h ⊢
  split at h
  · exact Det.chk (Det.and (Det.val _)) K h
  · exact ⟨_, h.2, h.1, rfl⟩
  · exact h.elim
theorem slM3_det (P : Program) (t : TypeId) (x : AVal) (lo hi : Option AVal) (mx : AVal) : Det (slM3 P t x lo hi mx) := by
  intro K h
  unfold slM3 at h ⊢
  unfold bndA at h ⊢
  split at h <;> first
    | exact h.elim
    | skip
  all_goals
    simp only at h ⊢
    split at h <;> first
      | exact h.elim
      | skip
    all_goals
      split at h <;> first
        | exact h.elim
        | skip
      all_goals
        split at h <;> first
          | exact h.elim
          | exact slM_det _ _ _ _ _ K h
theorem sliceA_det (P : Program) (t : TypeId) (x : AVal) (lo hi mx : Option AVal) : Det (sliceA P t x lo hi mx) := by
  intro K h
  unfold sliceA at h ⊢
  split at h
  · exact slM3_det _ _ _ _ _ _ K h
  · unfold bndA at h ⊢
    split at h <;> first
      | exact h.elim
      | skip
    all_goals
      split at h <;> first
        | exact h.elim
        | skip
      all_goals
        simp only at h ⊢
        split at h
        · split at h
          · unfold slStr at h ⊢
            split at h
            · exact ⟨_, h.2, h.1, rfl⟩
            · exact ⟨_, h.2, h.1, rfl⟩
          · exact h.elim
        · split at h
          · exact slX_det _ _ _ _ K h
          · exact h.elim
        · exact h.elim
theorem extractA_det (x : AVal) (i : Nat) : Det (extractA x i) := by
  intro K h
  unfold extractA at h ⊢
  split at h
  · split at h
    · exact ⟨_, h, rfl⟩
    · exact h.elim
  · exact h.elim
theorem nilCheckA_det (x : AVal) : Det (nilCheckA x) := by
  intro K h
  unfold nilCheckA at h ⊢
  split at h
  · exact ⟨_, h, rfl⟩
  · exact ⟨_, h, rfl⟩
  · exact ⟨_, h, rfl⟩
  · exact h.elim
theorem cellsK_mono {k : Option Nat} {v : AVal} {A B : List AVal → Prop} (hm : ∀ l, A l → B l) (h : cellsK k v A) : cellsK k v B := by
  unfold cellsK at h ⊢
  split at h
  · obtain ⟨a, b⟩ := chk_iff.1 h
    exact chk_iff.2 ⟨a, hm _ b⟩
  · unfold aggN at h ⊢
    split at h
    · obtain ⟨a, b⟩ := chk_iff.1 h
      exact chk_iff.2 ⟨a, hm _ b⟩
    · exact h.elim
theorem fillA_det (place : Nat → Option (Nat × Option Nat)) : ∀ (parts : List (Nat × AVal)) (cells : List AVal) (K : List AVal → Prop), fillA place cells parts K → ∃ v, K v ∧ fillA place cells parts fun x => x = v
  | [], cells, K, h => ⟨cells, h, rfl⟩
  | (i, v) :: rest, cells, K, h => by
    simp only [fillA] at h ⊢
    split at h
    · exact h.elim
    · rename_i off k hpl
      obtain ⟨h1, h2, h3, h4, h5⟩ := cellsK_inv h
      obtain ⟨h6, h7⟩ := chk_iff.1 h5
      obtain ⟨u, a, b⟩ := fillA_det place rest _ K h7
      refine ⟨u, a, ?_⟩
      have key : ∀ cs, cs = cellsOf v → chk (Nat.ble (off + k.getD 1) cells.length) (fillA place (cells.take off ++ cs ++ cells.drop (off + k.getD 1)) rest fun x => x = u) := by
        intro cs e
        subst e
        exact chk_iff.2 ⟨h6, b⟩
      have hcell : cellsK k v fun cs => cs = cellsOf v := by
        cases k with
        | none =>
          have := h3 rfl
          refine chk_iff.2 ⟨?_, ?_⟩
          · simp [sc, h1, this]
          · cases v <;> first | rfl | simp [AVal.isAgg] at this
        | some n =>
          have := h4 (by simp)
          cases v <;> first
            | (simp [AVal.isAgg] at this; done)
            | skip
          refine chk_iff.2 ⟨?_, rfl⟩
          rw [← (show _ = n from h2)]
          exact Nat.beq_refl _
      exact cellsK_mono key hcell
theorem buildA_det (P : Program) (t : TypeId) (parts : List (Nat × AVal)) : Det (buildA P t parts) := by
  intro K h
  unfold buildA at h ⊢
  split at h
  · obtain ⟨v, a, b⟩ := fillA_det _ _ _ _ h
    refine ⟨_, a, ?_⟩
    rename_i z pl _ _
    have : ∀ (parts : List (Nat × AVal)) (cells : List AVal) (A B : List AVal → Prop), (∀ l, A l → B l) → fillA pl cells parts A → fillA pl cells parts B := by
      intro parts
      induction parts with
      | nil => intro cells A B hm h; exact hm _ h
      | cons x rest ih =>
        obtain ⟨i, v⟩ := x
        intro cells A B hm h
        simp only [fillA] at h ⊢
        split at h
        · exact h.elim
        · refine cellsK_mono (fun l hl => ?_) h
          obtain ⟨a, b⟩ := chk_iff.1 hl
          exact chk_iff.2 ⟨a, ih _ A B hm b⟩
    exact this _ _ _ _ (fun l e => by rw [e]) b
  · exact h.elim
theorem bltA_det (P : Program) (b : Builtin) (ts : List TypeId) (xs : List AVal) : Det (bltA P b ts xs) := by
  intro K h
  unfold bltA at h ⊢
  split at h
  · unfold lenOpA at h ⊢
    split at h
    · unfold lenStr at h ⊢
      split at h
      · exact ⟨_, h, rfl⟩
      · exact h.elim
    · simp only [lenN_eq] at h ⊢; unfold lenN0 at h ⊢
      split at h
      · exact ⟨_, h, rfl⟩
      · exact ⟨_, h, rfl⟩
      · exact ⟨_, h, rfl⟩
      · exact h.elim
    · exact ⟨_, h, rfl⟩
    · exact h.elim
  · exact Det.chk (Det.val _) K h
  · exact Det.chk (Det.val _) K h
  · exact h.elim
theorem vop_det (P : Program) (ev : Operand → AVal) (op : Op) : Det (vop P ev op) := by
  intro K h
  unfold vop at h
  split at h
  · exact ⟨_, h, rfl⟩
  · exact ⟨_, h, rfl⟩
  · exact pickA_det _ _ _ K h
  · exact unA_det _ _ K h
  · rename_i b t x y yt
    show ∃ v, K v ∧ (match scalarT P t with | true => binA b (ev x) (ev y) _ | false => eqA P b t (ev x) (ev y) _)
    cases hs : scalarT P t with
    | true => rw [hs] at h; exact binA_det _ _ _ K h
    | false => rw [hs] at h; exact eqA_det _ _ _ _ _ K h
  · exact convA_det _ _ _ _ K h
  · exact ⟨_, h, rfl⟩
  · exact fieldAddrA_det _ _ _ _ K h
  · exact fieldA_det _ _ _ _ K h
  · exact indexAddrA_det _ _ _ _ K h
  · exact indexA_det _ _ _ _ K h
  · exact sliceA_det _ _ _ _ _ _ K h
  · exact extractA_det _ _ K h
  · exact nilCheckA_det _ K h
  · exact buildA_det _ _ _ K h
  · exact bltA_det _ _ _ _ K h
  · exact h.elim
theorem loadA_det (P : Program) (h : Heap) (t : TypeId) (p : AVal) : Det (loadA P h t p) := by
  intro K hk
  unfold loadA at hk ⊢
  split at hk
  · unfold ld1 at hk ⊢
    split at hk
    · exact ⟨_, hk, rfl⟩
    · exact hk.elim
  · obtain ⟨h1, h2⟩ := chk_iff.1 hk
    unfold ldN at h2 ⊢
    obtain ⟨h3, h4⟩ := chk_iff.1 h2
    exact ⟨_, h4, chk_iff.2 ⟨h1, chk_iff.2 ⟨h3, rfl⟩⟩⟩
  · exact hk.elim
theorem lookupA_det (P : Program) (h : Heap) (t : TypeId) (m k : AVal) (ok : Bool) : Det (lookupA P h t m k ok) := by
  intro K hk
  unfold lookupA at hk ⊢
  split at hk
  · split at hk
    · obtain ⟨h1, hk⟩ := chk_iff.1 hk
      unfold mapGet at hk
      split at hk
      · rename_i v b hg
        cases ok with
        | true => exact ⟨_, hk, chk_iff.2 ⟨h1, by unfold mapGet; rw [hg]⟩⟩
        | false => exact ⟨_, hk, chk_iff.2 ⟨h1, by unfold mapGet; rw [hg]⟩⟩
      · exact hk.elim
    · exact hk.elim
  · exact hk.elim
theorem entryA_det (h : Heap) (x : AVal) : Det (entryA h x) := by
  intro K hk
  unfold entryA at hk
  split at hk
  · split at hk
    · rename_i hq
      exact ⟨_, hk, by unfold entryA; simp only [hq]⟩
    · exact hk.elim
  · exact hk.elim
theorem bytesStrA_det (P : Program) (h : Heap) (t t' : TypeId) (x : AVal) : Det (bytesStrA P h t t' x) := by
  intro K hk
  unfold bytesStrA at hk ⊢
  obtain ⟨h1, hk⟩ := chk_iff.1 hk
  unfold bStr at hk
  split at hk
  · rename_i s hs
    exact ⟨_, hk, chk_iff.2 ⟨h1, by unfold bStr; rw [hs]⟩⟩
  · exact hk.elim
theorem lenMapA_det (P : Program) (h : Heap) (t : TypeId) (x : AVal) : Det (lenMapA P h t x) := by
  intro K hk
  unfold lenMapA at hk ⊢
  obtain ⟨h1, hk⟩ := chk_iff.1 hk
  unfold lenM at hk
  split at hk
  · rename_i s hs
    exact ⟨_, hk, chk_iff.2 ⟨h1, by unfold lenM; rw [hs]⟩⟩
  · exact hk.elim
theorem rop_det (P : Program) (h : Heap) (ev : Operand → AVal) (op : Op) : Det (rop P h ev op) := by
  intro K hk
  unfold rop at hk
  split at hk
  · exact loadA_det _ _ _ _ K hk
  · exact lookupA_det _ _ _ _ _ _ K hk
  · exact entryA_det _ _ K hk
  · exact bytesStrA_det _ _ _ _ _ K hk
  · split at hk
    · rename_i x t ha ht
      obtain ⟨v, h1, h2⟩ := lenMapA_det _ _ _ _ K hk
      refine ⟨v, h1, ?_⟩
      unfold rop
      simp only [ha, ht]
      exact h2
    · exact hk.elim
  · exact hk.elim
end Go.Sym

namespace Go.Sym
open Go
variable [Nam]
omit [Nam] in
theorem map_parts {ev ev' : Operand → AVal} {ps : Array (Nat × Operand)} (h : ∀ x ∈ (ps.toList.map (·.2)).toArray.toList, ev x = ev' x) :
    (ps.toList.map fun (i, x) => (i, ev x)) = (ps.toList.map fun (i, x) => (i, ev' x)) := by
  apply List.map_congr_left
  intro ⟨i, x⟩ hx
  have : x ∈ (ps.toList.map (·.2)).toArray.toList := by simpa using ⟨i, by simpa using hx⟩
  simp only [h x this]
omit [Nam] in
theorem map_ops {ev ev' : Operand → AVal} {xs : Array Operand} (h : ∀ x ∈ xs.toList, ev x = ev' x) : xs.toList.map ev = xs.toList.map ev' := List.map_congr_left h
omit [Nam] in
theorem map_opt {ev ev' : Operand → AVal} {x : Option Operand} (h : ∀ y, x = some y → ev y = ev' y) : x.map ev = x.map ev' := by
  cases x with
  | none => rfl
  | some y => simp [h y rfl]
omit [Nam] in
theorem vop_congr {P : Program} {ev ev' : Operand → AVal} {op : Op} {K : AVal → Prop} (h : ∀ x ∈ op.operands.toList, ev x = ev' x) : vop P ev op K = vop P ev' op K := by
  cases op <;> simp only [vop] <;> (try rfl) <;> first
    | (simp only [Op.operands, List.mem_cons, List.not_mem_nil, or_false] at h; simp only [h _ rfl]; done)
    | skip
  case pick c a b =>
    rw [h c (by simp [Op.operands]), h a (by simp [Op.operands]), h b (by simp [Op.operands])]
  case binOp b t x y yt =>
    rw [h x (by simp [Op.operands]), h y (by simp [Op.operands])]
  case makeFunc f a c =>
    rw [map_ops (xs := a) fun x hx => h x (by simp [Op.operands]; exact .inl (by simpa using hx)), map_ops (xs := c) fun x hx => h x (by simp [Op.operands]; exact .inr (by simpa using hx))]
  case indexAddr t x i => rw [h x (by simp [Op.operands]), h i (by simp [Op.operands])]
  case index t x i => rw [h x (by simp [Op.operands]), h i (by simp [Op.operands])]
  case slice t x lo hi mx =>
    rw [h x (by simp [Op.operands]), map_opt (x := lo) fun y hy => h y (by simp [Op.operands, hy]), map_opt (x := hi) fun y hy => h y (by simp [Op.operands, hy]), map_opt (x := mx) fun y hy => h y (by simp [Op.operands, hy])]
  case build t ps => rw [map_parts h]
  case call c =>
    obtain ⟨callee, args, ts⟩ := c
    cases callee <;> (try rfl)
    simp only [vop]
    rw [map_ops (xs := args) fun x hx => h x (by simp [Op.operands, Call.operands]; simpa using hx)]
  all_goals (first | rw [h _ (by simp [Op.operands])] | skip)
omit [Nam] in
theorem rop_congr {P : Program} {hp : Heap} {ev ev' : Operand → AVal} {op : Op} {K : AVal → Prop} (h : ∀ x ∈ op.operands.toList, ev x = ev' x) : rop P hp ev op K = rop P hp ev' op K := by
  cases op <;> simp only [rop]
  case load t a => rw [h a (by simp [Op.operands])]
  case lookup t m k ok => rw [h m (by simp [Op.operands]), h k (by simp [Op.operands])]
  case entry x => rw [h x (by simp [Op.operands])]
  case convert t t' x => rw [h x (by simp [Op.operands])]
  case call c =>
    obtain ⟨callee, args, ts⟩ := c
    cases callee with
    | builtin b =>
      cases b <;> simp only [rop]
      split
      · rename_i x t ha ht
        have hx : x ∈ args.toList := by rw [ha]; simp
        rw [h x (by simp [Op.operands, Call.operands]; simpa using hx)]
      · rfl
    | _ => simp only [rop]
theorem wop_congr {P : Program} {lit : Bool} {hp : Heap} {ev ev' : Operand → AVal} {op : Op} {K : AVal → Heap → Prop} (h : ∀ x ∈ op.operands.toList, ev x = ev' x) : wop P lit hp ev op K = wop P lit hp ev' op K := by
  cases op <;> simp only [wop]
  case store t a x => rw [h a (by simp [Op.operands]), h x (by simp [Op.operands])]
  case box t x => rw [h x (by simp [Op.operands])]
  case buildSlice t n ps => rw [map_parts h]
  case makeSlice t l c => rw [h l (by simp [Op.operands]), h c (by simp [Op.operands])]
  case makeMap t r => rw [map_opt (x := r) fun y hy => h y (by simp [Op.operands, hy])]
  case mapUpdate t m k x => rw [h m (by simp [Op.operands]), h k (by simp [Op.operands]), h x (by simp [Op.operands])]
  case range t x => rw [h x (by simp [Op.operands])]
  case next x s => rw [h x (by simp [Op.operands])]
  case insert t m k x => rw [h m (by simp [Op.operands]), h k (by simp [Op.operands]), h x (by simp [Op.operands])]
  case mapEntry t m k => rw [h m (by simp [Op.operands]), h k (by simp [Op.operands])]
  case entryStore t m s x => rw [h m (by simp [Op.operands]), h s (by simp [Op.operands]), h x (by simp [Op.operands])]
  case convert t t' x => rw [h x (by simp [Op.operands])]
  case call c =>
    obtain ⟨callee, args, ts⟩ := c
    cases callee with
    | builtin b =>
      cases b <;> try (simp only [wop]; done)
      all_goals simp only [wop]
      all_goals
        split
        · rename_i s x t t' ha ht
          have hs : s ∈ args.toList := by rw [ha]; simp
          have hx : x ∈ args.toList := by rw [ha]; simp
          rw [h s (by simp [Op.operands, Call.operands]; simpa using hs), h x (by simp [Op.operands, Call.operands]; simpa using hx)]
        · rfl
    | _ => simp only [wop]
end Go.Sym

namespace Go.Sym
open Go
variable [Nam]
def opS (P : Program) (o : Oper) (lit : Bool) (ev : Operand → AVal) (h : Heap) (K : AVal → Heap → Prop) : Prop :=
  match opK P o.op with
  | .v => vop P ev o.op fun v => K v h
  | .r => rop P h ev o.op fun v => K v h
  | .w => wop P lit h ev o.op K
  | .c => match o.op with
    | .call { callee := .value f, args, .. } => callV P (ev f) (args.toList.map ev) h K
    | _ => False
theorem opS_congr {P : Program} {o : Oper} {lit : Bool} {h : Heap} {ev ev' : Operand → AVal} {K : AVal → Heap → Prop} (he : ∀ x ∈ o.op.operands.toList, ev x = ev' x) : opS P o lit ev h K = opS P o lit ev' h K := by
  unfold opS
  cases hk : opK P o.op with
  | v => exact vop_congr he
  | r => exact rop_congr he
  | w => exact wop_congr he
  | c =>
    simp only
    split
    · rename_i f args ats hop
      rw [hop] at he
      rw [he f (by simp [Op.operands, Call.operands]), map_ops (xs := args) fun x hx => he x (by simp [Op.operands, Call.operands]; exact .inr (by simpa using hx))]
    · rfl
open Classical in
theorem opS_ok {P : Program} {o : Oper} {lit : Bool} {ev : Operand → AVal} {h : Heap} {K : AVal → Heap → Prop} {κ : Ghost} {a : Act} {w : World} (H : RelH κ h w)
    (he : ∀ x ∈ o.op.operands.toList, RelV κ (ev x) (a.eval x)) (hk : opS P o lit ev h K) {next : Act → World → Prop}
    (hn : ∀ κ' av v h' w', κ.Le κ' → RelH κ' h' w' → RelV κ' av v → K av h' → next (a.put o.dst v) w') (Q : Exit → Act → World → Prop) {ro : Option Nat} : o.wpIn (FW ro) 0 P a w next Q := by
  let ev' : Operand → AVal := fun x => if x ∈ o.op.operands.toList then ev x else .undef
  have hee : ∀ x ∈ o.op.operands.toList, ev x = ev' x := fun x hx => by simp only [ev']; rw [if_pos hx]
  have hev : ∀ x, RelV κ (ev' x) (a.eval x) := by
    intro x
    simp only [ev']
    split
    · rename_i hx; exact he x hx
    · exact .undef _
  rw [opS_congr hee] at hk
  have hd : ∀ c, o.op ≠ .defer c := by
    intro c e
    unfold opS at hk
    rw [e] at hk
    exact hk
  refine wpIn_of_exec hd ?_
  unfold opS at hk
  split at hk
  · obtain ⟨v, av, h1, h2, h3⟩ := vop_ok (P := P) hev hk
    rw [h1, Oper.uponIn_value]
    exact hn κ av v h w (Ghost.Le.refl κ) H h2 h3
  · obtain ⟨v, av, h1, h2, h3⟩ := rop_ok H hev hk
    rw [h1, Oper.uponIn_value]
    exact hn κ av v h w (Ghost.Le.refl κ) H h2 h3
  · obtain ⟨r, v, w', κ', av, h', h1, h2, h3, h4, h5, h6⟩ := wop_ok H hev hk
    rw [h1]
    rcases h2 with rfl | ⟨rfl, rfl⟩
    · rw [Oper.uponIn_value]
      exact hn κ' av v h' w' h3 h4 h5 h6
    · rw [Oper.uponIn_skip]
      exact hn κ' av undef h' w' h3 h4 h5 h6
  · split at hk
    · rename_i f args ats hop
      exact callV_ok hop H (hev f) (relVs_map (κ := κ) (f := ev') (g := a.eval) args.toList (fun x _ => hev x)) hk hn
    · exact hk.elim
/- ---------------- the one order ---------------- -/
def guardT (ops : Array Oper) (o : Oper) : Option (Option Nat × Bool) :=
  match o.guard with
  | none => none
  | some (j, want) => some (dstOf ops j, want)
def depB (bs : List Nat) (i j : Nat) : Bool := Nat.testBit (bs.getD j 0) i
def recheck (bs : List Nat) (i : Nat) : List (Nat × (Heap → Prop)) → Heap → Prop → Prop
  | [], _, X => X
  | (p, R) :: l, h, X => match depB bs p i with
    | true => recheck bs i l h X
    | false => R h ∧ recheck bs i l h X
def pcallV (P : Program) (fv : AVal) (args : List AVal) (h : Heap) (K : AVal → Prop) : Prop := ∃ v, callV P fv args h (fun v' h' => v' = v ∧ h' = h) ∧ K v
def execD (P : Program) (N : Nat) (bs : List Nat) (o : Oper) (i : Nat) (lit : Bool) (σ : Env) (h : Heap) (pd : List (Nat × (Heap → Prop))) (cont : Env → Heap → List (Nat × (Heap → Prop)) → Prop) : Prop :=
  match opK P o.op with
  | .v => vop P (evA σ) o.op fun v => typ (kds P o.type) v fun v => cont (putD N σ o.dst v) h pd
  | .r => rop P h (evA σ) o.op fun v => typ (kds P o.type) v fun v => cont (putD N σ o.dst v) h ((i, fun h' => rop P h' (evA σ) o.op fun v' => v' = v) :: pd)
  | .w => wop P lit h (evA σ) o.op fun v h' => typ (kds P o.type) v fun v => recheck bs i pd h' (cont (putD N σ o.dst v) h' pd)
  | .c => match o.op with
    | .call { callee := .value f, args, .. } => match lit with
      | true => pcallV P (evA σ f) (args.toList.map (evA σ)) h fun v => typ (kds P o.type) v fun v =>
          cont (putD N σ o.dst v) h ((i, fun h' => callV P (evA σ f) (args.toList.map (evA σ)) h' fun v' h'' => v' = v ∧ h'' = h') :: pd)
      | false => callV P (evA σ f) (args.toList.map (evA σ)) h fun v h' => typ (kds P o.type) v fun v => recheck bs i pd h' (cont (putD N σ o.dst v) h' pd)
    | _ => False
def evD (P : Program) (N : Nat) (ops : Array Oper) (bs : List Nat) : List (Nat × Bool) → Env → Heap → List (Nat × (Heap → Prop)) → (Env → Heap → Prop) → Prop
  | [], σ, h, _, K => K σ h
  | (i, lit) :: l, σ, h, pd, K =>
    match ops[i]? with
    | none => False
    | some o =>
      match guardT ops o with
      | none => execD P N bs o i lit σ h pd fun σ h pd => evD P N ops bs l σ h pd K
      | some (none, _) => False
      | some (some t, want) => match σ t with
        | .bool b => ifW b want (execD P N bs o i lit (upd σ t (.bool want)) h pd fun σ h pd => evD P N ops bs l σ h pd K)
          (evD P N ops bs l (putD N (upd σ t (.bool (!want))) o.dst (.tuple [])) h pd K)
        | .tuple [] => evD P N ops bs l (putD N σ o.dst (.tuple [])) h pd K
        | _ => False
def isWB (P : Program) (ops : Array Oper) (x : Nat × Bool) : Bool :=
  match ops[x.1]? with
  | some o => match opK P o.op with
    | .w => true
    | .c => !x.2
    | _ => false
  | none => false
def tmpsOf (xs : List Operand) : List Nat := xs.filterMap fun | .tmp t => some t | _ => none
def namesOf (ops : Array Oper) (i : Nat) : List Nat :=
  match ops[i]? with
  | some o => (match o.dst with | some d => [d] | none => []) ++ (match guardT ops o with | some (some t, _) => [t] | _ => []) ++ tmpsOf o.op.operands.toList
  | none => []
def memB (t : Nat) : List Nat → Bool
  | [] => false
  | x :: l => Nat.beq t x || memB t l
omit [Nam] in
theorem memB_iff {t : Nat} : ∀ {l : List Nat}, memB t l = true ↔ t ∈ l
  | [] => by simp [memB]
  | x :: l => by
    simp only [memB, Bool.or_eq_true, memB_iff (l := l), List.mem_cons]
    constructor
    · rintro (h | h)
      · exact .inl (Nat.eq_of_beq_eq_true h)
      · exact .inr h
    · rintro (rfl | h)
      · exact .inl (Nat.beq_refl _)
      · exact .inr h
def shareB (ops : Array Oper) (i j : Nat) : Bool :=
  (match dstOf ops i with | some d => memB d (namesOf ops j) | none => false) || (match dstOf ops j with | some d => memB d (namesOf ops i) | none => false)
def sameDst (ops : Array Oper) (i j : Nat) : Bool :=
  match dstOf ops i, dstOf ops j with
  | some d, some e => Nat.beq d e
  | _, _ => false
def pairOK (P : Program) (ops : Array Oper) (bs : List Nat) (k j : Nat × Bool) : Bool :=
  !depB bs j.1 k.1 && (!isWB P ops k || depB bs k.1 j.1) && (!shareB ops k.1 j.1 || depB bs k.1 j.1) && !Nat.beq k.1 j.1 && !sameDst ops k.1 j.1
def walkOK (P : Program) (N : Nat) (ops : Array Oper) (bs : List Nat) : List (Nat × Bool) → Bool
  | [] => true
  | k :: l => !depB bs k.1 k.1 && (match dstOf ops k.1 with | some d => Nat.blt d N | none => true) && Nat.blt k.1 ops.size && l.all (pairOK P ops bs k) && walkOK P N ops bs l
def befOK (ops : Array Oper) (bs : List Nat) : Bool :=
  (List.range ops.size).all fun i => match ops[i]? with
    | some o => o.after.toList.all (fun e => !Region.binds .any e || Nat.blt e.on i) &&
        Nat.beq (bs.getD i 0) (o.after.toList.foldr (fun e s => match Region.binds .any e with | true => Nat.lor (Nat.lor (2 ^ e.on) (bs.getD e.on 0)) s | false => s) 0)
    | none => false
def coverOK (n : Nat) (c : List (Nat × Bool)) : Bool := (List.range n).all fun i => memB i (c.map (·.1))
def drawOK (P : Program) (N : Nat) (ops : Array Oper) (bs : List Nat) (c : List (Nat × Bool)) : Bool :=
  befOK ops bs && coverOK ops.size c && walkOK P N ops bs c
end Go.Sym

namespace Go.Sym
open Go
variable [Nam]
variable {ro : Option Nat}
structure DF (P : Program) (N : Nat) (ops : Array Oper) (bs : List Nat) (c : List (Nat × Bool)) : Prop where
  pw : c.Pairwise fun k j => pairOK P ops bs k j = true
  self : ∀ k ∈ c, depB bs k.1 k.1 = false ∧ (∀ d, dstOf ops k.1 = some d → d < N) ∧ k.1 < ops.size
  cover : ∀ i, i < ops.size → ∃ k ∈ c, k.1 = i
def Sched (n : Nat) (bs : List Nat) : List Nat → List Nat → Prop
  | E, [] => ∀ i, i < n → i ∈ E
  | E, i :: l => i < n ∧ i ∉ E ∧ (∀ j, depB bs j i = true → j ∈ E) ∧ Sched n bs (i :: E) l
omit [Nam] in
theorem walkOK_pw {P : Program} {N : Nat} {ops : Array Oper} {bs : List Nat} : ∀ {c : List (Nat × Bool)}, walkOK P N ops bs c = true →
    c.Pairwise (fun k j => pairOK P ops bs k j = true) ∧ ∀ k ∈ c, depB bs k.1 k.1 = false ∧ (∀ d, dstOf ops k.1 = some d → d < N) ∧ k.1 < ops.size
  | [], _ => ⟨.nil, by simp⟩
  | k :: l, h => by
    simp only [walkOK, Bool.and_eq_true, Bool.not_eq_true', List.all_eq_true] at h
    obtain ⟨⟨⟨⟨h1, h2⟩, h3⟩, h4⟩, h5⟩ := h
    obtain ⟨h6, h7⟩ := walkOK_pw h5
    refine ⟨.cons h4 h6, fun x hx => ?_⟩
    rcases List.mem_cons.1 hx with rfl | hx
    · refine ⟨h1, fun d hd => ?_, by simpa using h3⟩
      rw [hd] at h2
      simpa using h2
    · exact h7 x hx
omit [Nam] in
theorem DF.of {P : Program} {N : Nat} {ops : Array Oper} {bs : List Nat} {c : List (Nat × Bool)} (h : drawOK P N ops bs c = true) : DF P N ops bs c := by
  simp only [drawOK, Bool.and_eq_true] at h
  obtain ⟨h1, h2⟩ := walkOK_pw h.2
  refine ⟨h1, h2, fun i hi => ?_⟩
  have := List.all_eq_true.1 h.1.2 i (List.mem_range.2 hi)
  rw [memB_iff, List.mem_map] at this
  exact this
section
variable {P : Program} {N : Nat} {ops : Array Oper} {bs : List Nat} {c : List (Nat × Bool)}
structure PairF (P : Program) (ops : Array Oper) (bs : List Nat) (k j : Nat × Bool) : Prop where
  dep : depB bs j.1 k.1 = false
  w : isWB P ops k = true → depB bs k.1 j.1 = true
  share : shareB ops k.1 j.1 = true → depB bs k.1 j.1 = true
  ne : k.1 ≠ j.1
  dst : ∀ d, dstOf ops k.1 = some d → dstOf ops j.1 ≠ some d
omit [Nam] in
theorem PairF.of {k j : Nat × Bool} (h : pairOK P ops bs k j = true) : PairF P ops bs k j := by
  simp only [pairOK, Bool.and_eq_true, Bool.not_eq_true', Bool.or_eq_true] at h
  obtain ⟨⟨⟨⟨h1, h2⟩, h3⟩, h4⟩, h5⟩ := h
  refine ⟨h1, fun e => ?_, fun e => ?_, fun e => ?_, fun d hd he => ?_⟩
  · rcases h2 with h2 | h2
    · rw [e] at h2; cases h2
    · exact h2
  · rcases h3 with h3 | h3
    · rw [e] at h3; cases h3
    · exact h3
  · rw [e, Nat.beq_refl] at h4; cases h4
  · simp [sameDst, hd, he] at h5
omit [Nam] in
theorem DF.two (F : DF P N ops bs c) {k j : Nat × Bool} {A B : List (Nat × Bool)} (hc : c = A ++ k :: B) (hj : j ∈ B) : PairF P ops bs k j := by
  have := F.pw
  rw [hc, List.pairwise_append] at this
  exact .of ((List.pairwise_cons.1 this.2.1).1 j hj)
omit [Nam] in
theorem DF.two' (F : DF P N ops bs c) {k j : Nat × Bool} {A B : List (Nat × Bool)} (hc : c = A ++ k :: B) (hj : j ∈ A) : PairF P ops bs j k := by
  have := F.pw
  rw [hc, List.pairwise_append] at this
  exact .of (this.2.2 j hj k List.mem_cons_self)
def SCv (ops : Array Oper) (val : Nat → AVal) (σ0 : Env) (C : List (Nat × Bool)) (σ : Env) : Prop :=
  ∀ t, (∀ k ∈ C, dstOf ops k.1 = some t → σ t = val k.1) ∧ ((∀ k ∈ C, dstOf ops k.1 ≠ some t) → σ t = σ0 t)
def TMv (ops : Array Oper) (N : Nat) (val : Nat → AVal) (σ0 : Env) (κ : Ghost) (E : List Nat) (a : Act) : Prop :=
  a.tmps.size = N ∧ marksOK κ a.defers ∧ ∀ t, (∀ i ∈ E, dstOf ops i = some t → RelV κ (val i) (a.tmps.getD t undef)) ∧ ((∀ i ∈ E, dstOf ops i ≠ some t) → RelV κ (σ0 t) (a.tmps.getD t undef))
omit [Nam] in
theorem share_left {i j t : Nat} (h1 : dstOf ops i = some t) (h2 : t ∈ namesOf ops j) : shareB ops i j = true := by
  simp only [shareB, h1, Bool.or_eq_true]
  exact .inl (memB_iff.2 h2)
omit [Nam] in
theorem share_right {i j t : Nat} (h1 : dstOf ops j = some t) (h2 : t ∈ namesOf ops i) : shareB ops i j = true := by
  simp only [shareB, h1, Bool.or_eq_true]
  exact .inr (memB_iff.2 h2)
omit [Nam] in
theorem names_rel (F : DF P N ops bs c) {val : Nat → AVal} {σ0 σk : Env} {κ : Ghost} {E : List Nat} {a : Act} {A B : List (Nat × Bool)} {k : Nat × Bool} (hc : c = A ++ k :: B)
    (hsc : SCv ops val σ0 A σk) (htm : TMv ops N val σ0 κ E a) (hcl : ∀ i ∈ E, ∀ j, depB bs j i = true → j ∈ E) (hsub : ∀ i ∈ E, ∃ k ∈ c, k.1 = i) (hk : k.1 ∉ E)
    (hpre : ∀ j, depB bs j k.1 = true → j ∈ E) {t : Nat} (ht : t ∈ namesOf ops k.1) : RelV κ (σk t) (a.tmps.getD t undef) := by
  have hmem : ∀ x ∈ c, x ∈ A ∨ x = k ∨ x ∈ B := by
    intro x hx
    rw [hc] at hx
    rcases List.mem_append.1 hx with h | h
    · exact .inl h
    · rcases List.mem_cons.1 h with h | h
      · exact .inr (.inl h)
      · exact .inr (.inr h)
  by_cases hw : ∃ j ∈ A, dstOf ops j.1 = some t
  · obtain ⟨j, hj, hd⟩ := hw
    have hp := F.two' hc hj
    have hjE : j.1 ∈ E := hpre _ (hp.share (share_left hd ht))
    rw [(hsc t).1 j hj hd]
    exact (htm.2.2 t).1 j.1 hjE hd
  · have h1 : ∀ j ∈ A, dstOf ops j.1 ≠ some t := fun j hj hd => hw ⟨j, hj, hd⟩
    rw [(hsc t).2 h1]
    refine (htm.2.2 t).2 fun i hi hd => ?_
    obtain ⟨x, hx, rfl⟩ := hsub i hi
    rcases hmem x hx with h | h | h
    · exact h1 x h hd
    · subst h; exact hk hi
    · have hp := F.two hc h
      exact hk (hcl x.1 hi _ (hp.share (share_right hd ht)))
def StepAt (P : Program) (ops : Array Oper) (k : Nat × Bool) (σ : Env) (h : Heap) (K : AVal → Heap → Prop) : Prop :=
  ∃ o, ops[k.1]? = some o ∧
    ((∃ t want, guardT ops o = some (some t, want) ∧ (σ t = .bool (!want) ∨ σ t = .tuple []) ∧ K (.tuple []) h) ∨
     ((guardT ops o = none ∨ ∃ t want, guardT ops o = some (some t, want) ∧ σ t = .bool want) ∧ opS P o k.2 (evA σ) h K))
omit [Nam] in
theorem mem_tmpsOf {t : Nat} {xs : List Operand} (h : Operand.tmp t ∈ xs) : t ∈ tmpsOf xs := List.mem_filterMap.2 ⟨_, h, rfl⟩
omit [Nam] in
theorem evA_rel {κ : Ghost} {σ : Env} {a : Act} {o : Oper} {i : Nat} (ho : ops[i]? = some o) (hr : ∀ t ∈ namesOf ops i, RelV κ (σ t) (a.tmps.getD t undef)) :
    ∀ x ∈ o.op.operands.toList, RelV κ (evA σ x) (a.eval x) := by
  intro x hx
  cases x with
  | tmp t =>
    refine hr t ?_
    simp only [namesOf, ho]
    exact List.mem_append_right _ (mem_tmpsOf hx)
  | const v => exact absV_rel κ v
  | func f => exact .func (fs := []) (cs := []) .nil .nil
  | global g => exact .undef _
theorem step_ok {κ : Ghost} {σ : Env} {h : Heap} {K : AVal → Heap → Prop} {k : Nat × Bool} {a : Act} {w : World} {Q : Exit → Act → World → Prop} {rest : List Nat} (hs : StepAt P ops k σ h K)
    (hN : a.tmps.size = N) (hdst : ∀ j d, dstOf ops j = some d → d < N) (hr : ∀ t ∈ namesOf ops k.1, RelV κ (σ t) (a.tmps.getD t undef)) (H : RelH κ h w)
    (hn : ∀ κ' av v h' w', κ.Le κ' → RelH κ' h' w' → RelV κ' av v → K av h' → ∀ o, ops[k.1]? = some o → wpOpsIn (FW ro) 0 P ops Q rest (a.put o.dst v) w') : wpOpsIn (FW ro) 0 P ops Q (k.1 :: rest) a w := by
  obtain ⟨o, ho, hs⟩ := hs
  rw [wpOpsIn]
  simp only [ho]
  have hy : ∀ t want, guardT ops o = some (some t, want) → ∃ j v, o.guard = some (j, want) ∧ dstOf ops j = some t ∧ a.tmps[t]? = some v ∧ RelV κ (σ t) v := by
    intro t want hg
    unfold guardT at hg
    split at hg
    · cases hg
    · rename_i j want' hgo
      simp only [Option.some.injEq, Prod.mk.injEq] at hg
      obtain ⟨hd, rfl⟩ := hg
      have hlt : t < a.tmps.size := by rw [hN]; exact hdst j t hd
      have hn : t ∈ namesOf ops k.1 := by
        simp only [namesOf, ho, guardT, hgo, hd]
        simp
      have := hr t hn
      refine ⟨j, a.tmps[t], hgo, hd, by simp [hlt], ?_⟩
      simpa [Array.getD_eq_getD_getElem?, hlt] using this
  rcases hs with ⟨t, want, hg, hb, hK⟩ | ⟨hg, hop⟩
  · obtain ⟨j, v, hgo, hd, hv, hrel⟩ := hy t want hg
    have hw : Region.wanted o (yielded ops a.tmps) = false := by
      unfold dstOf at hd
      rcases hb with hb | hb
      · rw [hb] at hrel
        cases hrel
        simp [Region.wanted, hgo, yielded, hd, hv]
      · rw [hb] at hrel
        cases hrel with
        | tuple hs => cases hs; simp [Region.wanted, hgo, yielded, hd, hv]
    simp only [hw, Bool.false_eq_true, if_false]
    exact ⟨fun _ _ => trivial, hn κ (.tuple []) undef h w (Ghost.Le.refl κ) H (.tuple (xs := []) .nil) hK o ho⟩
  · have hw : Region.wanted o (yielded ops a.tmps) = true := by
      rcases hg with hg | ⟨t, want, hg, hb⟩
      · unfold guardT at hg
        split at hg
        · rename_i hgo; simp [Region.wanted, hgo]
        · cases hg
      · obtain ⟨j, v, hgo, hd, hv, hrel⟩ := hy t want hg
        unfold dstOf at hd
        rw [hb] at hrel
        cases hrel
        simp [Region.wanted, hgo, yielded, hd, hv]
    simp only [hw, if_true]
    exact opS_ok H (evA_rel ho hr) hop (fun κ' av v h' w' le H' hv hK => hn κ' av v h' w' le H' hv hK o ho) Q
omit [Nam] in
theorem upd_self {σ : Env} {t : Nat} {v : AVal} (h : σ t = v) : upd σ t v = σ := by
  funext x
  unfold upd
  cases e : Nat.beq x t with
  | true => have := Nat.eq_of_beq_eq_true e; subst this; simpa using h.symm
  | false => rfl
omit [Nam] in
theorem recheck_inv {i : Nat} {h : Heap} {X : Prop} : ∀ {pd : List (Nat × (Heap → Prop))}, recheck bs i pd h X → X ∧ ∀ p R, (p, R) ∈ pd → depB bs p i = false → R h
  | [], hx => ⟨hx, by simp⟩
  | (p, R) :: l, hx => by
    unfold recheck at hx
    split at hx
    · rename_i hd
      obtain ⟨h1, h2⟩ := recheck_inv hx
      refine ⟨h1, fun q R' hq hd' => ?_⟩
      rcases List.mem_cons.1 hq with e | hq
      · cases e; rw [hd] at hd'; cases hd'
      · exact h2 q R' hq hd'
    · obtain ⟨hR, hx⟩ := hx
      obtain ⟨h1, h2⟩ := recheck_inv hx
      refine ⟨h1, fun q R' hq hd' => ?_⟩
      rcases List.mem_cons.1 hq with e | hq
      · cases e; exact hR
      · exact h2 q R' hq hd'
theorem wop_mono {lit : Bool} {h : Heap} {ev : Operand → AVal} {op : Op} {A B : AVal → Heap → Prop} (hm : ∀ v h', A v h' → B v h') (hk : wop P lit h ev op A) : wop P lit h ev op B := by
  have hrow : ∀ {es : Nat} {l : List AVal} {h : Heap} {A B : Nat → Heap → Prop}, (∀ v h', A v h' → B v h') → newRow es l h A → newRow es l h B := fun hm hk r hr hG => hm _ _ (hk r hr hG)
  have hbox : ∀ {t : TypeId} {v : AVal}, boxA P lit h t v A → boxA P lit h t v B := by
    intro t v hk
    unfold boxA at hk ⊢
    split at hk
    · obtain ⟨h1, h2⟩ := chk_iff.1 hk
      refine chk_iff.2 ⟨h1, cellsK_mono (fun l hl => ?_) h2⟩
      cases lit
      · exact hrow (fun r h' => hm _ _) hl
      · exact hm _ _ hl
    · exact hk.elim
  unfold wop at hk ⊢
  split at hk
  · unfold storeA at hk ⊢
    split at hk
    · refine cellsK_mono (fun l hl => ?_) hk
      unfold st at hl ⊢
      split at hl
      · split at hl
        · split at hl
          · obtain ⟨h1, h2⟩ := chk_iff.1 hl
            exact chk_iff.2 ⟨h1, hm _ _ h2⟩
          · exact hl.elim
        · exact hl.elim
      · exact hl.elim
    · exact hk.elim
  · unfold allocA at hk ⊢
    split at hk
    · exact hbox hk
    · exact hk.elim
  · exact hbox hk
  · unfold buildSliceA at hk ⊢
    split at hk
    · obtain ⟨h1, h2⟩ := chk_iff.1 hk
      refine chk_iff.2 ⟨h1, ?_⟩
      have hse : ∀ {k : Option Nat} (parts : List (Nat × AVal)) (l : List AVal) {A B : List AVal → Prop}, (∀ l, A l → B l) → setElems k l parts A → setElems k l parts B := by
        intro k parts
        induction parts with
        | nil => intro l A B hm h; exact hm _ h
        | cons x rest ih =>
          intro l A B hm h
          simp only [setElems] at h ⊢
          refine cellsK_mono (fun cs hc => ?_) h
          obtain ⟨a, b⟩ := chk_iff.1 hc
          exact chk_iff.2 ⟨a, ih _ hm b⟩
      refine hse _ _ (fun l hl => ?_) h2
      cases lit
      · exact hrow (fun r h' => hm _ _) hl
      · exact hm _ _ hl
    · exact hk.elim
  · unfold makeSliceA at hk ⊢
    split at hk
    · split at hk
      · unfold mkS at hk ⊢
        refine ⟨hk.1, ?_⟩
        cases lit
        · exact hrow (fun r h' => hm _ _) hk.2
        · exact hm _ _ hk.2
      · exact hk.elim
    · exact hk.elim
  · unfold makeMapA at hk ⊢
    obtain ⟨h1, h2⟩ := chk_iff.1 hk
    refine chk_iff.2 ⟨h1, ?_⟩
    split at h2
    · exact fun r hr hG => hm _ _ (h2 r hr hG)
    · exact fun r hr hG => hm _ _ (h2 r hr hG)
    · exact h2.elim
  · unfold mapUpdateA at hk ⊢
    split at hk
    · obtain ⟨h1, h2⟩ := chk_iff.1 hk
      refine chk_iff.2 ⟨h1, ?_⟩
      unfold mapPut at h2 ⊢
      split at h2
      · exact hm _ _ h2
      · exact h2.elim
    · exact hk.elim
  · unfold rangeA at hk ⊢
    obtain ⟨h1, h2⟩ := chk_iff.1 hk
    refine chk_iff.2 ⟨h1, ?_⟩
    unfold rangeM at h2 ⊢
    split at h2
    · split at h2
      · exact fun q hq hG => hm _ _ (h2 q hq hG)
      · exact fun q hq hG => hm _ _ (h2 q hq hG)
      · exact h2.elim
    · exact h2.elim
  · unfold nextA at hk ⊢
    split at hk
    · unfold nextM at hk ⊢
      split at hk
      · split at hk
        · split at hk
          · exact hm _ _ hk
          · exact fun i kv hi => hm _ _ (hk i kv hi)
        · exact hk.elim
      · exact hk.elim
    · exact hk.elim
  · unfold mapUpdateA at hk ⊢
    split at hk
    · obtain ⟨h1, h2⟩ := chk_iff.1 hk
      refine chk_iff.2 ⟨h1, ?_⟩
      unfold mapPut at h2 ⊢
      split at h2
      · exact hm _ _ h2
      · exact h2.elim
    · exact hk.elim
  · unfold mapEntryA at hk ⊢
    split at hk
    · split at hk
      · obtain ⟨h1, h2⟩ := chk_iff.1 hk
        refine chk_iff.2 ⟨h1, ?_⟩
        unfold mapEnt at h2 ⊢
        split at h2
        · split at h2
          · split at h2
            · exact fun b => hm _ _ (h2 b)
            · exact fun b => hm _ _ (h2 b)
            · exact h2.elim
          · exact h2.elim
        · exact h2.elim
      · exact hk.elim
    · exact hk.elim
  · unfold entryStoreA at hk ⊢
    split at hk
    · unfold entSt at hk ⊢
      split at hk
      · split at hk
        · refine ⟨hk.1, ?_⟩
          replace hk := hk.2
          split at hk
          · exact hm _ _ hk
          · exact hk.elim
        · exact hk.elim
      · exact hk.elim
    · exact hk.elim
  · unfold strBytesA at hk ⊢
    obtain ⟨h1, h2⟩ := chk_iff.1 hk
    refine chk_iff.2 ⟨h1, ?_⟩
    unfold sBytes at h2 ⊢
    split at h2
    · exact ⟨h2.1, hrow (fun r h' => hm _ _) h2.2⟩
    · exact h2.elim
  · split at hk
    · unfold deleteA at hk ⊢
      split at hk
      · obtain ⟨h1, h2⟩ := chk_iff.1 hk
        refine chk_iff.2 ⟨h1, ?_⟩
        unfold mapDel at h2 ⊢
        split at h2
        · exact hm _ _ h2
        · exact h2.elim
      · exact hk.elim
    · exact hk.elim
  · replace hm : ∀ v h', litG lit A v h' → litG lit B v h' := litG_mono hm
    split at hk
    · unfold appendA at hk ⊢
      obtain ⟨h1, h2⟩ := chk_iff.1 hk
      refine chk_iff.2 ⟨h1, ?_⟩
      split at h2
      · unfold appC at h2 ⊢
        split at h2
        · unfold app at h2 ⊢
          split at h2
          · exact ⟨h2.1, fun e => hm _ _ (h2.2.1 e), fun e => hrow (fun r h' => hm _ _) (h2.2.2 e)⟩
          · obtain ⟨h3, h4⟩ := chk_iff.1 h2
            refine chk_iff.2 ⟨h3, ?_⟩
            split at h4
            · obtain ⟨h5, h6, h7, h8, h9⟩ := chk_iff.1 h4
              exact chk_iff.2 ⟨h5, h6, h7, fun e r hr hG => hm _ _ (h8 e r hr hG), fun e => ⟨(h9 e).1, hm _ _ (h9 e).2⟩⟩
            · exact h4.elim
          · obtain ⟨h3, h4, h5⟩ := chk_iff.1 h2
            exact chk_iff.2 ⟨h3, h4, hm _ _ h5⟩
          · exact h2.elim
        · exact h2.elim
      · exact h2.elim
    · exact hk.elim
  · exact hk.elim
theorem callG.mono {f : FuncId} {args : List AVal} {h : Heap} {A B : AVal → Heap → Prop} (hm : ∀ v h', A v h' → B v h') (hk : callG P f args h A) : callG P f args h B :=
  let ⟨S, a, h', h1, h2, h3⟩ := hk
  ⟨S, a, h', h1, h2, h3.mono hm⟩
theorem callV.mono {fv : AVal} {args : List AVal} {h : Heap} {A B : AVal → Heap → Prop} (hm : ∀ v h', A v h' → B v h') (hk : callV P fv args h A) : callV P fv args h B := by
  unfold callV at hk ⊢
  split at hk
  · exact callG.mono hm hk
  · exact ARound.mono hk hm
  · exact hk.elim
def DStep (P : Program) (N : Nat) (ops : Array Oper) (bs : List Nat) (k : Nat × Bool) (l : List (Nat × Bool)) (σ : Env) (h : Heap) (pd : List (Nat × (Heap → Prop))) (K : Env → Heap → Prop) : Prop :=
    (isWB P ops k = false ∧ ∃ av pd', StepAt P ops k σ h (fun v h' => v = av ∧ h' = h) ∧ evD P N ops bs l (putD N σ (dstOf ops k.1) av) h pd' K ∧ (∀ x ∈ pd, x ∈ pd') ∧
      ((∀ h', StepAt P ops k σ h' (fun v h'' => v = av ∧ h'' = h')) ∨ ∃ R, (k.1, R) ∈ pd' ∧ ∀ h', R h' → StepAt P ops k σ h' (fun v h'' => v = av ∧ h'' = h'))) ∨
    ((∃ av, StepAt P ops k σ h (fun v h' => v = av ∧ h' = h) ∧ evD P N ops bs l (putD N σ (dstOf ops k.1) av) h pd K ∧ (∀ h', StepAt P ops k σ h' (fun v h'' => v = av ∧ h'' = h'))) ∨
     StepAt P ops k σ h (fun v h' => (∀ p R, (p, R) ∈ pd → depB bs p k.1 = false → R h') ∧ evD P N ops bs l (putD N σ (dstOf ops k.1) v) h' pd K)) ∧ isWB P ops k = true
theorem execD_step {k : Nat × Bool} {l : List (Nat × Bool)} {σ : Env} {h : Heap} {pd : List (Nat × (Heap → Prop))} {K : Env → Heap → Prop} {o : Oper} (ho : ops[k.1]? = some o)
    (hg : guardT ops o = none ∨ ∃ t want, guardT ops o = some (some t, want) ∧ σ t = .bool want) (hk : execD P N bs o k.1 k.2 σ h pd fun σ h pd => evD P N ops bs l σ h pd K) :
    DStep P N ops bs k l σ h pd K := by
  have hd : dstOf ops k.1 = o.dst := by simp [dstOf, ho]
  unfold execD at hk
  cases hop : opK P o.op with
  | v =>
    rw [hop] at hk
    left
    refine ⟨by simp [isWB, ho, hop], ?_⟩
    obtain ⟨av, h1, h2⟩ := vop_det P (evA σ) o.op _ hk
    have hstep : ∀ h', StepAt P ops k σ h' (fun v h'' => v = av ∧ h'' = h') := fun h' => ⟨o, ho, .inr ⟨hg, by
      unfold opS
      rw [hop]
      simp only [and_true]
      exact h2⟩⟩
    exact ⟨av, pd, hstep h, by rw [hd]; exact typ_val h1, fun x hx => hx, .inl hstep⟩
  | r =>
    rw [hop] at hk
    left
    refine ⟨by simp [isWB, ho, hop], ?_⟩
    obtain ⟨av, h1, h2⟩ := rop_det P h (evA σ) o.op _ hk
    have h1 := typ_val h1
    have hmk : ∀ h', rop P h' (evA σ) o.op (fun v' => v' = av) → StepAt P ops k σ h' (fun v h'' => v = av ∧ h'' = h') := fun h' hr => ⟨o, ho, .inr ⟨hg, by
      unfold opS
      rw [hop]
      simp only [and_true]
      exact hr⟩⟩
    exact ⟨av, _, hmk h h2, by rw [hd]; exact h1, fun x hx => List.mem_cons_of_mem _ hx, .inr ⟨_, List.mem_cons_self, hmk⟩⟩
  | w =>
    rw [hop] at hk
    right
    refine ⟨.inr ⟨o, ho, .inr ⟨hg, ?_⟩⟩, by simp [isWB, ho, hop]⟩
    unfold opS
    rw [hop]
    refine wop_mono (fun v h' hx => ?_) hk
    obtain ⟨h1, h2⟩ := recheck_inv (typ_val hx)
    exact ⟨h2, by rw [hd]; exact h1⟩
  | c =>
    rw [hop] at hk
    simp only at hk
    split at hk
    · rename_i f args ats hcall
      split at hk
      · rename_i hlit
        left
        refine ⟨by simp [isWB, ho, hop, hlit], ?_⟩
        obtain ⟨av, h1, h2⟩ := hk
        have h2 := typ_val h2
        have hmk : ∀ h', callV P (evA σ f) (args.toList.map (evA σ)) h' (fun v' h'' => v' = av ∧ h'' = h') → StepAt P ops k σ h' (fun v h'' => v = av ∧ h'' = h') := fun h' hr => ⟨o, ho, .inr ⟨hg, by
          unfold opS
          rw [hop]
          simp only [hcall]
          exact hr⟩⟩
        exact ⟨av, _, hmk h h1, by rw [hd]; exact h2, fun x hx => List.mem_cons_of_mem _ hx, .inr ⟨_, List.mem_cons_self, hmk⟩⟩
      · rename_i hlit
        right
        refine ⟨.inr ⟨o, ho, .inr ⟨hg, ?_⟩⟩, by simp [isWB, ho, hop, hlit]⟩
        unfold opS
        rw [hop]
        simp only [hcall]
        refine callV.mono (fun v h' hx => ?_) hk
        obtain ⟨h1, h2⟩ := recheck_inv (typ_val hx)
        exact ⟨h2, by rw [hd]; exact h1⟩
    · exact hk.elim
theorem evD_step {k : Nat × Bool} {l : List (Nat × Bool)} {σ : Env} {h : Heap} {pd : List (Nat × (Heap → Prop))} {K : Env → Heap → Prop} (hk : evD P N ops bs (k :: l) σ h pd K) :
    DStep P N ops bs k l σ h pd K := by
  unfold evD at hk
  split at hk
  · exact hk.elim
  · rename_i o ho
    have hd : dstOf ops k.1 = o.dst := by simp [dstOf, ho]
    have skip : ∀ t want, guardT ops o = some (some t, want) → (σ t = .bool (!want) ∨ σ t = .tuple []) → evD P N ops bs l (putD N σ o.dst (.tuple [])) h pd K → DStep P N ops bs k l σ h pd K := by
      intro t want hg hb hk
      have hstep : ∀ h', StepAt P ops k σ h' (fun v h'' => v = .tuple [] ∧ h'' = h') := fun h' => ⟨o, ho, .inl ⟨t, want, hg, hb, rfl, rfl⟩⟩
      by_cases hw : isWB P ops k = true
      · exact .inr ⟨.inl ⟨_, hstep h, by rw [hd]; exact hk, hstep⟩, hw⟩
      · exact .inl ⟨by simpa using hw, _, pd, hstep h, by rw [hd]; exact hk, fun x hx => hx, .inl hstep⟩
    split at hk
    · rename_i hg
      exact execD_step ho (.inl hg) hk
    · exact hk.elim
    · rename_i t want hg
      split at hk
      · rename_i b hb
        rw [ifW_eq] at hk
        split at hk
        · rename_i hbw
          rw [upd_self (by rw [hb, hbw])] at hk
          exact execD_step ho (.inr ⟨t, want, hg, by rw [hb, hbw]⟩) hk
        · rename_i hbw
          have hbn : b = !want := by cases b <;> cases want <;> simp_all
          rw [upd_self (by rw [hb, hbn])] at hk
          exact skip t want hg (.inl (by rw [hb, hbn])) hk
      · rename_i hb
        exact skip t want hg (.inr hb) hk
      · exact hk.elim
end
end Go.Sym

namespace Go.Sym
open Go
variable [Nam]
variable {ro : Option Nat}
section
variable {P : Program} {N : Nat} {ops : Array Oper} {bs : List Nat} {c : List (Nat × Bool)}
def setVal (val : Nat → AVal) (i : Nat) (v : AVal) : Nat → AVal := fun j => if j = i then v else val j
omit [Nam] in
theorem SCv.val {val : Nat → AVal} {σ0 σ : Env} {C : List (Nat × Bool)} {i : Nat} {v : AVal} (h : SCv ops val σ0 C σ) (hne : ∀ k ∈ C, k.1 ≠ i) : SCv ops (setVal val i v) σ0 C σ := by
  intro t
  refine ⟨fun k hk hd => ?_, (h t).2⟩
  rw [(h t).1 k hk hd]
  simp [setVal, hne k hk]
omit [Nam] in
theorem SCv.put {val : Nat → AVal} {σ0 σ : Env} {C : List (Nat × Bool)} {k : Nat × Bool} {v : AVal} (h : SCv ops val σ0 C σ) (hne : ∀ x ∈ C, x.1 ≠ k.1)
    (hN : ∀ d, dstOf ops k.1 = some d → d < N) (hd : ∀ x ∈ C, ∀ d, dstOf ops x.1 = some d → dstOf ops k.1 ≠ some d) : SCv ops (setVal val k.1 v) σ0 (C ++ [k]) (putD N σ (dstOf ops k.1) v) := by
  have h' := h.val (v := v) hne
  intro t
  by_cases ht : dstOf ops k.1 = some t
  · have hlt : Nat.blt t N = true := by simpa using hN t ht
    have hput : putD N σ (dstOf ops k.1) v t = v := by simp [ht, putD, hlt, upd]
    refine ⟨fun x hx hxd => ?_, fun hno => absurd ht (hno k (by simp))⟩
    rcases List.mem_append.1 hx with hx | hx
    · exact absurd ht (hd x hx t hxd)
    · simp at hx; subst hx; rw [hput]; simp [setVal]
  · have hput : putD N σ (dstOf ops k.1) v t = σ t := by
      cases hdd : dstOf ops k.1 with
      | none => rfl
      | some d =>
        simp only [putD]
        cases e : Nat.blt d N with
        | false => rfl
        | true =>
          simp only [cond_true, upd]
          cases e2 : Nat.beq t d with
          | false => rfl
          | true => have := Nat.eq_of_beq_eq_true e2; subst this; exact absurd hdd ht
    rw [hput]
    refine ⟨fun x hx hxd => ?_, fun hno => (h' t).2 fun x hx => hno x (List.mem_append_left _ hx)⟩
    rcases List.mem_append.1 hx with hx | hx
    · exact (h' t).1 x hx hxd
    · simp at hx; subst hx; exact absurd hxd ht
omit [Nam] in
theorem TMv.mono {val : Nat → AVal} {σ0 : Env} {κ κ' : Ghost} {E : List Nat} {a : Act} (le : κ.Le κ') (h : TMv ops N val σ0 κ E a) : TMv ops N val σ0 κ' E a :=
  ⟨h.1, h.2.1.mono le, fun t => ⟨fun i hi hd => ((h.2.2 t).1 i hi hd).mono le, fun hno => ((h.2.2 t).2 hno).mono le⟩⟩
omit [Nam] in
theorem TMv.put {val : Nat → AVal} {σ0 : Env} {κ : Ghost} {E : List Nat} {a : Act} {i : Nat} {v : Value} (h : TMv ops N val σ0 κ E a) (hv : RelV κ (val i) v)
    (hN : ∀ d, dstOf ops i = some d → d < N) (hd : ∀ x ∈ E, ∀ d, dstOf ops x = some d → dstOf ops i ≠ some d) : TMv ops N val σ0 κ (i :: E) (a.put (dstOf ops i) v) := by
  obtain ⟨h1, h2, h3⟩ := h
  cases hdi : dstOf ops i with
  | none =>
    refine ⟨h1, h2, fun t => ⟨fun x hx hxd => ?_, fun hno => (h3 t).2 fun x hx => hno x (List.mem_cons_of_mem _ hx)⟩⟩
    rcases List.mem_cons.1 hx with rfl | hx
    · rw [hdi] at hxd; cases hxd
    · exact (h3 t).1 x hx hxd
  | some d =>
    have hlt := hN d hdi
    refine ⟨by simpa [Act.put] using h1, h2, fun t => ?_⟩
    by_cases ht : t = d
    · subst ht
      have e : ((a.put (some t) v).tmps.getD t undef) = v := by
        simp [Act.put, Array.getD_eq_getD_getElem?, h1, hlt]
      rw [e]
      refine ⟨fun x hx hxd => ?_, fun hno => absurd hdi (hno i List.mem_cons_self)⟩
      rcases List.mem_cons.1 hx with rfl | hx
      · exact hv
      · exact absurd hdi (hd x hx t hxd)
    · have e : ((a.put (some d) v).tmps.getD t undef) = a.tmps.getD t undef := by
        simp [Act.put, Array.getD_eq_getD_getElem?, Ne.symm ht]
      rw [e]
      refine ⟨fun x hx hxd => ?_, fun hno => (h3 t).2 fun x hx => hno x (List.mem_cons_of_mem _ hx)⟩
      rcases List.mem_cons.1 hx with rfl | hx
      · rw [hdi] at hxd; cases hxd; exact absurd rfl ht
      · exact (h3 t).1 x hx hxd
def Rec (P : Program) (ops : Array Oper) (c : List (Nat × Bool)) (σ0 : Env) (C : List (Nat × Bool)) (val : Nat → AVal) (k : Nat × Bool) (h : Heap) : Prop :=
  ∃ A B σk, c = A ++ k :: B ∧ (∀ x ∈ A, x ∈ C) ∧ SCv ops val σ0 A σk ∧ StepAt P ops k σk h fun v h' => v = val k.1 ∧ h' = h
theorem Rec.more {σ0 : Env} {C : List (Nat × Bool)} {val : Nat → AVal} {k k0 : Nat × Bool} {h : Heap} {v : AVal} (hr : Rec P ops c σ0 C val k h) (hk : k ∈ C) (hne : ∀ x ∈ C, x.1 ≠ k0.1) :
    Rec P ops c σ0 (C ++ [k0]) (setVal val k0.1 v) k h := by
  obtain ⟨A, B, σk, h1, h2, h3, h4⟩ := hr
  refine ⟨A, B, σk, h1, fun x hx => List.mem_append_left _ (h2 x hx), h3.val fun x hx => hne x (h2 x hx), ?_⟩
  simpa [setVal, hne k hk] using h4
structure Inv (P : Program) (N : Nat) (ops : Array Oper) (bs : List Nat) (c : List (Nat × Bool)) (σ0 : Env) (E : List Nat) (C crest : List (Nat × Bool)) (σc : Env) (h : Heap) (pd : List (Nat × (Heap → Prop)))
    (val : Nat → AVal) (κ : Ghost) (a : Act) (w : World) : Prop where
  hc : c = C ++ crest
  clos : ∀ i ∈ E, ∀ j, depB bs j i = true → j ∈ E
  sub : ∀ i ∈ E, ∃ k ∈ C, k.1 = i
  wE : ∀ k ∈ C, isWB P ops k = true → k.1 ∈ E
  sc : SCv ops val σ0 C σc
  tm : TMv ops N val σ0 κ E a
  recs : ∀ k ∈ C, k.1 ∉ E → Rec P ops c σ0 C val k h
  pdr : ∀ k ∈ C, k.1 ∉ E → (∀ h', Rec P ops c σ0 C val k h') ∨ ∃ R, (k.1, R) ∈ pd ∧ ∀ h', R h' → Rec P ops c σ0 C val k h'
  H : RelH κ h w
theorem draw_main (F : DF P N ops bs c) {σ0 : Env} {K : Env → Heap → Prop} {Q : Exit → Act → World → Prop} (hdN : ∀ j d, dstOf ops j = some d → d < N) : ∀ (l E : List Nat) (n : Nat) (crest : List (Nat × Bool)), crest.length = n → ∀ (C : List (Nat × Bool)) (σc : Env) (h : Heap)
    (pd : List (Nat × (Heap → Prop))) (val : Nat → AVal) (κ : Ghost) (a : Act) (w : World), Inv P N ops bs c σ0 E C crest σc h pd val κ a w → evD P N ops bs crest σc h pd K → Sched ops.size bs E l →
    Then N κ K (Q .normal) → wpOpsIn (FW ro) 0 P ops Q l a w := by
  intro l
  induction l with
  | nil =>
    intro E n crest _ C σc h pd val κ a w I hk hs hn
    have hall : ∀ k ∈ c, k.1 ∈ E := fun k hk => hs _ (F.self k hk).2.2
    have hcr : crest = [] := by
      cases crest with
      | nil => rfl
      | cons k rest =>
        exfalso
        have hkc : k ∈ c := by rw [I.hc]; simp
        obtain ⟨x, hx, he⟩ := I.sub _ (hall k hkc)
        exact (F.two' I.hc hx).ne he
    subst hcr
    refine hn κ σc h a w (Ghost.Le.refl κ) ⟨I.tm.1, fun t => ?_, I.tm.2.1⟩ I.H hk
    by_cases hw : ∃ k ∈ C, dstOf ops k.1 = some t
    · obtain ⟨k, hkC, hd⟩ := hw
      rw [(I.sc t).1 k hkC hd]
      exact (I.tm.2.2 t).1 k.1 (hall k (by rw [I.hc]; simp [hkC])) hd
    · rw [(I.sc t).2 fun k hkC hd => hw ⟨k, hkC, hd⟩]
      refine (I.tm.2.2 t).2 fun i hi hd => ?_
      obtain ⟨x, hx, rfl⟩ := I.sub i hi
      exact hw ⟨x, hx, hd⟩
  | cons i l ih =>
    intro E n
    induction n with
    | zero =>
      intro crest hlen C σc h pd val κ a w I hk hs hn
      have : crest = [] := List.eq_nil_of_length_eq_zero hlen
      subst this
      obtain ⟨hi, hiE, hpre, hs'⟩ := hs
      obtain ⟨k, hkc, rfl⟩ := F.cover i hi
      have hkC : k ∈ C := by rw [I.hc] at hkc; simpa using hkc
      -- the operation is known
      obtain ⟨A, B, σk, h1, h2, h3, h4⟩ := I.recs k hkC hiE
      have hsub : ∀ i ∈ E, ∃ k ∈ c, k.1 = i := fun i hi => by
        obtain ⟨x, hx, he⟩ := I.sub i hi
        exact ⟨x, by rw [I.hc]; exact List.mem_append_left _ hx, he⟩
      refine step_ok (N := N) h4 I.tm.1 hdN (fun t ht => names_rel F h1 h3 I.tm I.clos hsub hiE hpre ht) I.H ?_
      rintro κ' av v h' w' le H' hv ⟨rfl, rfl⟩ o ho
      have hdo : o.dst = dstOf ops k.1 := by simp [dstOf, ho]
      rw [hdo]
      have hdist : ∀ x ∈ E, ∀ d, dstOf ops x = some d → dstOf ops k.1 ≠ some d := by
        intro x hx d hxd hkd
        obtain ⟨y, hy, rfl⟩ := hsub x hx
        have hyk : y ≠ k := fun e => hiE (by rw [← e]; exact hx)
        rw [h1] at hy
        rcases List.mem_append.1 hy with hy | hy
        · exact (F.two' h1 hy).dst d hxd hkd
        · rcases List.mem_cons.1 hy with rfl | hy
          · exact hyk rfl
          · exact (F.two h1 hy).dst d hkd hxd
      refine ih (k.1 :: E) 0 [] rfl C σc h' pd val κ' _ w' ⟨I.hc, ?_, ?_, fun x hx hw => List.mem_cons_of_mem _ (I.wE x hx hw), I.sc, (I.tm.mono le).put hv (fun d hd => hdN _ d hd) hdist,
        fun x hx hxE => I.recs x hx fun e => hxE (List.mem_cons_of_mem _ e), fun x hx hxE => I.pdr x hx fun e => hxE (List.mem_cons_of_mem _ e), H'⟩ hk hs' (fun κ2 σ2 h2 a2 w2 le2 T2 H2 hk2 => hn κ2 σ2 h2 a2 w2 (le.trans le2) T2 H2 hk2)
      · intro x hx j hj
        rcases List.mem_cons.1 hx with rfl | hx
        · exact List.mem_cons_of_mem _ (hpre j hj)
        · exact List.mem_cons_of_mem _ (I.clos x hx j hj)
      · intro x hx
        rcases List.mem_cons.1 hx with rfl | hx
        · exact ⟨k, hkC, rfl⟩
        · exact I.sub x hx
    | succ n ihn =>
      intro crest hlen C σc h pd val κ a w I hk hs hn
      obtain ⟨k0, rest, rfl⟩ : ∃ k0 rest, crest = k0 :: rest := by
        cases crest with
        | nil => simp at hlen
        | cons x y => exact ⟨x, y, rfl⟩
      have hlen' : rest.length = n := by simpa using hlen
      have hne : ∀ x ∈ C, x.1 ≠ k0.1 := fun x hx => (F.two' I.hc hx).ne
      have hk0c : k0 ∈ c := by rw [I.hc]; simp
      have hk0E : k0.1 ∉ E := fun e => by
        obtain ⟨x, hx, he⟩ := I.sub _ e
        exact hne x hx he
      have hN0 : ∀ d, dstOf ops k0.1 = some d → d < N := (F.self k0 hk0c).2.1
      have hd0 : ∀ x ∈ C, ∀ d, dstOf ops x.1 = some d → dstOf ops k0.1 ≠ some d := fun x hx d hd => (F.two' I.hc hx).dst d hd
      have hc' : c = (C ++ [k0]) ++ rest := by rw [I.hc]; simp
      have tmval : ∀ v κ a, TMv ops N val σ0 κ E a → TMv ops N (setVal val k0.1 v) σ0 κ E a := by
        intro v κ a h
        refine ⟨h.1, h.2.1, fun t => ⟨fun x hx hd => ?_, (h.2.2 t).2⟩⟩
        obtain ⟨y, hy, rfl⟩ := I.sub x hx
        simpa [setVal, hne y hy] using (h.2.2 t).1 y.1 hx hd
      have memC : ∀ x, x ∈ C ++ [k0] → x ∈ C ∨ x = k0 := fun x hx => by
        rcases List.mem_append.1 hx with h | h
        · exact .inl h
        · simp at h; exact .inr h
      rcases evD_step hk with ⟨hnw, av, pd', hst, hk', hpd, hall⟩ | ⟨hW, hw0⟩
      · -- no turn of memory: known from now on
        have hsc' : SCv ops (setVal val k0.1 av) σ0 (C ++ [k0]) (putD N σc (dstOf ops k0.1) av) := I.sc.put hne hN0 hd0
        have mk : ∀ h', StepAt P ops k0 σc h' (fun v h'' => v = av ∧ h'' = h') → Rec P ops c σ0 (C ++ [k0]) (setVal val k0.1 av) k0 h' := fun h' hs' =>
          ⟨C, rest, σc, I.hc, fun x hx => List.mem_append_left _ hx, I.sc.val hne, by simpa [setVal] using hs'⟩
        refine ihn rest hlen' (C ++ [k0]) _ h pd' (setVal val k0.1 av) κ a w ⟨hc', I.clos, fun i hi => ?_, fun x hx hxw => ?_, hsc', tmval _ _ _ I.tm, fun x hx hxE => ?_, fun x hx hxE => ?_, I.H⟩ hk' hs hn
        · obtain ⟨x, hx, he⟩ := I.sub i hi
          exact ⟨x, List.mem_append_left _ hx, he⟩
        · rcases memC x hx with hx | rfl
          · exact I.wE x hx hxw
          · rw [hnw] at hxw; cases hxw
        · rcases memC x hx with hx | rfl
          · exact (I.recs x hx hxE).more hx hne
          · exact mk h hst
        · rcases memC x hx with hx | rfl
          · rcases I.pdr x hx hxE with hp | ⟨R, hR, hp⟩
            · exact .inl fun h' => (hp h').more hx hne
            · exact .inr ⟨R, hpd _ hR, fun h' hr => (hp h' hr).more hx hne⟩
          · rcases hall with hp | ⟨R, hR, hp⟩
            · exact .inl fun h' => mk h' (hp h')
            · exact .inr ⟨R, hR, fun h' hr => mk h' (hp h' hr)⟩
      · -- a turn of memory
        obtain ⟨hi, hiE, hpre, hs'⟩ := hs
        obtain ⟨k, hkc, rfl⟩ := F.cover i hi
        have hsub : ∀ i ∈ E, ∃ k ∈ c, k.1 = i := fun i hi => by
          obtain ⟨x, hx, he⟩ := I.sub i hi
          exact ⟨x, by rw [I.hc]; exact List.mem_append_left _ hx, he⟩
        have hdist : ∀ x ∈ E, ∀ d, dstOf ops x = some d → dstOf ops k.1 ≠ some d := by
          intro x hx d hxd hkd
          obtain ⟨y, hy, rfl⟩ := hsub x hx
          have hyk : y ≠ k := fun e => hiE (by rw [← e]; exact hx)
          obtain ⟨A, B, h1⟩ := List.append_of_mem hkc
          rw [h1] at hy
          rcases List.mem_append.1 hy with hy | hy
          · exact (F.two' h1 hy).dst d hxd hkd
          · rcases List.mem_cons.1 hy with rfl | hy
            · exact hyk rfl
            · exact (F.two h1 hy).dst d hkd hxd
        have clos' : ∀ x ∈ k.1 :: E, ∀ j, depB bs j x = true → j ∈ k.1 :: E := by
          intro x hx j hj
          rcases List.mem_cons.1 hx with rfl | hx
          · exact List.mem_cons_of_mem _ (hpre j hj)
          · exact List.mem_cons_of_mem _ (I.clos x hx j hj)
        by_cases hkC : k ∈ C
        · -- another one, known: as above
          obtain ⟨A, B, σk, h1, h2, h3, h4⟩ := I.recs k hkC hiE
          refine step_ok (N := N) h4 I.tm.1 hdN (fun t ht => names_rel F h1 h3 I.tm I.clos hsub hiE hpre ht) I.H ?_
          rintro κ' av v h' w' le H' hv ⟨rfl, rfl⟩ o ho
          have hdo : o.dst = dstOf ops k.1 := by simp [dstOf, ho]
          rw [hdo]
          refine ih (k.1 :: E) (n + 1) (k0 :: rest) hlen C σc h' pd val κ' _ w' ⟨I.hc, clos', ?_, fun x hx hw => List.mem_cons_of_mem _ (I.wE x hx hw), I.sc, (I.tm.mono le).put hv (fun d hd => hdN _ d hd) hdist,
            fun x hx hxE => I.recs x hx fun e => hxE (List.mem_cons_of_mem _ e), fun x hx hxE => I.pdr x hx fun e => hxE (List.mem_cons_of_mem _ e), H'⟩ hk hs' (fun κ2 σ2 h2 a2 w2 le2 T2 H2 hk2 => hn κ2 σ2 h2 a2 w2 (le.trans le2) T2 H2 hk2)
          intro x hx
          rcases List.mem_cons.1 hx with rfl | hx
          · exact ⟨k, hkC, rfl⟩
          · exact I.sub x hx
        · -- the next one in the one order
          have hkk : k = k0 := by
            rw [I.hc] at hkc
            rcases List.mem_append.1 hkc with h | h
            · exact absurd h hkC
            · rcases List.mem_cons.1 h with h | h
              · exact h
              · exact absurd (hpre _ ((F.two I.hc h).w hw0)) hk0E
          subst hkk
          have hnames : ∀ t ∈ namesOf ops k.1, RelV κ (σc t) (a.tmps.getD t undef) := fun t ht => names_rel F I.hc I.sc I.tm I.clos hsub hiE hpre ht
          have fin : ∀ κ' av v h' w' pd0, κ.Le κ' → RelH κ' h' w' → RelV κ' av v → evD P N ops bs rest (putD N σc (dstOf ops k.1) av) h' pd0 K → (∀ x ∈ C, x.1 ∉ E → Rec P ops c σ0 C val x h') → (∀ x ∈ pd, x ∈ pd0) →
              wpOpsIn (FW ro) 0 P ops Q l (a.put (dstOf ops k.1) v) w' := by
            intro κ' av v h' w' pd0 le H' hv hk' hrec hpd0
            refine ih (k.1 :: E) n rest hlen' (C ++ [k]) _ h' pd0 (setVal val k.1 av) κ' _ w' ⟨hc', clos', ?_, fun x hx hxw => ?_, I.sc.put hne hN0 hd0, ((tmval av _ _ I.tm).mono le).put (by simpa [setVal] using hv) (fun d hd => hdN _ d hd) hdist, fun x hx hxE => ?_, fun x hx hxE => ?_, H'⟩ hk' hs'
              (fun κ2 σ2 h2 a2 w2 le2 T2 H2 hk2 => hn κ2 σ2 h2 a2 w2 (le.trans le2) T2 H2 hk2)
            · intro x hx
              rcases List.mem_cons.1 hx with rfl | hx
              · exact ⟨k, by simp, rfl⟩
              · obtain ⟨y, hy, he⟩ := I.sub x hx
                exact ⟨y, List.mem_append_left _ hy, he⟩
            · rcases memC x hx with hx | rfl
              · exact List.mem_cons_of_mem _ (I.wE x hx hxw)
              · exact List.mem_cons_self
            · rcases memC x hx with hx | rfl
              · exact (hrec x hx fun e => hxE (List.mem_cons_of_mem _ e)).more hx hne
              · exact absurd List.mem_cons_self hxE
            · rcases memC x hx with hx | rfl
              · rcases I.pdr x hx (fun e => hxE (List.mem_cons_of_mem _ e)) with hp | ⟨R, hR, hp⟩
                · exact .inl fun h' => (hp h').more hx hne
                · exact .inr ⟨R, hpd0 _ hR, fun h' hr => (hp h' hr).more hx hne⟩
              · exact absurd List.mem_cons_self hxE
          rcases hW with ⟨av0, hst, hk', _⟩ | hst
          · refine step_ok (N := N) hst I.tm.1 hdN hnames I.H ?_
            rintro κ' av v h' w' le H' hv ⟨rfl, rfl⟩ o ho
            have hdo : o.dst = dstOf ops k.1 := by simp [dstOf, ho]
            rw [hdo]
            exact fin κ' av v h' w' pd le H' hv hk' (fun x hx hxE => I.recs x hx hxE) (fun x hx => hx)
          · refine step_ok (N := N) hst I.tm.1 hdN hnames I.H ?_
            rintro κ' av v h' w' le H' hv ⟨hre, hk'⟩ o ho
            have hdo : o.dst = dstOf ops k.1 := by simp [dstOf, ho]
            rw [hdo]
            refine fin κ' av v h' w' pd le H' hv hk' (fun x hx hxE => ?_) (fun x hx => hx)
            rcases I.pdr x hx hxE with hp | ⟨R, hR, hp⟩
            · exact hp h'
            · refine hp h' (hre _ R hR ?_)
              cases e : depB bs x.1 k.1 with
              | false => rfl
              | true => exact absurd (hpre _ e) hxE
end
end Go.Sym

namespace Go.Sym
open Go
variable [Nam]
variable {ro : Option Nat}
omit [Nam] in
theorem befOK_dep {ops : Array Oper} {bs : List Nat} (h : befOK ops bs = true) {i : Nat} {o : Oper} (ho : ops[i]? = some o) :
    (∀ e ∈ o.after.toList, Region.binds .any e = true → e.on < i) ∧
    ∀ j, depB bs j i = true → ∃ e ∈ o.after.toList, Region.binds .any e = true ∧ (j = e.on ∨ depB bs j e.on = true) := by
  have hi : i < ops.size := (Array.getElem?_eq_some_iff.1 ho).1
  have h1 := List.all_eq_true.1 h i (List.mem_range.2 hi)
  simp only [ho, Bool.and_eq_true, List.all_eq_true, Bool.or_eq_true, Bool.not_eq_true'] at h1
  refine ⟨fun e he hb => ?_, fun j hj => ?_⟩
  · rcases h1.1 e he with h2 | h2
    · rw [hb] at h2; cases h2
    · simpa using h2
  · have h2 := Nat.eq_of_beq_eq_true h1.2
    unfold depB at hj
    rw [h2] at hj
    clear h2 h1 ho
    generalize o.after.toList = l at *
    induction l with
    | nil => simp at hj
    | cons e l ih =>
      simp only [List.foldr_cons] at hj
      split at hj
      · rename_i hb
        rw [show ∀ a b : Nat, Nat.lor a b = a ||| b from fun _ _ => rfl, Nat.testBit_or, show ∀ a b : Nat, Nat.lor a b = a ||| b from fun _ _ => rfl, Nat.testBit_or, Bool.or_eq_true, Bool.or_eq_true] at hj
        rcases hj with (hj | hj) | hj
        · rw [Nat.testBit_two_pow] at hj
          exact ⟨e, List.mem_cons_self, hb, .inl (of_decide_eq_true hj).symm⟩
        · exact ⟨e, List.mem_cons_self, hb, .inr hj⟩
        · obtain ⟨e', he', h'⟩ := ih hj
          exact ⟨e', List.mem_cons_of_mem _ he', h'⟩
      · obtain ⟨e', he', h'⟩ := ih hj
        exact ⟨e', List.mem_cons_of_mem _ he', h'⟩
omit [Nam] in
theorem countP_lt {α : Type} {p q : α → Bool} : ∀ {l : List α}, (∀ x ∈ l, q x = true → p x = true) → (∃ x ∈ l, p x = true ∧ q x = false) → l.countP q < l.countP p
  | [], _, ⟨x, hx, _⟩ => by simp at hx
  | y :: l, h, ⟨x, hx, hp, hq⟩ => by
    have hle : l.countP q ≤ l.countP p := List.countP_mono_left fun z hz => h z (List.mem_cons_of_mem _ hz)
    rw [List.countP_cons, List.countP_cons]
    rcases List.mem_cons.1 hx with rfl | hx
    · simp [hp, hq]; omega
    · have := countP_lt (fun z hz => h z (List.mem_cons_of_mem _ hz)) ⟨x, hx, hp, hq⟩
      have hy := h y List.mem_cons_self
      cases e1 : q y
      · simp; omega
      · simp [hy e1]; omega
omit [Nam] in
theorem go_sched {ops : Array Oper} {bs : List Nat} (hb : befOK ops bs = true) : ∀ (fuel t : Nat) (listed : Array Bool) (acc E : List Nat), listed.size = ops.size →
    (∀ i, i < ops.size → (listed.getD i false = true ↔ i ∈ E)) → (∀ i ∈ E, i < ops.size) → (∀ i ∈ E, ∀ j, depB bs j i = true → j ∈ E) →
    (List.range ops.size).countP (fun i => decide (i ∉ E)) ≤ fuel →
    ∃ l, Region.linearise.go .any ops fuel t listed acc = acc.reverse ++ l ∧ Sched ops.size bs E l := by
  intro fuel
  induction fuel with
  | zero =>
    intro t listed acc E hsz hl hE hcl hc
    refine ⟨[], by simp [Region.linearise.go], fun i hi => ?_⟩
    have h0 : (List.range ops.size).countP (fun i => decide (i ∉ E)) = 0 := by omega
    rw [List.countP_eq_zero] at h0
    have := h0 i (List.mem_range.2 hi)
    simpa using this
  | succ fuel ih =>
    intro t listed acc E hsz hl hE hcl hc
    unfold Region.linearise.go
    simp only
    generalize hrs : (List.range ops.size).filter (fun i => !listed.getD i true && ((ops[i]?).map (·.after.all fun e => !Region.binds .any e || listed.getD e.on false)).getD false) = rs
    have hmem : ∀ i, i ∈ rs ↔ i < ops.size ∧ i ∉ E ∧ ∀ o, ops[i]? = some o → ∀ e ∈ o.after.toList, Region.binds .any e = true → e.on ∈ E := by
      intro i
      rw [← hrs, List.mem_filter, List.mem_range]
      constructor
      · rintro ⟨hi, hf⟩
        simp only [Bool.and_eq_true, Bool.not_eq_true'] at hf
        refine ⟨hi, fun hin => ?_, fun o ho e he hbind => ?_⟩
        · have h1 := (hl i hi).2 hin
          have hlt : i < listed.size := by omega
          simp [Array.getD_eq_getD_getElem?, hlt] at h1 hf
          rw [h1] at hf
          exact absurd hf.1 (by simp)
        · rw [ho] at hf
          simp only [Option.map_some, Option.getD_some] at hf
          have h2 := Array.all_eq_true'.1 hf.2 e (by simpa using he)
          simp only [hbind, Bool.not_true, Bool.false_or] at h2
          have hon : e.on < ops.size := Nat.lt_trans ((befOK_dep hb ho).1 e he hbind) hi
          exact (hl e.on hon).1 h2
      · rintro ⟨hi, hin, hall⟩
        refine ⟨hi, ?_⟩
        have hlt : i < listed.size := by omega
        have h1 : listed.getD i true = false := by
          have h2 : ¬ (listed.getD i false = true) := fun e => hin ((hl i hi).1 e)
          simp [Array.getD_eq_getD_getElem?, hlt] at h2 ⊢
          exact h2
        obtain ⟨o, ho⟩ : ∃ o, ops[i]? = some o := ⟨ops[i], by simp [hi]⟩
        rw [h1, ho]
        simp only [Bool.not_false, Option.map_some, Option.getD_some, Bool.true_and]
        rw [Array.all_eq_true']
        intro e he
        cases hbind : Region.binds .any e with
        | false => simp
        | true =>
          have he' : e ∈ o.after.toList := by simpa using he
          have := hall o ho e he' hbind
          simpa using (hl e.on (hE _ this)).2 this
    cases hpick : rs[t % rs.length]? with
    | none =>
      simp only
      refine ⟨[], by simp, ?_⟩
      have hnil : rs = [] := by
        cases rs with
        | nil => rfl
        | cons x y =>
          have h1 : t % (x :: y).length < (x :: y).length := Nat.mod_lt _ (by simp)
          rw [List.getElem?_eq_none_iff] at hpick
          omega
      intro i
      induction i using Nat.strongRecOn with
      | _ i ihi =>
        intro hi
        apply Classical.byContradiction
        intro hin
        have : i ∈ rs := (hmem i).2 ⟨hi, hin, fun o ho e he hbind => ihi e.on ((befOK_dep hb ho).1 e he hbind) (Nat.lt_trans ((befOK_dep hb ho).1 e he hbind) hi)⟩
        rw [hnil] at this
        simp at this
    | some i =>
      simp only
      have hirs : i ∈ rs := List.mem_of_getElem? hpick
      obtain ⟨hi, hin, hall⟩ := (hmem i).1 hirs
      obtain ⟨o, ho⟩ : ∃ o, ops[i]? = some o := ⟨ops[i], by simp [hi]⟩
      have hpre : ∀ j, depB bs j i = true → j ∈ E := by
        intro j hj
        obtain ⟨e, he, hbind, h'⟩ := (befOK_dep hb ho).2 j hj
        have hon := hall o ho e he hbind
        rcases h' with rfl | h'
        · exact hon
        · exact hcl _ hon j h'
      obtain ⟨l, h1, h2⟩ := ih (t / rs.length) (listed.setIfInBounds i true) (i :: acc) (i :: E) (by simpa using hsz) (by
          intro j hj
          have hjl : j < listed.size := by omega
          by_cases hji : i = j
          · subst hji
            simp [Array.getD_eq_getD_getElem?, hjl]
          · have := hl j hj
            simp only [Array.getD_eq_getD_getElem?, Array.getElem?_setIfInBounds, hji, if_false] at this ⊢
            rw [this]
            simp [Ne.symm hji]) (by
          intro j hj
          rcases List.mem_cons.1 hj with rfl | hj
          · exact hi
          · exact hE j hj) (by
          intro x hx j hj
          rcases List.mem_cons.1 hx with rfl | hx
          · exact List.mem_cons_of_mem _ (hpre j hj)
          · exact List.mem_cons_of_mem _ (hcl x hx j hj)) (by
          have := countP_lt (p := fun j => decide (j ∉ E)) (q := fun j => decide (j ∉ i :: E)) (l := List.range ops.size) (by
            intro x _ hx
            simp only [decide_eq_true_eq, List.mem_cons, not_or] at hx ⊢
            exact hx.2) ⟨i, List.mem_range.2 hi, by simpa using hin, by simp⟩
          omega)
      exact ⟨i :: l, by rw [h1]; simp, hi, hin, hpre, h2⟩
omit [Nam] in
theorem schedule_sched {ops : Array Oper} {bs : List Nat} (hb : befOK ops bs = true) (t : Nat) : Sched ops.size bs [] (Region.schedule true ops t) := by
  simp only [Region.schedule, Bool.true_or, if_true, Region.linearise]
  obtain ⟨l, h1, h2⟩ := go_sched hb ops.size t (Array.replicate ops.size false) [] [] (by simp) (by
    intro i hi
    simp [Array.getD_eq_getD_getElem?, hi]) (by simp) (by simp) (by simp)
  rw [h1]
  simpa using h2
theorem evD_ok {P : Program} {N : Nat} {ops : Array Oper} {bs : List Nat} {c : List (Nat × Bool)} (hd : drawOK P N ops bs c = true) {σ : Env} {h : Heap} {K : Env → Heap → Prop} {Q : Exit → Act → World → Prop}
    {κ : Ghost} {a : Act} {w : World} (T : RelT N κ σ a) (H : RelH κ h w) (hk : evD P N ops bs c σ h [] K) (hn : Then N κ K (Q .normal)) (t : Nat) : wpOpsIn (FW ro) 0 P ops Q (Region.schedule true ops t) a w := by
  have F := DF.of hd
  have hb : befOK ops bs = true := by
    simp only [drawOK, Bool.and_eq_true] at hd
    exact hd.1.1
  have hdN : ∀ j d, dstOf ops j = some d → d < N := by
    intro j d hjd
    by_cases hj : j < ops.size
    · obtain ⟨k, hk, rfl⟩ := F.cover j hj
      exact (F.self k hk).2.1 d hjd
    · simp [dstOf, Array.getElem?_eq_none (Nat.le_of_not_lt hj)] at hjd
  refine draw_main F (σ0 := σ) hdN _ [] c.length c rfl [] σ h [] (fun _ => .undef) κ a w ⟨by simp, by simp, by simp, by simp, fun t => ⟨by simp, fun _ => rfl⟩, ⟨T.size, T.defers, fun t => ⟨by simp, fun _ => T.tmps t⟩⟩, by simp, by simp, H⟩ hk (schedule_sched hb t) hn
end Go.Sym

namespace Go.Sym
open Go
variable [Nam]
variable {ro : Option Nat}
inductive DT where
  | leaf (c : List (Nat × Bool))
  | split (i j : Nat) (a b : DT)
def addE (n : Nat) (bs : List Nat) (i j : Nat) : List Nat := (List.range n).map fun x => match Nat.beq x j || depB bs j x with
  | true => Nat.lor (bs.getD x 0) (Nat.lor (2 ^ i) (bs.getD i 0))
  | false => bs.getD x 0
def okT (P : Program) (N : Nat) (ops : Array Oper) : DT → List Nat → Bool
  | .leaf c, bs => coverOK ops.size c && walkOK P N ops bs c
  | .split i j a b, bs => Nat.blt i ops.size && (Nat.blt j ops.size && (!Nat.beq i j && (okT P N ops a (addE ops.size bs i j) && okT P N ops b (addE ops.size bs j i))))
def evT (P : Program) (N : Nat) (ops : Array Oper) : DT → List Nat → Env → Heap → (Env → Heap → Prop) → Prop
  | .leaf c, bs, σ, h, K => evD P N ops bs c σ h [] K
  | .split i j a b, bs, σ, h, K => evT P N ops a (addE ops.size bs i j) σ h K ∧ evT P N ops b (addE ops.size bs j i) σ h K
omit [Nam] in
theorem lor_eq (a b : Nat) : Nat.lor a b = a ||| b := rfl
omit [Nam] in
theorem dep_add {n : Nat} {bs : List Nat} {i j x p : Nat} (h : depB (addE n bs i j) p x = true) : depB bs p x = true ∨ ((x = j ∨ depB bs j x = true) ∧ (p = i ∨ depB bs p i = true)) := by
  unfold depB at h
  by_cases hx : x < n
  · have e : (addE n bs i j).getD x 0 = match Nat.beq x j || depB bs j x with
      | true => Nat.lor (bs.getD x 0) (Nat.lor (2 ^ i) (bs.getD i 0))
      | false => bs.getD x 0 := by
      simp [addE, List.getD_eq_getElem?_getD, hx]
    rw [e] at h
    split at h
    · rename_i hb
      rw [lor_eq, lor_eq, Nat.testBit_or, Nat.testBit_or, Bool.or_eq_true, Bool.or_eq_true] at h
      have hb : x = j ∨ depB bs j x = true := by
        rcases Bool.or_eq_true .. ▸ hb with h | h
        · exact .inl (Nat.eq_of_beq_eq_true h)
        · exact .inr h
      rcases h with h | h | h
      · exact .inl h
      · rw [Nat.testBit_two_pow] at h
        exact .inr ⟨hb, .inl (of_decide_eq_true h).symm⟩
      · exact .inr ⟨hb, .inr h⟩
    · exact .inl h
  · have : (addE n bs i j).getD x 0 = 0 := by
      simp [addE, List.getD_eq_getElem?_getD, hx]
    rw [this] at h
    simp at h
omit [Nam] in
theorem sched_add {n : Nat} {bs : List Nat} {i j : Nat} : ∀ (l E : List Nat), Sched n bs E l → (∀ A B, l = A ++ j :: B → i ∈ E ∨ i ∈ A) → (i ∈ E → ∀ p, depB bs p i = true → p ∈ E) → (j ∈ E → i ∈ E) → Sched n (addE n bs i j) E l
  | [], _, h, _, _, _ => h
  | x :: l, E, ⟨h1, h2, h3, h4⟩, hb, hi, hj => by
    have hxi : (x = j ∨ depB bs j x = true) → i ∈ E := by
      rintro (rfl | h)
      · rcases hb [] l rfl with h | h
        · exact h
        · cases h
      · exact hj (h3 j h)
    refine ⟨h1, h2, fun p hp => ?_, sched_add l (x :: E) h4 (fun A B e => ?_) (fun h p hp => ?_) (fun h => ?_)⟩
    · rcases dep_add hp with h | ⟨hx, rfl | h⟩
      · exact h3 p h
      · exact hxi hx
      · exact hi (hxi hx) p h
    · rcases hb (x :: A) B (by rw [e]; rfl) with h | h
      · exact .inl (List.mem_cons_of_mem _ h)
      · rcases List.mem_cons.1 h with rfl | h
        · exact .inl List.mem_cons_self
        · exact .inr h
    · rcases List.mem_cons.1 h with rfl | h
      · exact List.mem_cons_of_mem _ (h3 p hp)
      · exact List.mem_cons_of_mem _ (hi h p hp)
    · rcases List.mem_cons.1 h with rfl | h
      · exact List.mem_cons_of_mem _ (hxi (.inl rfl))
      · exact List.mem_cons_of_mem _ (hj h)
omit [Nam] in
theorem sched_or {n : Nat} {bs : List Nat} {i j : Nat} (hi : i < n) (hij : i ≠ j) : ∀ (l E : List Nat), Sched n bs E l → i ∉ E → (∀ A B, l = A ++ j :: B → i ∈ A) ∨ (∀ A B, l = A ++ i :: B → j ∈ A)
  | [], E, h, hn => absurd (h i hi) hn
  | x :: l, E, ⟨h1, h2, h3, h4⟩, hn => by
    by_cases e1 : x = i
    · subst e1
      left
      intro A B e
      cases A with
      | nil => simp at e; exact absurd e.1 hij
      | cons a A => simp at e; rw [e.1]; exact List.mem_cons_self
    · by_cases e2 : x = j
      · subst e2
        right
        intro A B e
        cases A with
        | nil => simp at e; exact absurd e.1 e1
        | cons a A => simp at e; rw [e.1]; exact List.mem_cons_self
      · rcases sched_or hi hij l (x :: E) h4 (by simp only [List.mem_cons, not_or]; exact ⟨fun e => e1 e.symm, hn⟩) with h | h
        · left
          intro A B e
          cases A with
          | nil => simp at e; exact absurd e.1 e2
          | cons a A => simp at e; exact List.mem_cons_of_mem _ (h A B e.2)
        · right
          intro A B e
          cases A with
          | nil => simp at e; exact absurd e.1 e1
          | cons a A => simp at e; exact List.mem_cons_of_mem _ (h A B e.2)
theorem evT_sched {P : Program} {N : Nat} {ops : Array Oper} {σ : Env} {h : Heap} {K : Env → Heap → Prop} {Q : Exit → Act → World → Prop}
    {κ : Ghost} {a : Act} {w : World} (T : RelT N κ σ a) (H : RelH κ h w) (hn : Then N κ K (Q .normal)) : ∀ (t : DT) (bs : List Nat) (l : List Nat), okT P N ops t bs = true → evT P N ops t bs σ h K → Sched ops.size bs [] l → wpOpsIn (FW ro) 0 P ops Q l a w
  | .leaf c, bs, l, hd, hk, hs => by
    simp only [okT, Bool.and_eq_true] at hd
    obtain ⟨h1, h2⟩ := walkOK_pw hd.2
    have F : DF P N ops bs c := ⟨h1, h2, fun i hi => by
      have := List.all_eq_true.1 hd.1 i (List.mem_range.2 hi)
      rw [memB_iff, List.mem_map] at this
      exact this⟩
    have hdN : ∀ j d, dstOf ops j = some d → d < N := by
      intro j d hjd
      by_cases hj : j < ops.size
      · obtain ⟨k, hk, rfl⟩ := F.cover j hj
        exact (F.self k hk).2.1 d hjd
      · simp [dstOf, Array.getElem?_eq_none (Nat.le_of_not_lt hj)] at hjd
    exact draw_main F (σ0 := σ) hdN _ [] c.length c rfl [] σ h [] (fun _ => .undef) κ a w ⟨by simp, by simp, by simp, by simp, fun t => ⟨by simp, fun _ => rfl⟩, ⟨T.size, T.defers, fun t => ⟨by simp, fun _ => T.tmps t⟩⟩, by simp, by simp, H⟩ hk hs hn
  | .split i j x y, bs, l, hd, hk, hs => by
    simp only [okT, Bool.and_eq_true, Bool.not_eq_true'] at hd
    obtain ⟨hi, hj, hij, ha, hb⟩ := hd
    have hi : i < ops.size := by simpa [Nat.blt_eq] using hi
    have hj : j < ops.size := by simpa [Nat.blt_eq] using hj
    have hij : i ≠ j := fun e => by rw [e, Nat.beq_refl] at hij; cases hij
    rcases sched_or hi hij l [] hs (by simp) with h | h
    · exact evT_sched T H hn x _ l ha hk.1 (sched_add l [] hs (fun A B e => .inr (h A B e)) (by simp) (by simp))
    · exact evT_sched T H hn y _ l hb hk.2 (sched_add l [] hs (fun A B e => .inr (h A B e)) (by simp) (by simp))
theorem evT_ok {P : Program} {N : Nat} {ops : Array Oper} {bs : List Nat} {d : DT} (hb : befOK ops bs = true) (hd : okT P N ops d bs = true) {σ : Env} {h : Heap} {K : Env → Heap → Prop} {Q : Exit → Act → World → Prop}
    {κ : Ghost} {a : Act} {w : World} (T : RelT N κ σ a) (H : RelH κ h w) (hk : evT P N ops d bs σ h K) (hn : Then N κ K (Q .normal)) (t : Nat) : wpOpsIn (FW ro) 0 P ops Q (Region.schedule true ops t) a w :=
  evT_sched T H hn d bs _ hd hk (schedule_sched hb t)
end Go.Sym

namespace Go.Sym
open Go
variable [Nam]
variable {ro : Option Nat}
structure Grp where
  guard : Option (Nat × Bool)
  ops : List (Nat × Bool)
def natBeqL : List Nat → List Nat → Bool
  | [], [] => true
  | a :: l, b :: m => Nat.beq a b && natBeqL l m
  | _, _ => false
omit [Nam] in
theorem natBeqL_eq : ∀ {l m : List Nat}, natBeqL l m = true → l = m
  | [], [], _ => rfl
  | a :: l, b :: m, h => by
    simp only [natBeqL, Bool.and_eq_true] at h
    rw [Nat.eq_of_beq_eq_true h.1, natBeqL_eq h.2]
  | [], _ :: _, h => by simp [natBeqL] at h
  | _ :: _, [], h => by simp [natBeqL] at h
def flatG : List Grp → List Nat
  | [] => []
  | g :: gs => g.ops.map (·.1) ++ flatG gs
def gOK (ops : Array Oper) (gd : Option (Nat × Bool)) (o : Oper) : Bool :=
  match o.guard, gd with
  | none, none => true
  | some (j, w), some (t, w') => (w == w') && (match dstOf ops j with | some d => Nat.beq d t | none => false)
  | _, _ => false
def gNow (gd : Option (Nat × Bool)) (N : Nat) (σ : Env) : Bool :=
  match gd with
  | none => true
  | some (t, want) => Nat.blt t N && match σ t with
    | .bool b => b == want
    | _ => false
def evOps (P : Program) (N : Nat) (ops : Array Oper) (gd : Option (Nat × Bool)) : List (Nat × Bool) → Env → Heap → (Env → Heap → Prop) → Prop
  | [], σ, h, K => K σ h
  | (i, lit) :: l, σ, h, K => match ops[i]? with
    | none => False
    | some o => match gOK ops gd o && gNow gd N σ with
      | true => evOp P N o lit σ h fun σ h => evOps P N ops gd l σ h K
      | false => False
def evG (P : Program) (N : Nat) (ops : Array Oper) : List Grp → Env → Heap → (Env → Heap → Prop) → Prop
  | [], σ, h, K => K σ h
  | g :: gs, σ, h, K => match g.guard with
    | none => evOps P N ops none g.ops σ h fun σ h => evG P N ops gs σ h K
    | some (t, want) => match σ t with
      | .bool b =>
        ifW b want (evOps P N ops g.guard g.ops (upd σ t (.bool want)) h fun σ h => evG P N ops gs σ h K)
          (skipK P N ops (some (t, want)) g.ops (upd σ t (.bool (!want))) fun σ => evG P N ops gs σ h K)
      | .tuple [] => skipK P N ops (some (t, want)) g.ops σ fun σ => evG P N ops gs σ h K
      | _ => False
where
  /-- passed over: the guard's temporary must stay as it is -/
  skipK (P : Program) (N : Nat) (ops : Array Oper) (gd : Option (Nat × Bool)) : List (Nat × Bool) → Env → (Env → Prop) → Prop
    | [], σ, K => K σ
    | (i, _) :: l, σ, K => match ops[i]? with
      | none => False
      | some o => match gOK ops gd o && gNot gd N σ with
        | true => skipK P N ops gd l (putD N σ o.dst (.tuple [])) K
        | false => False
  gNot (gd : Option (Nat × Bool)) (N : Nat) (σ : Env) : Bool :=
    match gd with
    | none => false
    | some (t, want) => Nat.blt t N && match σ t with
      | .bool b => b != want
      | .tuple [] => true
      | _ => false
omit [Nam] in
theorem getD_of {N : Nat} {κ : Ghost} {σ : Env} {a : Act} (T : RelT N κ σ a) {t : Nat} (ht : Nat.blt t N = true) : ∃ v, a.tmps[t]? = some v ∧ RelV κ (σ t) v := by
  have hlt : t < a.tmps.size := by rw [T.size]; simpa using ht
  have := T.tmps t
  refine ⟨a.tmps[t], by simp [hlt], ?_⟩
  simpa [Array.getD_eq_getD_getElem?, hlt] using this
omit [Nam] in
theorem wanted_now {N : Nat} {κ : Ghost} {σ : Env} {a : Act} (T : RelT N κ σ a) {ops : Array Oper} {gd : Option (Nat × Bool)} {o : Oper} (h1 : gOK ops gd o = true) (h2 : gNow gd N σ = true) :
    Region.wanted o (yielded ops a.tmps) = true := by
  unfold gOK at h1
  split at h1
  · rename_i hg; simp [Region.wanted, hg]
  · rename_i j w t w' hg
    simp only [Bool.and_eq_true, beq_iff_eq] at h1
    obtain ⟨rfl, h1⟩ := h1
    split at h1
    · rename_i d hd
      have := Nat.eq_of_beq_eq_true h1
      subst this
      simp only [gNow, Bool.and_eq_true] at h2
      obtain ⟨hlt, h2⟩ := h2
      obtain ⟨v, hv, hr⟩ := getD_of T hlt
      split at h2
      · rename_i b hb
        rw [hb] at hr
        cases hr
        simp only [beq_iff_eq] at h2
        unfold dstOf at hd
        simp [Region.wanted, hg, yielded, hd, hv, h2]
      · cases h2
    · cases h1
  · cases h1
omit [Nam] in
theorem wanted_not {N : Nat} {κ : Ghost} {σ : Env} {a : Act} (T : RelT N κ σ a) {ops : Array Oper} {gd : Option (Nat × Bool)} {o : Oper} (h1 : gOK ops gd o = true) (h2 : evG.gNot gd N σ = true) :
    Region.wanted o (yielded ops a.tmps) = false := by
  unfold gOK at h1
  split at h1
  · simp [evG.gNot] at h2
  · rename_i j w t w' hg
    simp only [Bool.and_eq_true, beq_iff_eq] at h1
    obtain ⟨rfl, h1⟩ := h1
    split at h1
    · rename_i d hd
      have := Nat.eq_of_beq_eq_true h1
      subst this
      simp only [evG.gNot, Bool.and_eq_true] at h2
      obtain ⟨hlt, h2⟩ := h2
      obtain ⟨v, hv, hr⟩ := getD_of T hlt
      unfold dstOf at hd
      split at h2
      · rename_i b hb
        rw [hb] at hr
        cases hr
        simp only [bne_iff_ne, ne_eq] at h2
        simp [Region.wanted, hg, yielded, hd, hv, h2]
      · rename_i hb
        rw [hb] at hr
        cases hr with
        | tuple hs => cases hs; simp [Region.wanted, hg, yielded, hd, hv]
      · cases h2
    · cases h1
  · cases h1
theorem evOps_ok {P : Program} {N : Nat} {ops : Array Oper} {gd : Option (Nat × Bool)} {Q : Exit → Act → World → Prop} {rest : List Nat} : ∀ {l : List (Nat × Bool)} {σ : Env} {h : Heap} {K : Env → Heap → Prop} {κ : Ghost} {a : Act} {w : World},
    RelT N κ σ a → RelH κ h w → evOps P N ops gd l σ h K → Then N κ K (wpOpsIn (FW ro) 0 P ops Q rest) → wpOpsIn (FW ro) 0 P ops Q (l.map (·.1) ++ rest) a w
  | [], σ, h, K, κ, a, w, T, H, hk, hn => hn κ σ h a w (Ghost.Le.refl κ) T H hk
  | (i, lit) :: l, σ, h, K, κ, a, w, T, H, hk, hn => by
    unfold evOps at hk
    split at hk
    · exact hk.elim
    · rename_i o ho
      split at hk
      · rename_i hg
        simp only [Bool.and_eq_true] at hg
        show wpOpsIn (FW ro) 0 P ops Q (i :: (l.map (·.1) ++ rest)) a w
        rw [wpOpsIn]
        simp only [ho, wanted_now T hg.1 hg.2, if_true]
        refine evOp_ok T H hk ?_ Q
        intro κ' σ' h' a' w' le T' H' hk'
        exact evOps_ok T' H' hk' fun κ2 σ2 h2 a2 w2 le2 T2 H2 hk2 => hn κ2 σ2 h2 a2 w2 (le.trans le2) T2 H2 hk2
      · exact hk.elim
omit [Nam] in
theorem skipK_ok {P : Program} {N : Nat} {ops : Array Oper} {gd : Option (Nat × Bool)} {Q : Exit → Act → World → Prop} {rest : List Nat} : ∀ {l : List (Nat × Bool)} {σ : Env} {K : Env → Prop} {κ : Ghost} {a : Act} {w : World},
    RelT N κ σ a → evG.skipK P N ops gd l σ K → (∀ σ' a', RelT N κ σ' a' → K σ' → wpOpsIn (FW ro) 0 P ops Q rest a' w) → wpOpsIn (FW ro) 0 P ops Q (l.map (·.1) ++ rest) a w
  | [], σ, K, κ, a, w, T, hk, hn => hn σ a T hk
  | (i, lit) :: l, σ, K, κ, a, w, T, hk, hn => by
    unfold evG.skipK at hk
    split at hk
    · exact hk.elim
    · rename_i o ho
      split at hk
      · rename_i hg
        simp only [Bool.and_eq_true] at hg
        show wpOpsIn (FW ro) 0 P ops Q (i :: (l.map (·.1) ++ rest)) a w
        rw [wpOpsIn]
        simp only [ho, wanted_not T hg.1 hg.2, Bool.false_eq_true, if_false]
        refine ⟨fun _ _ => trivial, ?_⟩
        refine skipK_ok (T.put ?_) hk hn
        exact .tuple (xs := []) .nil
      · exact hk.elim
theorem evG_ok {P : Program} {N : Nat} {ops : Array Oper} {Q : Exit → Act → World → Prop} : ∀ {gs : List Grp} {σ : Env} {h : Heap} {K : Env → Heap → Prop} {κ : Ghost} {a : Act} {w : World},
    RelT N κ σ a → RelH κ h w → evG P N ops gs σ h K → Then N κ K (Q .normal) → wpOpsIn (FW ro) 0 P ops Q (flatG gs) a w
  | [], σ, h, K, κ, a, w, T, H, hk, hn => hn κ σ h a w (Ghost.Le.refl κ) T H hk
  | g :: gs, σ, h, K, κ, a, w, T, H, hk, hn => by
    unfold evG at hk
    show wpOpsIn (FW ro) 0 P ops Q (g.ops.map (·.1) ++ flatG gs) a w
    have next : ∀ {κ0 : Ghost}, κ.Le κ0 → Then N κ0 (fun σ h => evG P N ops gs σ h K) (wpOpsIn (FW ro) 0 P ops Q (flatG gs)) := by
      intro κ0 le0 κ' σ' h' a' w' le T' H' hk'
      exact evG_ok T' H' hk' fun κ2 σ2 h2 a2 w2 le2 T2 H2 hk2 => hn κ2 σ2 h2 a2 w2 ((le0.trans le).trans le2) T2 H2 hk2
    split at hk
    · exact evOps_ok T H hk (next (Ghost.Le.refl κ))
    · rename_i t want hgd
      split at hk
      · rename_i b hb
        rw [ifW_eq] at hk
        split at hk
        · rename_i hbw
          exact evOps_ok (T.upd_same (by rw [hb, hbw])) H hk (next (Ghost.Le.refl κ))
        · rename_i hbw
          have hbn : b = !want := by cases b <;> cases want <;> simp_all
          exact skipK_ok (T.upd_same (by rw [hb, hbn])) hk fun σ' a' T' hk' => next (Ghost.Le.refl κ) κ σ' h a' w (Ghost.Le.refl κ) T' H hk'
      · exact skipK_ok T hk fun σ' a' T' hk' => next (Ghost.Le.refl κ) κ σ' h a' w (Ghost.Le.refl κ) T' H hk'
      · exact hk.elim
/- ---------------- code ---------------- -/
inductive AExit where
  | normal
  | exit (id : Nat)
  | goto (l : Nat)
  | ret
def AExit.rel : AExit → Exit → Prop
  | .normal, .normal => True
  | .exit i, .exit j => i = j
  | .goto i, .goto j => i = j
  | .ret, .ret => True
  | _, _ => False
inductive Ann where
  | leaf
  | reg (gs : List Grp)
  | draw (c : List (Nat × Bool)) (bs : List Nat)
  | drawT (t : DT) (bs : List Nat)
  | seq (a b : Ann)
  | cut (vars : List (Nat × Kd)) (J : List AVal → Heap → Prop) (a b : Ann)
  | cond (a b : Ann)
  | block (a : Ann)
  | loop (vars : List (Nat × Kd)) (J : Nat → List AVal → Heap → Prop) (body : (List AVal → Heap → Prop) → Ann)
  | rng (vars pv : List (Nat × Kd)) (xs : List AExit) (B : List AVal → List AVal → Heap → (Heap → (Heap → Prop) → Prop) → (AExit → Heap → Prop) → Prop) (x : Ann) (y : (AExit → Heap → Prop) → Ann)
def kindB (k : Kd) (v : AVal) : Bool :=
  match k with
  | .any => true
  | .int k => match v with
    | .int k' _ => decide (k' = k)
    | _ => false
  | .bool => match v with
    | .bool _ => true
    | _ => false
  | .str => match v with
    | .str _ => true
    | _ => false
def kOKB : List Kd → List AVal → Bool
  | [], [] => true
  | k :: ks, v :: l => kindB k v && kOKB ks l
  | _, _ => false
def cutV : List (Nat × Kd) → Env → (List AVal → Prop) → Prop
  | [], _, K => K []
  | (t, k) :: vs, σ, K => typ1 k (σ t) fun v => cutV vs σ fun l => K (v :: l)
def envOf : List (Nat × Kd) → List AVal → Env
  | (t, _) :: vs, v :: l => upd (envOf vs l) t v
  | _, _ => fun _ => .undef
def allT : List (Nat × Kd) → (List AVal → Prop) → Prop
  | [], K => K []
  | (_, .any) :: vs, K => ∀ v : AVal, allT vs fun l => K (v :: l)
  | (_, .int k) :: vs, K => ∀ n : Int, allT vs fun l => K (.int k n :: l)
  | (_, .bool) :: vs, K => ∀ b : Bool, allT vs fun l => K (.bool b :: l)
  | (_, .str) :: vs, K => ∀ s : ByteArray, allT vs fun l => K (.str s :: l)
omit [Nam] in
theorem allT_cutV : ∀ {vs : List (Nat × Kd)} {σ : Env} {K K' : List AVal → Prop}, allT vs (fun l => K l → K' l) → cutV vs σ K → cutV vs σ K'
  | [], _, _, _, h, hk => h hk
  | (t, .any) :: vs, σ, K, K', h, hk => allT_cutV (K := fun l => K (σ t :: l)) (K' := fun l => K' (σ t :: l)) (h (σ t)) hk
  | (t, .int k) :: vs, σ, K, K', h, hk => by
    simp only [cutV, typ1] at hk ⊢
    unfold tInt at hk ⊢
    split at hk
    · obtain ⟨h1, hk⟩ := chk_iff.1 hk
      obtain rfl := of_decide_eq_true h1
      exact chk_iff.2 ⟨h1, allT_cutV (K := fun l => K (_ :: l)) (K' := fun l => K' (_ :: l)) (h _) (by assumption)⟩
    · exact hk.elim
  | (t, .bool) :: vs, σ, K, K', h, hk => by
    simp only [cutV, typ1] at hk ⊢
    unfold tBool at hk ⊢
    split at hk
    · exact allT_cutV (K := fun l => K (_ :: l)) (K' := fun l => K' (_ :: l)) (h _) hk
    · exact hk.elim
  | (t, .str) :: vs, σ, K, K', h, hk => by
    simp only [cutV, typ1] at hk ⊢
    unfold tStr at hk ⊢
    split at hk
    · exact allT_cutV (K := fun l => K (_ :: l)) (K' := fun l => K' (_ :: l)) (h _) hk
    · exact hk.elim
omit [Nam] in
theorem cutV_env : ∀ {vs : List (Nat × Kd)} {σ : Env} {K : List AVal → Prop}, cutV vs σ K → ∃ l, K l ∧ ∀ t, envOf vs l t = .undef ∨ envOf vs l t = σ t
  | [], σ, K, hk => ⟨[], hk, fun t => .inl rfl⟩
  | (t, k) :: vs, σ, K, hk => by
    have := typ1_val hk
    obtain ⟨l, hl, he⟩ := cutV_env this
    refine ⟨σ t :: l, hl, fun t' => ?_⟩
    simp only [envOf, upd]
    cases e : Nat.beq t' t with
    | true => have := Nat.eq_of_beq_eq_true e; subst this; exact .inr rfl
    | false => exact he t'
omit [Nam] in
theorem cutV_kind : ∀ {vs : List (Nat × Kd)} {σ : Env} {K : List AVal → Prop}, cutV vs σ K → ∃ l, K l ∧ kOKB (vs.map (·.2)) l = true ∧ ∀ t, envOf vs l t = .undef ∨ envOf vs l t = σ t
  | [], σ, K, hk => ⟨[], hk, rfl, fun t => .inl rfl⟩
  | (t, k) :: vs, σ, K, hk => by
    have hkd : kindB k (σ t) = true := by
      cases k with
      | any => rfl
      | int k =>
        simp only [cutV, typ1, tInt] at hk
        split at hk
        · rename_i e
          obtain ⟨h1, _⟩ := chk_iff.1 hk
          rw [e]
          exact h1
        · exact hk.elim
      | bool =>
        simp only [cutV, typ1, tBool] at hk
        split at hk
        · rename_i e; rw [e]; rfl
        · exact hk.elim
      | str =>
        simp only [cutV, typ1, tStr] at hk
        split at hk
        · rename_i e; rw [e]; rfl
        · exact hk.elim
    have := typ1_val hk
    obtain ⟨l, hl, hkk, he⟩ := cutV_kind this
    refine ⟨σ t :: l, hl, by simp only [List.map_cons, kOKB, hkd, hkk, Bool.and_self], fun t' => ?_⟩
    simp only [envOf, upd]
    cases e : Nat.beq t' t with
    | true => have := Nat.eq_of_beq_eq_true e; subst this; exact .inr rfl
    | false => exact he t'
omit [Nam] in
theorem RelT.cut {N : Nat} {κ : Ghost} {σ σ' : Env} {a : Act} (T : RelT N κ σ a) (h : ∀ t, σ' t = .undef ∨ σ' t = σ t) : RelT N κ σ' a :=
  ⟨T.size, fun t => by
    rcases h t with e | e
    · rw [e]; exact .undef _
    · rw [e]; exact T.tmps t, T.defers⟩
abbrev Post := AExit → Env → Heap → Prop
def thenP (f : Env → Heap → Prop) (Φ : Post) : Post := fun e σ h => (fun _ : Unit =>
  match e with
  | .normal => f σ h
  | e => Φ e σ h) J.u160
def blockP (id : Nat) (Φ : Post) : Post := fun e σ h => (fun _ : Unit =>
  match e with
  | .exit id' => match Nat.beq id' id with
    | true => Φ .normal σ h
    | false => Φ (.exit id') σ h
  | e => Φ e σ h) J.u160
def scopeP (Φ : Post) : Post := fun e σ h => (fun _ : Unit =>
  match e with
  | .goto _ => False
  | e => Φ e σ h) J.u160
def gJ (ks : List Kd) (l : List AVal) (h : Heap) (J : List AVal → Heap → Prop) : Prop := ∃ S l' h', Lits h S l l' ∧ GStep h h' S ∧ kOKB ks l' = true ∧ J l' h'
def noRng : Code → Bool
  | .seq a b => noRng a && noRng b
  | .cond _ a b => noRng a && noRng b
  | .block _ c => noRng c
  | .scope c => noRng c
  | .loop c => noRng c
  | .rangeFunc .. => false
  | _ => true
def AExit.code : AExit → Code
  | .normal => .skip
  | .exit i => .exit i
  | .goto i => .goto i
  | .ret => .ret
def rndP (R : AExit → Heap → Prop) : Post := fun e _ h => R e h
def rndT (f : Env → Heap → Prop) : Post := fun e σ h => (fun _ : Unit =>
  match e with
  | .normal => f σ h
  | _ => False) J.u160
def midR (r : Nat) (o : LSt → AObj) (h : Heap) (K : Heap → Prop) : Prop := h r = some (o .ready) ∧ K (h.set r (o .busy))
def endR (r : Nat) (o : LSt → AObj) (K : AVal → Heap → Prop) (e : AExit) (h : Heap) : Prop :=
  h r = some (o .busy) ∧ (match e with
    | .normal => K (.bool true) (h.set r (o .ready))
    | e => K (.bool false) (h.set r (o (.done e.code))))
def anyX (r : Nat) (o : LSt → AObj) (h : Heap) : List (AExit × (Heap → Prop)) → Prop
  | [] => False
  | (e, F) :: xs => (h r = some (o (.done e.code)) ∧ F (h.del r)) ∨ anyX r o h xs
def exL : List AExit → (AExit → Heap → Prop) → List (AExit × (Heap → Prop))
  | [], _ => []
  | e :: xs, F => (e, fun h => F e h) :: exL xs F
def rngG (P : Program) (g : AVal) (ks : List Kd) (h : Heap) (B : List AVal → Heap → (Heap → (Heap → Prop) → Prop) → (AExit → Heap → Prop) → Prop) (Φ : Heap → Prop) (Φx : List (AExit × (Heap → Prop))) : Prop :=
  match g with
  | .func (.func f) first cap => ∀ (l r : Nat) (o : LSt → AObj), h r = none → Nam.G h r →
      (∀ args h1 K, kOKB ks args = true → h1 r = some (o .ready) → B args h1 (midR r o) (endR r o K) → ARound P l args h1 K) →
      ACalls P f (first ++ [.func (.yield l) [] []] ++ cap) (h.set r (o .ready)) fun _ h2 =>
        (∀ n, Nam.G h2 n → Nam.G (h2.del r) n) ∧ ((h2 r = some (o .ready) ∧ Φ (h2.del r)) ∨ anyX r o h2 Φx)
  | _ => False
def putsA (N : Nat) : List Nat → List AVal → Env → Env
  | t :: ts, v :: vs, σ => putsA N ts vs (putD N σ (some t) v)
  | _, _, σ => σ
def ev (P : Program) (N : Nat) : Code → Ann → Post → Env → Heap → Prop
  | .region _ ops false, .reg gs, Φ, σ, h => match natBeqL (flatG gs) (List.range ops.size) with
    | true => evG P N ops gs σ h fun σ h => Φ .normal σ h
    | false => False
  | .region _ ops true, .draw c bs, Φ, σ, h => match P.follows .mixedOrders && drawOK P N ops bs c with
    | true => evD P N ops bs c σ h [] fun σ h => Φ .normal σ h
    | false => False
  | .region _ ops true, .drawT t bs, Φ, σ, h => match P.follows .mixedOrders && (befOK ops bs && okT P N ops t bs) with
    | true => evT P N ops t bs σ h fun σ h => Φ .normal σ h
    | false => False
  | .seq a b, .seq x y, Φ, σ, h => ev P N a x (thenP (fun σ h => ev P N b y Φ σ h) Φ) σ h
  | .seq a _, .cut vars J x _, Φ, σ, h => ev P N a x (thenP (fun σ h => cutV vars σ fun l => J l h) Φ) σ h
  | .cond c a b, .cond x y, Φ, σ, h => match evA σ c with
    | .bool t => ifT t (ev P N a x Φ σ h) (ev P N b y Φ σ h)
    | _ => False
  | .block id c, .block x, Φ, σ, h => ev P N c x (blockP id Φ) σ h
  | .scope c, .block x, Φ, σ, h => ev P N c x (scopeP Φ) σ h
  | .loop _, .loop vars J _, _, σ, h => cutV vars σ fun l => gJ (vars.map (·.2)) l h fun l h => ∃ n, J n l h
  | .rangeFunc g ps as bd, .rng vars pv xs B _ _, Φ, σ, h => match noRng as && (noRng bd && natBeqL ps.toList (pv.map (·.1))) with
    | true => cutV vars σ fun l => rngG P (evA σ g) (pv.map (·.2)) h (B l) (fun h => Φ .normal (envOf vars l) h) (exL xs fun e h => Φ e (envOf vars l) h)
    | false => False
  | .skip, .leaf, Φ, σ, h => Φ .normal σ h
  | .label _, .leaf, Φ, σ, h => Φ .normal σ h
  | .exit id, .leaf, Φ, σ, h => Φ (.exit id) σ h
  | .goto l, .leaf, Φ, σ, h => Φ (.goto l) σ h
  | .ret, .leaf, Φ, σ, h => Φ .ret σ h
  | _, _, _, _, _ => False
def obl (P : Program) (N : Nat) : Code → Ann → Post → Prop
  | .seq a b, .seq x y, Φ => obl P N a x (thenP (fun σ h => ev P N b y Φ σ h) Φ) ∧ obl P N b y Φ
  | .seq a b, .cut vars J x y, Φ => obl P N a x (thenP (fun σ h => cutV vars σ fun l => J l h) Φ) ∧ (∀ h, allT vars fun l => J l h → ev P N b y Φ (envOf vars l) h) ∧ obl P N b y Φ
  | .cond _ a b, .cond x y, Φ => obl P N a x Φ ∧ obl P N b y Φ
  | .block id c, .block x, Φ => obl P N c x (blockP id Φ)
  | .scope c, .block x, Φ => obl P N c x (scopeP Φ)
  | .loop c, .loop vars J body, Φ => (∀ h, allT vars fun l => J 0 l h → False) ∧ ∀ n, (∀ h, allT vars fun l => J (n + 1) l h → ev P N c (body fun l h => gJ (vars.map (·.2)) l h (J n)) (thenP (fun σ h => cutV vars σ fun l => gJ (vars.map (·.2)) l h (J n)) Φ) (envOf vars l) h) ∧
      obl P N c (body fun l h => gJ (vars.map (·.2)) l h (J n)) (thenP (fun σ h => cutV vars σ fun l => gJ (vars.map (·.2)) l h (J n)) Φ)
  | .rangeFunc _ _ as bd, .rng vars pv _ B x y, _ => ∀ (mid : Heap → (Heap → Prop) → Prop) (R : AExit → Heap → Prop),
      (∀ h, allT pv fun a => allT vars fun l => B l a h mid R → ev P N as x (rndT fun σ h => mid h fun h => ev P N bd (y R) (rndP R) σ h) (putsA N (pv.map (·.1)) a (envOf vars l)) h) ∧
      obl P N as x (rndT fun σ h => mid h fun h => ev P N bd (y R) (rndP R) σ h) ∧ obl P N bd (y R) (rndP R)
  | _, _, _ => True
def aPost (N : Nat) (κ : Ghost) (Φ : Post) : Exit → Act → World → Prop := fun e a w =>
  ∃ ae κ' σ h, AExit.rel ae e ∧ Φ ae σ h ∧ κ.Le κ' ∧ RelT N κ' σ a ∧ RelH κ' h w
def awp (P : Program) (ro : Option Nat) (N : Nat) (c : Code) (Φ : Post) (σ : Env) (h : Heap) : Prop :=
  ∀ κ a w, RelT N κ σ a → RelH κ h w → c.wpIn (FW ro) 0 P (aPost N κ Φ) a w
theorem aPost.le {N : Nat} {κ κ' : Ghost} (le : κ.Le κ') {Φ : Post} {e : Exit} {a : Act} {w : World} (h : aPost N κ' Φ e a w) : aPost N κ Φ e a w := by
  obtain ⟨ae, κ2, σ, h', h1, h2, h3, h4⟩ := h
  exact ⟨ae, κ2, σ, h', h1, h2, le.trans h3, h4⟩
omit [Nam] in
theorem exists_least {p : Nat → Prop} (h : ∃ n, p n) : ∃ n, p n ∧ ∀ m, p m → n ≤ m := by
  obtain ⟨n, hn⟩ := h
  induction n using Nat.strongRecOn with
  | _ n ih =>
    by_cases hm : ∃ m, m < n ∧ p m
    · obtain ⟨m, hlt, hp⟩ := hm
      exact ih m hlt hp
    · exact ⟨n, hn, fun m hp => Nat.le_of_not_lt fun hlt => hm ⟨m, hlt, hp⟩⟩
theorem gJ_plain {ks : List Kd} {l : List AVal} {h : Heap} {J : List AVal → Heap → Prop} (hk : kOKB ks l = true) (hj : J l h) : gJ ks l h J :=
  ⟨fun _ => False, l, h, Lits.refl _, GStep.refl h, hk, hj⟩
omit [Nam] in
theorem allT_use : ∀ {vs : List (Nat × Kd)} {Q : List AVal → Prop}, allT vs Q → ∀ {l : List AVal}, kOKB (vs.map (·.2)) l = true → Q l
  | [], Q, h, l, hl => by
    cases l with
    | nil => exact h
    | cons _ _ => simp [kOKB] at hl
  | (t, k) :: vs, Q, h, l, hl => by
    cases l with
    | nil => simp [kOKB] at hl
    | cons v l =>
      simp only [List.map_cons, kOKB, Bool.and_eq_true] at hl
      obtain ⟨h1, h2⟩ := hl
      cases k with
      | any => exact allT_use (Q := fun l => Q (v :: l)) (h v) h2
      | int k =>
        cases v <;> simp only [kindB, decide_eq_true_eq, Bool.false_eq_true] at h1
        subst h1
        exact allT_use (Q := fun l => Q (_ :: l)) (h _) h2
      | bool =>
        cases v <;> simp only [kindB, Bool.false_eq_true] at h1
        exact allT_use (Q := fun l => Q (_ :: l)) (h _) h2
      | str =>
        cases v <;> simp only [kindB, Bool.false_eq_true] at h1
        exact allT_use (Q := fun l => Q (_ :: l)) (h _) h2
omit [Nam] in
theorem cutV_rel {N : Nat} {κ : Ghost} {σ : Env} {a : Act} (T : RelT N κ σ a) : ∀ {vs : List (Nat × Kd)} {K : List AVal → Prop}, cutV vs σ K → ∃ l, K l ∧ RelVs κ l (vs.map fun v => a.tmps.getD v.1 undef)
  | [], K, h => ⟨[], h, .nil⟩
  | (t, k) :: vs, K, h => by
    obtain ⟨l, h1, h2⟩ := cutV_rel T (typ1_val h)
    exact ⟨σ t :: l, h1, .cons (T.tmps t) h2⟩
omit [Nam] in
theorem envOf_rel {κ : Ghost} {a : Act} : ∀ {vs : List (Nat × Kd)} {l : List AVal}, RelVs κ l (vs.map fun v => a.tmps.getD v.1 undef) → ∀ t, RelV κ (envOf vs l t) (a.tmps.getD t undef)
  | [], _, _, t => .undef _
  | (t0, k) :: vs, [], h, t => .undef _
  | (t0, k) :: vs, v :: l, h, t => by
    cases h with
    | cons h1 h2 =>
      simp only [envOf, upd]
      cases e : Nat.beq t t0 with
      | true => have := Nat.eq_of_beq_eq_true e; subst this; exact h1
      | false => exact envOf_rel h2 t
theorem ghost_cut {N : Nat} {κ : Ghost} {σ : Env} {h : Heap} {a : Act} {w : World} (T : RelT N κ σ a) (H : RelH κ h w) {vs : List (Nat × Kd)} {F : List AVal → Heap → Prop}
    (hk : cutV vs σ fun l => gJ (vs.map (·.2)) l h F) : ∃ κ' l' h', κ.Le κ' ∧ RelT N κ' (envOf vs l') a ∧ RelH κ' h' w ∧ kOKB (vs.map (·.2)) l' = true ∧ F l' h' := by
  obtain ⟨l, ⟨S, l', h', hl, hg, hkk, hf⟩, hr⟩ := cutV_rel T hk
  exact ⟨_, l', h', Ghost.le_frz κ h w S, ⟨T.size, envOf_rel (hl.relVs H.toRelH0 hr), T.defers.mono (Ghost.le_frz κ h w S)⟩, H.frz hg, hkk, hf⟩
open Classical in
theorem awp_loop {P : Program} {N : Nat} {c : Code} {Φ : Post} {vars : List (Nat × Kd)} {J : Nat → List AVal → Heap → Prop}
    (h0 : ∀ h, allT vars fun l => J 0 l h → False)
    (hs : ∀ n l h, kOKB (vars.map (·.2)) l = true → J (n + 1) l h → awp P ro N c (thenP (fun σ h => cutV vars σ fun l => gJ (vars.map (·.2)) l h (J n)) Φ) (envOf vars l) h)
    {σ : Env} {h : Heap} (hk : cutV vars σ fun l => gJ (vars.map (·.2)) l h fun l h => ∃ n, J n l h) : awp P ro N (.loop c) Φ σ h := by
  intro κ a w T H
  let R : Nat → Act → World → Prop := fun n a w => ∃ κ' l h, κ.Le κ' ∧ RelT N κ' (envOf vars l) a ∧ RelH κ' h w ∧ kOKB (vars.map (·.2)) l = true ∧ J n l h
  obtain ⟨κ0, l0, hh0, le0, T0, H0, hk0, n0, hn0⟩ := ghost_cut T H hk
  refine wpIn_loop (fun a w => ∃ n, R n a w) (fun a w => if h : ∃ n, R n a w then Classical.choose (exists_least h) else 0) ⟨n0, κ0, l0, hh0, le0, T0, H0, hk0, hn0⟩ ?_
  intro a1 w1 hI
  have hfind := (Classical.choose_spec (exists_least hI)).1
  simp only [dif_pos hI]
  generalize Classical.choose (exists_least hI) = n at hfind
  obtain ⟨κ1, l1, h1, le1, T1, H1, hk1, hc1⟩ := hfind
  cases n with
  | zero => exact (allT_use (h0 h1) hk1 hc1).elim
  | succ n =>
    refine wpIn_mono (hs n l1 h1 hk1 hc1 κ1 a1 w1 T1 H1) ?_
    rintro e a2 w2 ⟨ae, κ2, σ2, h2, hrel, hΦ, le2, T2, H2⟩
    cases e with
    | normal =>
      cases ae <;> first | exact hrel.elim | skip
      obtain ⟨κ3, l3, h3, le3, T3, H3, hk3, hj⟩ := ghost_cut T2 H2 hΦ
      have hR : R n a2 w2 := ⟨κ3, l3, h3, (le1.trans le2).trans le3, T3, H3, hk3, hj⟩
      refine ⟨⟨n, hR⟩, ?_⟩
      rw [dif_pos ⟨n, hR⟩]
      exact Nat.lt_succ_of_le ((Classical.choose_spec (exists_least ⟨n, hR⟩)).2 n hR)
    | _ =>
      cases ae <;> first
        | exact hrel.elim
        | exact ⟨_, κ2, σ2, h2, hrel, hΦ, le1.trans le2, T2, H2⟩
end Go.Sym

namespace Go.Sym
open Go
variable [Nam]
variable {ro : Option Nat}
theorem awp_seq {P : Program} {N : Nat} {a b : Code} {Φ : Post} {f : Env → Heap → Prop} {σ : Env} {h : Heap} (hb : ∀ σ h, f σ h → awp P ro N b Φ σ h)
    (ha : awp P ro N a (thenP f Φ) σ h) : awp P ro N (.seq a b) Φ σ h := by
  intro κ ac w T H
  refine wpIn_seq (wpIn_mono (ha κ ac w T H) ?_)
  rintro e a2 w2 ⟨ae, κ2, σ2, h2, hrel, hΦ, le2, T2, H2⟩
  cases e with
  | normal =>
    cases ae <;> first | exact hrel.elim | skip
    exact wpIn_mono (hb σ2 h2 hΦ κ2 a2 w2 T2 H2) fun _ _ _ hp => hp.le le2
  | _ =>
    cases ae <;> first
      | exact hrel.elim
      | exact ⟨_, κ2, σ2, h2, hrel, hΦ, le2, T2, H2⟩
theorem awp_block {P : Program} {N : Nat} {id : Nat} {c : Code} {Φ : Post} {σ : Env} {h : Heap} (hc : awp P ro N c (blockP id Φ) σ h) : awp P ro N (.block id c) Φ σ h := by
  intro κ ac w T H
  refine wpIn_block (wpIn_mono (hc κ ac w T H) ?_)
  rintro e a2 w2 ⟨ae, κ2, σ2, h2, hrel, hΦ, le2, T2, H2⟩
  cases e with
  | exit id' =>
    cases ae <;> first | exact hrel.elim | skip
    simp only [AExit.rel] at hrel
    subst hrel
    simp only [blockP] at hΦ
    simp only [Exit.inBlock]
    rename_i i
    cases e : Nat.beq i id with
    | true =>
      have := Nat.eq_of_beq_eq_true e
      rw [if_pos this]
      rw [e] at hΦ
      exact ⟨.normal, κ2, σ2, h2, trivial, hΦ, le2, T2, H2⟩
    | false =>
      have : i ≠ id := fun h => by subst h; rw [Nat.beq_refl] at e; cases e
      rw [if_neg this]
      rw [e] at hΦ
      exact ⟨.exit i, κ2, σ2, h2, rfl, hΦ, le2, T2, H2⟩
  | _ =>
    cases ae <;> first
      | exact hrel.elim
      | exact ⟨_, κ2, σ2, h2, hrel, hΦ, le2, T2, H2⟩
def Exit.noJump (Q : Exit → Act → World → Prop) : Exit → Act → World → Prop
  | .goto _, _, _ => False
  | e, a, w => Q e a w
omit [Nam] in
theorem stepR_scopeS {P : Program} {b : Frame} {k : List Item} {cs : List Frame} {a : Act} {w : World} {c : Code} : step P (lone (b.atR a (.code (.scope c) :: k)) cs w) = .next (lone (b.atR a (.code c :: .inScope c :: k)) cs w) :=
  step_lone_go (by simp [stepG, stepG.exec, Frame.atR])
omit [Nam] in
theorem stepR_inScopeS {P : Program} {b : Frame} {k : List Item} {cs : List Frame} {a : Act} {w : World} {c : Code} : step P (lone (b.atR a (.inScope c :: k)) cs w) = .next (lone (b.atR a k) cs w) :=
  step_lone_go (by simp [stepG, stepG.exec, Frame.atR])
omit [Nam] in
theorem wpIn_scopeS {F : Fence} {n : Nat} {P : Program} {c : Code} {Q : Exit → Act → World → Prop} {a : Act} {w : World} (h : c.wpIn F n P (Exit.noJump Q) a w) : (Code.scope c).wpIn F n P Q a w := by
  intro b k cs hro hb hr
  have h0 : (lone (b.atR a (.code (.scope c) :: k)) cs w).fenced P F := fenced_calm hb hr rfl
  obtain ⟨e, a₁, w₁, hq, harr⟩ := h b (.inScope c :: k) cs hro hb hr
  cases e with
  | normal => exact ⟨.normal, a₁, w₁, hq, .head h0 stepR_scopeS (StepsIn.trans harr (.one (fenced_calm hb hr rfl) stepR_inScopeS))⟩
  | exit id' =>
    have hx : exitTo id' (.inScope c :: k) = exitTo id' k := by simp [exitTo]
    exact ⟨.exit id', a₁, w₁, hq, fun k' hk => .head h0 stepR_scopeS (harr.1 k' (by rw [hx]; exact hk)),
      fun hr' hk => let ⟨k₁, h1, h2⟩ := harr.2 hr' (by rw [hx]; exact hk); ⟨k₁, h1, .head h0 stepR_scopeS h2⟩⟩
  | goto l => exact hq.elim
  | ret => exact ⟨_, a₁, w₁, hq, .of_steps (.one h0 stepR_scopeS) harr⟩
  | panic ch => exact ⟨_, a₁, w₁, hq, .of_steps (.one h0 stepR_scopeS) harr⟩
  | outgrown => exact ⟨_, a₁, w₁, hq, .of_steps (.one h0 stepR_scopeS) harr⟩
theorem awp_scope {P : Program} {N : Nat} {c : Code} {Φ : Post} {σ : Env} {h : Heap} (hc : awp P ro N c (scopeP Φ) σ h) : awp P ro N (.scope c) Φ σ h := by
  intro κ ac w T H
  refine wpIn_scopeS (wpIn_mono (hc κ ac w T H) ?_)
  rintro e a2 w2 ⟨ae, κ2, σ2, h2, hrel, hΦ, le2, T2, H2⟩
  cases e with
  | goto l =>
    cases ae <;> first | exact hrel.elim | exact hΦ.elim
  | _ =>
    cases ae <;> first
      | exact hrel.elim
      | exact ⟨_, κ2, σ2, h2, hrel, hΦ, le2, T2, H2⟩
/- ---------------- a loop over a function ---------------- -/
omit [Nam] in
theorem putsA_ok {N : Nat} {κ : Ghost} : ∀ {ps : List Nat} {args : List AVal} {xs : List Value} {σ : Env} {a : Act}, RelT N κ σ a → RelVs κ args xs → args.length = ps.length →
    RelT N κ (putsA N ps args σ) { a with tmps := (ps.zip xs).foldl (fun t (p : Nat × Value) => t.setIfInBounds p.1 p.2) a.tmps }
  | [], [], _, σ, a, T, _, _ => T
  | [], _ :: _, _, _, _, _, _, h => by cases h
  | _ :: _, [], _, _, _, _, _, h => by cases h
  | p :: ps, v :: vs, _, σ, a, T, .cons (x := x) (xs := xs) hv hs, h => putsA_ok (ps := ps) (a := a.put (some p) x) (T.put (d := some p) hv) hs (by simpa using h)
theorem RelH.loop {κ : Ghost} {h : Heap} {w : World} (H : RelH κ h w) {l N r : Nat} {σ : Nat → AVal} {ps : Array Tmp} {as bd : Code} {st : LSt} (hr : h r = some (.loop l N σ ps as bd st)) :
    ∃ rec : Loop, w.heap[l]? = some (.loop rec) ∧ rec.params = ps ∧ rec.assign = as ∧ rec.body = bd ∧ rec.tmps.size = N ∧ (∀ t, RelV κ (σ t) (rec.tmps.getD t undef)) ∧ st.ok rec ∧
      ∀ (st' : LSt) (rec' : Loop), rec'.params = ps → rec'.assign = as → rec'.body = bd → rec'.tmps = rec.tmps → st'.ok rec' → RelH κ (h.set r (.loop l N σ ps as bd st')) (w.putObj l (.loop rec')) := by
  obtain ⟨L, hL, him, hb, rec, hh, h1, h2, h3, h4, h5, h6⟩ := H.obj r _ hr
  subst hb
  refine ⟨rec, hh, h1, h2, h3, h4, h5, h6, fun st' rec' e1 e2 e3 e4 e5 => ?_⟩
  have hlt : L.b < w.heap.size := (Array.getElem?_eq_some_iff.1 hh).1
  refine H.write hr rfl hL (fun b hb => World.putObj_heap_other hb) rfl rfl rfl (Nat.le_refl _) ?_
  exact ⟨rfl, rec', World.putObj_heap_same hlt, e1, e2, e3, by rw [e4]; exact h4, by rw [e4]; exact h5, e5⟩
theorem RelH.del {κ : Ghost} {h : Heap} {w : World} (H : RelH κ h w) (r : Nat) (hn : ∀ n, Nam.G h n → Nam.G (h.del r) n) : RelH κ (h.del r) w :=
  ⟨H.toRelH0.sub (fun q o e => by
    simp only [Heap.del] at e
    split at e
    · cases e
    · exact e), hn _ H.nam, H.glob⟩
omit [Nam] in
theorem AExit.rel_code {P : Program} {F : Fence} {n : Nat} {Q : Exit → Act → World → Prop} {a : Act} {w : World} : ∀ {e : AExit} {e' : Exit}, AExit.rel e e' → Q e' a w → e.code.wpIn F n P Q a w
  | .normal, .normal, _, q => wpIn_skip q
  | .exit i, .exit j, h, q => by cases h; exact wpIn_exit q
  | .goto i, .goto j, h, q => by cases h; exact wpIn_goto q
  | .ret, .ret, _, q => wpIn_ret q
  | .normal, .exit _, h, _ | .normal, .goto _, h, _ | .normal, .ret, h, _ | .normal, .panic _, h, _ | .normal, .outgrown, h, _ => h.elim
  | .exit _, .normal, h, _ | .exit _, .goto _, h, _ | .exit _, .ret, h, _ | .exit _, .panic _, h, _ | .exit _, .outgrown, h, _ => h.elim
  | .goto _, .normal, h, _ | .goto _, .exit _, h, _ | .goto _, .ret, h, _ | .goto _, .panic _, h, _ | .goto _, .outgrown, h, _ => h.elim
  | .ret, .normal, h, _ | .ret, .exit _, h, _ | .ret, .goto _, h, _ | .ret, .panic _, h, _ | .ret, .outgrown, h, _ => h.elim
def AExit.toExit : AExit → Exit
  | .normal => .normal
  | .exit i => .exit i
  | .goto i => .goto i
  | .ret => .ret
omit [Nam] in
theorem AExit.rel_exit : ∀ e : AExit, e.rel e.toExit
  | .normal => trivial
  | .exit _ => rfl
  | .goto _ => rfl
  | .ret => trivial
theorem round_ok {P : Program} {N l r : Nat} {σ : Env} {ps : Array Tmp} {as bd : Code} {h : Heap} {args : List AVal} {K : AVal → Heap → Prop} (hlen : args.length = ps.size)
    (hr : h r = some (.loop l N σ ps as bd .ready))
    (hk : awp P (some l) N as (fun e σ1 h1 => e = .normal ∧ midR r (.loop l N σ ps as bd) h1 fun h1 => awp P (some l) N bd (rndP (endR r (.loop l N σ ps as bd) K)) σ1 h1) (putsA N ps.toList args σ) h) : ARound P l args h K := by
  intro κ xs w hx H
  obtain ⟨rec, h1, rfl, rfl, rfl, h5, h6, h7, _⟩ := H.loop hr
  have hxl := hx.length
  refine ⟨rec, h1, by omega, roundIn_of_wpIn trivial ?_⟩
  have T0 : RelT N κ σ { tmps := rec.tmps, defers := [] } := ⟨h5, h6, marksOK.nil κ⟩
  have T1 := putsA_ok (ps := rec.params.toList) (args := args) (xs := xs) T0 hx (by simpa using hlen)
  have e1 : (rec.params.zip xs.toArray).foldl (fun t (x : Nat × Value) => t.setIfInBounds x.1 x.2) rec.tmps = (rec.params.toList.zip xs).foldl (fun t (p : Nat × Value) => t.setIfInBounds p.1 p.2) rec.tmps := by
    rw [← Array.foldl_toList, Array.toList_zip]
  rw [show (fun (t : Array Value) (x : Nat × Value) => match x with | (p, v) => t.setIfInBounds p v) = fun t x => t.setIfInBounds x.1 x.2 from rfl, e1]
  refine wpIn_mono (hk κ _ w T1 H) ?_
  rintro e a2 w2 ⟨ae, κ2, σ2, h2, hrel, hΦ, le2, T2, H2⟩
  obtain ⟨rfl, hr2, hb2⟩ := hΦ
  cases e <;> first | exact hrel.elim | skip
  obtain ⟨rec2, g1, g2, g3, g4, g5, g6, g7, gw⟩ := H2.loop hr2
  refine ⟨_, run_beginRound g1 g7.1, ?_⟩
  have H3 := gw .busy { rec2 with state := .busy } g2 g3 g4 rfl rfl
  refine wpIn_mono (hb2 κ2 a2 _ T2 H3) ?_
  rintro e a3 w3 ⟨ae, κ3, σ3, h3, hrel3, ⟨hr3, hK⟩, le3, T3, H3⟩
  obtain ⟨rec3, k1, k2, k3, k4, k5, k6, k7, kw⟩ := H3.loop hr3
  have le := le2.trans le3
  cases e with
  | normal =>
    cases ae <;> first | exact hrel3.elim | skip
    exact ⟨_, _, run_endRound none k1, _, κ3, .bool true, _, rfl, le, kw .ready _ k2 k3 k4 rfl ⟨rfl, rfl⟩, .bool true, hK⟩
  | ret =>
    cases ae <;> first | exact hrel3.elim | skip
    exact ⟨_, _, run_endRound (some .ret) k1, _, κ3, .bool false, _, rfl, le, kw (.done .ret) _ k2 k3 k4 rfl ⟨rfl, rfl⟩, .bool false, hK⟩
  | exit id =>
    cases ae <;> first | exact hrel3.elim | skip
    cases hrel3
    exact ⟨_, _, run_endRound (some (.exit _)) k1, _, κ3, .bool false, _, rfl, le, kw (.done (.exit _)) _ k2 k3 k4 rfl ⟨rfl, rfl⟩, .bool false, hK⟩
  | goto id =>
    cases ae <;> first | exact hrel3.elim | skip
    cases hrel3
    exact ⟨_, _, run_endRound (some (.goto _)) k1, _, κ3, .bool false, _, rfl, le, kw (.done (.goto _)) _ k2 k3 k4 rfl ⟨rfl, rfl⟩, .bool false, hK⟩
  | panic ch => cases ae <;> exact hrel3.elim
  | outgrown => cases ae <;> exact hrel3.elim
omit [Nam] in
theorem anyX_ex {r : Nat} {o : LSt → AObj} {h : Heap} {F : AExit → Heap → Prop} : ∀ {xs : List AExit}, anyX r o h (exL xs F) → ∃ e : AExit, h r = some (o (.done e.code)) ∧ F e (h.del r)
  | [], hx => hx.elim
  | e :: xs, hx => by
    rcases hx with ⟨h1, h2⟩ | hx
    · exact ⟨e, h1, h2⟩
    · exact anyX_ex hx
omit [Nam] in
theorem kOKB_length : ∀ {ks : List Kd} {l : List AVal}, kOKB ks l = true → l.length = ks.length
  | [], [], _ => rfl
  | [], _ :: _, h => by cases h
  | _ :: _, [], h => by cases h
  | _ :: ks, _ :: l, h => by
    simp only [kOKB, Bool.and_eq_true] at h
    simp [kOKB_length h.2]
theorem rng_ok {P : Program} {N : Nat} {g : Operand} {ps : Array Tmp} {as bd : Code} {σ0 σ : Env} {h : Heap} {Φ : Post} {B : List AVal → Heap → (Heap → (Heap → Prop) → Prop) → (AExit → Heap → Prop) → Prop} {ks : List Kd} {xs : List AExit}
    (hcut : ∀ t, σ t = .undef ∨ σ t = σ0 t)
    (hB : ∀ l r args h1 K, kOKB ks args = true → h1 r = some (.loop l N σ ps as bd .ready) → B args h1 (midR r (.loop l N σ ps as bd)) (endR r (.loop l N σ ps as bd) K) → ARound P l args h1 K)
    (hk : rngG P (evA σ0 g) ks h B (fun h => Φ .normal σ h) (exL xs fun e h => Φ e σ h)) : awp P none N (.rangeFunc g ps as bd) Φ σ0 h := by
  intro κ a w T H
  have Tc := T.cut hcut
  unfold rngG at hk
  split at hk
  · rename_i f first cap hg
    have hrel := evA_ok T g
    rw [hg] at hrel
    obtain ⟨fs, cs, hval, hfs, hcs⟩ : ∃ fs cs, a.eval g = .func (.func f) (List.toArray fs) (List.toArray cs) ∧ RelVs κ first fs ∧ RelVs κ cap cs := by
      cases he : a.eval g <;> rw [he] at hrel <;> cases hrel
      exact ⟨_, _, rfl, by assumption, by assumption⟩
    refine wpIn_rangeFunc fun fn _ => ?_
    let D := w.heap.size
    let rec0 : Loop := { state := .ready, pending := none, fn, tmps := a.tmps, params := ps, assign := as, body := bd, defers := D }
    have le1 : κ.Le (κ.addImm D (.deferred (some []))) := Ghost.le_addImm _ H.imm_new
    have H1 := H.alloc_imm (.deferred (some []))
    have hsz : (w.alloc (.deferred (some []))).heap.size = D + 1 := World.size_alloc _ _
    have T1 := Tc.mono le1
    have H2 := H1.alloc_loc (.loop rec0) (.loop (w.alloc (.deferred (some []))).heap.size N σ ps as bd .ready) 1 1
      ⟨rfl, rec0, heap_alloc_new _ _, rfl, rfl, rfl, T.size, fun t => (T1.tmps t).mono (Ghost.le_addLoc (H1.fin _ (Nat.le_refl _)) _), rfl, rfl⟩
    have le2 := Ghost.le_addLoc (H1.fin _ (Nat.le_refl _)) ⟨(w.alloc (.deferred (some []))).heap.size, 0, 1, 1⟩
    have le := le1.trans le2
    obtain ⟨hok, hc⟩ := hk (w.alloc (.deferred (some []))).heap.size κ.nref (.loop (w.alloc (.deferred (some []))).heap.size N σ ps as bd) H.nref_none H.nam (fun args h1 K => hB _ _ args h1 K)
    have hargs : RelVs ((κ.addImm D (.deferred (some []))).addLoc ⟨(w.alloc (.deferred (some []))).heap.size, 0, 1, 1⟩) (first ++ [.func (.yield (w.alloc (.deferred (some []))).heap.size) [] []] ++ cap)
        (fs ++ [.func (.yield (w.alloc (.deferred (some []))).heap.size) #[] #[]] ++ cs) :=
      ((hfs.mono le).append (.cons (.func (fs := []) (cs := []) .nil .nil) .nil)).append (hcs.mono le)
    have hcall := hc _ _ _ hargs H2
    have hrun : (Instr.enterLoop fn a.tmps ps as bd (FW none).round).run P w = .ok ((w.alloc (.deferred (some []))).heap.size, [{ target := .collected D, args := #[] }]) ((w.alloc (.deferred (some []))).alloc (.loop rec0)) := by
      rw [hsz]; exact run_enterLoop_outer fn a.tmps ps as bd
    refine ⟨_, _, _, { target := .fn (.func f) cs.toArray, args := fs.toArray ++ #[.func (.yield (w.alloc (.deferred (some []))).heap.size) #[] #[]] }, (w.alloc (.deferred (some []))).alloc (.loop rec0), f, _, (w.alloc (.deferred (some []))).alloc (.loop rec0), hrun, ?_, fun _ _ => trivial, ?_, (fun e => by cases e), (callsIn_wide (n := 0 - 1)).2 (hcall.mono ?_)⟩
    · simp only [rangeCall, resolve, hval, Deferred.ofValue, Sem.run_pure, List.map_toArray, List.map_cons, List.map_nil]
      rfl
    · simp only [invoke]
      rw [run_callFunc hok]
      simp
    · rintro e w3 ⟨v, κ3, av, h3, rfl, le3, H3, _, hn, hend⟩
      have lek := le.trans le3
      have hD : (κ.addImm D (.deferred (some []))).imm D = some (.deferred (some [])) := Ghost.addImm_same _ _
      have hDn : κ.imm D = none := H.imm_new
      have hmarks : marksOK κ3 ([{ target := .collected D, args := #[] }] ++ a.defers) := by
        obtain ⟨Ds, d1, d2, d3⟩ := T.defers
        refine ⟨D :: Ds, by rw [d1]; rfl, List.nodup_cons.2 ⟨fun hm => ?_, d2⟩, fun D' hD' => ?_⟩
        · have := (d3 D hm).2
          rw [hDn] at this; cases this
        · rw [lek.mks]
          rcases List.mem_cons.1 hD' with rfl | hD'
          · refine ⟨fun hm => ?_, le3.imm _ _ (le2.imm _ _ hD)⟩
            obtain ⟨o, ho⟩ := H.mks _ hm
            rw [hDn] at ho; cases ho
          · exact ⟨(d3 D' hD').1, lek.imm _ _ (d3 D' hD').2⟩
      have T3 : RelT N κ3 σ { a with defers := [{ target := .collected D, args := #[] }] ++ a.defers } := ⟨T.size, fun t => (Tc.tmps t).mono lek, hmarks⟩
      have fin : ∀ (st : LSt) (rec3 : Loop), h3 κ.nref = some (.loop (w.alloc (.deferred (some []))).heap.size N σ ps as bd st) → w3.heap[(w.alloc (.deferred (some []))).heap.size]? = some (.loop rec3) → rec3.params = ps → rec3.assign = as → rec3.body = bd → 
          (∀ (st' : LSt) (rec' : Loop), rec'.params = ps → rec'.assign = as → rec'.body = bd → rec'.tmps = rec3.tmps → st'.ok rec' → RelH κ3 (h3.set κ.nref (.loop (w.alloc (.deferred (some []))).heap.size N σ ps as bd st')) (w3.putObj (w.alloc (.deferred (some []))).heap.size (.loop rec'))) →
          RelH κ3 (h3.del κ.nref) (w3.putObj (w.alloc (.deferred (some []))).heap.size (.loop { rec3 with state := .exhausted })) := by
        intro st rec3 hr3 k1 k2 k3 k4 kw
        have H4 := kw .over { rec3 with state := .exhausted } k2 k3 k4 rfl trivial
        refine ⟨H4.toRelH0.sub (fun q o e => ?_), hn _ H3.nam, H3.glob⟩
        simp only [Heap.del] at e
        split at e
        · cases e
        · rename_i hne
          rw [Heap.set_other _ _ hne]; exact e
      rcases hend with ⟨hr3, hΦ⟩ | hx
      · obtain ⟨rec3, k1, k2, k3, k4, k5, k6, k7, kw⟩ := H3.loop hr3
        refine ⟨none, _, ?_, ⟨.normal, κ3, σ, _, trivial, hΦ, lek, T3, fin _ rec3 hr3 k1 k2 k3 k4 kw⟩⟩
        rw [← k7.2]
        exact run_endLoop k1 (by rw [k7.1]; intro e; cases e)
      · obtain ⟨ae, hr3, hΦ⟩ := anyX_ex hx
        obtain ⟨rec3, k1, k2, k3, k4, k5, k6, k7, kw⟩ := H3.loop hr3
        refine ⟨some ae.code, _, ?_, AExit.rel_code ae.rel_exit ⟨ae, κ3, σ, _, ae.rel_exit, hΦ, lek, T3, fin _ rec3 hr3 k1 k2 k3 k4 kw⟩⟩
        rw [← k7.2]
        exact run_endLoop k1 (by rw [k7.1]; intro e; cases e)
  · exact hk.elim
omit [Nam] in
theorem and_rn {ro : Option Nat} {a b : Bool} (h : ro = none ∨ (a && b) = true) : (ro = none ∨ a = true) ∧ (ro = none ∨ b = true) := by
  rcases h with h | h
  · exact ⟨.inl h, .inl h⟩
  · rw [Bool.and_eq_true] at h
    exact ⟨.inr h.1, .inr h.2⟩
theorem ev_sound {P : Program} {N : Nat} (x : Ann) : ∀ (ro : Option Nat) (c : Code), ro = none ∨ noRng c = true → ∀ (Φ : Post), obl P N c x Φ → ∀ σ h, ev P N c x Φ σ h → awp P ro N c Φ σ h := by
  induction x with
  | leaf =>
    intro ro c hrn Φ ho σ h hk
    cases c <;> first
      | exact hk.elim
      | (intro κ a w T H; exact wpIn_skip ⟨.normal, κ, σ, h, trivial, hk, Ghost.Le.refl κ, T, H⟩)
      | (intro κ a w T H; exact wpIn_label ⟨.normal, κ, σ, h, trivial, hk, Ghost.Le.refl κ, T, H⟩)
      | (intro κ a w T H; exact wpIn_exit ⟨.exit _, κ, σ, h, rfl, hk, Ghost.Le.refl κ, T, H⟩)
      | (intro κ a w T H; exact wpIn_goto ⟨.goto _, κ, σ, h, rfl, hk, Ghost.Le.refl κ, T, H⟩)
      | (intro κ a w T H; exact wpIn_ret ⟨.ret, κ, σ, h, trivial, hk, Ghost.Le.refl κ, T, H⟩)
      | (rename_i id ops draw; cases draw <;> exact hk.elim)
  | reg gs =>
    intro ro c hrn Φ ho σ h hk
    cases c <;> first
      | exact hk.elim
      | skip
    rename_i id ops draw
    cases draw with
    | true => exact hk.elim
    | false =>
      simp only [ev] at hk
      split at hk
      · rename_i hg
        intro κ a w T H
        refine wpIn_region ?_
        rw [← natBeqL_eq hg]
        refine evG_ok T H hk ?_
        intro κ' σ' h' a' w' le T' H' hk'
        exact ⟨.normal, κ', σ', h', trivial, hk', le, T', H'⟩
      · exact hk.elim
  | draw c bs =>
    intro ro co hrn Φ ho σ h hk
    cases co <;> first
      | exact hk.elim
      | skip
    rename_i id ops draw
    cases draw with
    | false => exact hk.elim
    | true =>
      simp only [ev] at hk
      split at hk
      · rename_i hg
        simp only [Bool.and_eq_true] at hg
        intro κ a w T H
        refine wpIn_region_draw fun t => ?_
        rw [hg.1]
        have H2 : RelH κ h { w with drawn := w.drawn + 1 } := H.same rfl rfl rfl rfl (Nat.le_succ _)
        refine evD_ok hg.2 T H2 hk ?_ t
        intro κ' σ' h' a' w' le T' H' hk'
        exact ⟨.normal, κ', σ', h', trivial, hk', le, T', H'⟩
      · exact hk.elim
  | drawT c bs =>
    intro ro co hrn Φ ho σ h hk
    cases co <;> first
      | exact hk.elim
      | skip
    rename_i id ops draw
    cases draw with
    | false => exact hk.elim
    | true =>
      simp only [ev] at hk
      split at hk
      · rename_i hg
        simp only [Bool.and_eq_true] at hg
        intro κ a w T H
        refine wpIn_region_draw fun t => ?_
        rw [hg.1]
        have H2 : RelH κ h { w with drawn := w.drawn + 1 } := H.same rfl rfl rfl rfl (Nat.le_succ _)
        refine evT_ok hg.2.1 hg.2.2 T H2 hk ?_ t
        intro κ' σ' h' a' w' le T' H' hk'
        exact ⟨.normal, κ', σ', h', trivial, hk', le, T', H'⟩
      · exact hk.elim
  | seq x y ihx ihy =>
    intro ro c hrn Φ ho σ h hk
    cases c <;> first
      | exact hk.elim
      | (rename_i id ops draw; cases draw <;> exact hk.elim)
      | skip
    simp only [ev] at hk
    simp only [obl] at ho
    have hrn2 := and_rn hrn
    exact awp_seq (fun σ h hb => ihy ro _ hrn2.2 Φ ho.2 σ h hb) (ihx ro _ hrn2.1 _ ho.1 σ h hk)
  | cut vars J x y ihx ihy =>
    intro ro c hrn Φ ho σ h hk
    cases c <;> first
      | exact hk.elim
      | (rename_i id ops draw; cases draw <;> exact hk.elim)
      | skip
    simp only [ev] at hk
    simp only [obl] at ho
    have hrn2 := and_rn hrn
    refine awp_seq (fun σ h hb => ?_) (ihx ro _ hrn2.1 _ ho.1 σ h hk)
    have := allT_cutV (K' := fun l => ev P N _ y Φ (envOf vars l) h) (ho.2.1 h) hb
    obtain ⟨l, hl, he⟩ := cutV_env this
    intro κ a w T H
    exact ihy ro _ hrn2.2 Φ ho.2.2 _ h hl κ a w (T.cut he) H
  | cond x y ihx ihy =>
    intro ro c hrn Φ ho σ h hk
    cases c <;> first
      | exact hk.elim
      | (rename_i id ops draw; cases draw <;> exact hk.elim)
      | skip
    rename_i op a b
    simp only [ev] at hk
    simp only [obl] at ho
    split at hk
    · rename_i t ht
      intro κ ac w T H
      have hr := evA_ok T op
      rw [ht] at hr
      have hv : ac.eval op = .bool t := by
        generalize ac.eval op = v at hr
        cases hr
        rfl
      refine wpIn_cond hv ?_
      rw [ifT_eq] at hk
      split at hk
      · rename_i e; rw [if_pos e]; exact ihx ro _ (and_rn hrn).1 Φ ho.1 σ h hk κ ac w T H
      · rename_i e; rw [if_neg e]; exact ihy ro _ (and_rn hrn).2 Φ ho.2 σ h hk κ ac w T H
    · exact hk.elim
  | block x ihx =>
    intro ro c hrn Φ ho σ h hk
    cases c <;> first
      | exact hk.elim
      | (rename_i id ops draw; cases draw <;> exact hk.elim)
      | skip
    · simp only [ev] at hk
      simp only [obl] at ho
      exact awp_block (by refine ihx ro _ ?_ _ ho σ h hk; exact hrn)
    · simp only [ev] at hk
      simp only [obl] at ho
      exact awp_scope (by refine ihx ro _ ?_ _ ho σ h hk; exact hrn)
  | loop vars J body ih =>
    intro ro c hrn Φ ho σ h hk
    cases c <;> first
      | exact hk.elim
      | (rename_i id ops draw; cases draw <;> exact hk.elim)
      | skip
    simp only [ev] at hk
    simp only [obl] at ho
    exact awp_loop ho.1 (fun n l h hl hj => by refine ih _ ro _ ?_ _ (ho.2 n).2 _ h (allT_use ((ho.2 n).1 h) hl hj); exact hrn) hk
  | rng vars pv xs B x y ihx ihy =>
    intro ro c hrn Φ ho σ h hk
    cases c <;> first
      | exact hk.elim
      | (rename_i id ops draw; cases draw <;> exact hk.elim)
      | skip
    rename_i g ps as bd
    have hro : ro = none := hrn.resolve_right (by simp [noRng])
    subst hro
    simp only [ev] at hk
    split at hk
    · rename_i hnr
      simp only [Bool.and_eq_true] at hnr
      simp only [obl] at ho
      have hpv := natBeqL_eq hnr.2.2
      obtain ⟨l, hl, hkk, he⟩ := cutV_kind hk
      refine rng_ok he (fun lb r args h1 K hka hr hBk => ?_) hl
      obtain ⟨o1, o2, o3⟩ := ho (midR r (.loop lb N (envOf vars l) ps as bd)) (endR r (.loop lb N (envOf vars l) ps as bd) K)
      have hev := allT_use (allT_use (o1 h1) hka) hkk hBk
      have hlen : args.length = ps.size := by
        have h1 := kOKB_length hka
        have h2 := congrArg List.length hpv
        simp only [List.length_map, Array.length_toList] at h1 h2
        omega
      refine round_ok hlen hr ?_
      rw [hpv]
      intro κ a w T H
      refine wpIn_mono (ihx (some lb) _ (.inr hnr.1) _ o2 _ h1 hev κ a w T H) ?_
      rintro e a2 w2 ⟨ae, κ2, σ2, h2, hrel, hΦ, le2, T2, H2⟩
      cases ae with
      | normal => exact ⟨.normal, κ2, σ2, h2, hrel, ⟨rfl, hΦ.1, ihy _ (some lb) _ (.inr hnr.2.1) _ o3 _ _ hΦ.2⟩, le2, T2, H2⟩
      | _ => exact hΦ.elim
    · exact hk.elim
/- ---------------- from code to a call ---------------- -/
def resA (P : Program) (σ : Env) (h : Heap) : List ResultVar → (List AVal → Prop) → Prop
  | [], K => K []
  | .tmp t :: rs, K => resA P σ h rs fun l => K (σ t :: l)
  | .cell a t :: rs, K => loadA P h t (σ a) fun v => typ (kds P t) v fun v => resA P σ h rs fun l => K (v :: l)
def packA (l : List AVal) : AVal :=
  match l with
  | [v] => v
  | l => .tuple l
def retG (v : AVal) (h : Heap) (K : AVal → Heap → Prop) : Prop := ∃ S v' h', Lit h S v v' ∧ GStep h h' S ∧ K v' h'
theorem retG.plain {v : AVal} {h : Heap} {K : AVal → Heap → Prop} (hk : K v h) : retG v h K := ⟨fun _ => False, v, h, .refl v, GStep.refl h, hk⟩
def argsE : List AVal → Env
  | [] => fun _ => .tuple []
  | v :: l => fun t => match t with
    | 0 => v
    | t + 1 => argsE l t
def retP (P : Program) (fn : Func) (K : AVal → Heap → Prop) : Post := fun e σ h =>
  match e with
  | .normal => resA P σ h fn.results.toList fun l => retG (packA l) h K
  | .ret => resA P σ h fn.results.toList fun l => retG (packA l) h K
  | _ => False
omit [Nam] in
theorem argsE_get : ∀ (l : List AVal) (t : Nat), argsE l t = l.getD t (.tuple [])
  | [], _ => rfl
  | v :: l, 0 => rfl
  | v :: l, t + 1 => by simpa [argsE] using argsE_get l t
def resSem (tmps : Array Value) : ResultVar → Sem Value
  | .tmp t => pure (tmps.getD t undef)
  | .cell a t => do loadVar t (← asAddr (tmps.getD a undef))
omit [Nam] in
theorem results_eq (fn : Func) (tmps : Array Value) : results fn tmps = (do
    let vs ← fn.results.mapM (resSem tmps)
    pure (if h : vs.size = 1 then vs[0] else .tuple vs)) := by
  unfold results
  congr 1
omit [Nam] in
theorem loadAt_loadVar {P : Program} {t : TypeId} {x v : Value} {w : World} (h : (Instr.loadAt t x).run P w = .ok v w) : (do loadVar t (← asAddr x) : Sem Value).run P w = .ok v w := by
  cases x <;> first
    | (simp [Instr.loadAt, Instr.sureAddr] at h; done)
    | skip
  rename_i o
  cases o with
  | none => simp [Instr.loadAt, Instr.sureAddr] at h
  | some ad => simpa [Instr.loadAt, Instr.sureAddr, asAddr] using h
theorem resA_ok {P : Program} {κ : Ghost} {h : Heap} {w : World} {σ : Env} {a : Act} (T : ∀ t, RelV κ (σ t) (a.tmps.getD t undef)) (H : RelH κ h w) : ∀ {rs : List ResultVar} {K : List AVal → Prop}, resA P σ h rs K →
    ∃ vs avs, (rs.mapM (resSem a.tmps)).run P w = Result.ok vs w ∧ RelVs κ avs vs ∧ K avs
  | [], K, hk => ⟨[], [], by simp, .nil, hk⟩
  | .tmp t :: rs, K, hk => by
    obtain ⟨vs, avs, h1, h2, h3⟩ := resA_ok T H (K := fun l => K (σ t :: l)) hk
    refine ⟨a.tmps.getD t undef :: vs, σ t :: avs, ?_, .cons (T t) h2, h3⟩
    rw [List.mapM_cons]
    simp only [Sem.run_bind, resSem, Sem.run_pure, Result.andThen_ok, h1]
  | .cell ad t :: rs, K, hk => by
    obtain ⟨v, av, h1, h2, h3⟩ := loadA_ok (P := P) H (T ad) hk
    have h3 := typ_val h3
    obtain ⟨vs, avs, h4, h5, h6⟩ := resA_ok T H (K := fun l => K (av :: l)) h3
    refine ⟨v :: vs, av :: avs, ?_, .cons h2 h5, h6⟩
    rw [List.mapM_cons, Sem.run_bind]
    have h7 := loadAt_loadVar h1
    rw [show resSem a.tmps (.cell ad t) = (do loadVar t (← asAddr (a.tmps.getD ad undef))) from rfl, h7]
    simp only [Sem.run_bind, Sem.run_pure, Result.andThen_ok, h4]
def shutM : List Nat → World → World
  | [], w => w
  | D :: Ds, w => shutM Ds (w.putObj D (.deferred none))
omit [Nam] in
theorem shutM_other : ∀ (Ds : List Nat) (w : World) {b : Nat}, b ∉ Ds → (shutM Ds w).heap[b]? = w.heap[b]?
  | [], _, _, _ => rfl
  | D :: Ds, w, b, hb => by
    rw [List.mem_cons, not_or] at hb
    rw [shutM, shutM_other Ds _ hb.2, World.putObj_heap_other hb.1]
omit [Nam] in
theorem shutM_os : ∀ (Ds : List Nat) (w : World), (shutM Ds w).os = w.os
  | [], _ => rfl
  | D :: Ds, w => by rw [shutM, shutM_os Ds]; rfl
omit [Nam] in
theorem shutM_tape : ∀ (Ds : List Nat) (w : World), (shutM Ds w).tape = w.tape
  | [], _ => rfl
  | D :: Ds, w => by rw [shutM, shutM_tape Ds]; rfl
omit [Nam] in
theorem shutM_output : ∀ (Ds : List Nat) (w : World), (shutM Ds w).output = w.output
  | [], _ => rfl
  | D :: Ds, w => by rw [shutM, shutM_output Ds]; rfl
omit [Nam] in
theorem shutM_drawn : ∀ (Ds : List Nat) (w : World), (shutM Ds w).drawn = w.drawn
  | [], _ => rfl
  | D :: Ds, w => by rw [shutM, shutM_drawn Ds]; rfl
omit [Nam] in
theorem leaves_marks {P : Program} {fn : Func} {tmps : Array Value} {R : Ending → World → Prop} : ∀ (Ds : List Nat) (w : World), Ds.Nodup → (∀ D ∈ Ds, w.heap[D]? = some (.deferred (some []))) →
    (∃ v, (results fn tmps).run P (shutM Ds w) = .ok v (shutM Ds w) ∧ R (.returned v) (shutM Ds w)) → LeavesInM Fence.wide 0 P fn tmps R (Ds.map fun D => { target := .collected D, args := #[] }) .returning w
  | [], w, _, _, h => h
  | D :: Ds, w, hn, hd, h => by
    obtain ⟨hn1, hn2⟩ := List.nodup_cons.1 hn
    refine ⟨by simp, .inl ⟨D, _, rfl, run_takeDeferred (hd D List.mem_cons_self), ?_⟩⟩
    refine leaves_marks Ds _ hn2 (fun D' hD' => ?_) h
    rw [World.putObj_heap_other (fun e => hn1 (by rw [← e]; exact hD'))]
    exact hd D' (List.mem_cons_of_mem _ hD')
theorem calls_of_awp {P : Program} {f : FuncId} {fn : Func} {c : Code} {args : List AVal} {h : Heap} {K : AVal → Heap → Prop} (hf : P.funcs[f]? = some fn) (hb : fn.body = some c)
    (hok : okF P f = true) (hn : Nat.ble args.length fn.ntmps = true) (hk : awp P none fn.ntmps c (retP P fn K) (argsE args) h) : ACalls P f args h K := by
  refine ⟨hok, fun κ xs w hx H => ?_⟩
  refine callsIn_wide.1 (callsIn_of_wp_marks (n := 0) hf hb trivial ?_)
  have hlen := hx.length
  have hle : args.length ≤ fn.ntmps := Nat.le_of_ble_eq_true hn
  let κ1 : Ghost := { κ with mks := fun b => ∃ o, κ.imm b = some o }
  have lw : κ.LeW κ1 := ⟨fun _ _ e _ => e, fun _ _ e => e⟩
  have H1 : RelH κ1 h w := ⟨⟨H.imm, fun r o e => by
      obtain ⟨L, a, b, c⟩ := H.obj r o e
      exact ⟨L, a, b, c.monoW lw⟩, H.sep, H.fin, H.os, H.tape, H.output, H.drawn, fun _ e => e⟩, H.nam, H.glob⟩
  have T : RelT fn.ntmps κ1 (argsE args) { tmps := xs.toArray ++ Array.replicate (fn.ntmps - xs.toArray.size) undef, defers := [] } := by
    refine ⟨by simp; omega, fun t => ?_, marksOK.nil _⟩
    rw [argsE_get]
    by_cases ht : t < args.length
    · obtain ⟨v, hv, hr⟩ := hx.get (List.getElem?_eq_getElem ht)
      have e1 : args.getD t (.tuple []) = args[t] := by simp [List.getD, ht]
      have e2 : (xs.toArray ++ Array.replicate (fn.ntmps - xs.toArray.size) undef).getD t undef = v := by
        have hxl : t < xs.length := by omega
        rw [Array.getD_eq_getD_getElem?, Array.getElem?_append_left (by simpa using hxl)]
        simp [hv]
      rw [e1, e2]
      exact hr.monoW lw
    · have e1 : args.getD t (.tuple []) = .tuple [] := by simp [List.getD, List.getElem?_eq_none (Nat.le_of_not_lt ht)]
      have e2 : (xs.toArray ++ Array.replicate (fn.ntmps - xs.toArray.size) undef).getD t undef = undef := by
        rw [Array.getD_eq_getD_getElem?, Array.getElem?_append_right (by simp; omega)]
        simp only [Array.getElem?_replicate]
        split <;> rfl
      rw [e1, e2]
      exact .tuple (xs := []) .nil
  refine wpIn_mono (hk κ1 _ w T H1) ?_
  rintro e a2 w2 ⟨ae, κ2, σ2, h2, hrel, hΦ, le2, T2, H2⟩
  have main : resA P σ2 h2 fn.results.toList (fun l => retG (packA l) h2 K) →
      LeavesInM Fence.wide 0 P fn a2.tmps (fun e w' => ∃ v κ' av h', e = .returned v ∧ κ.Le κ' ∧ RelH κ' h' w' ∧ RelV κ' av v ∧ K av h') a2.defers .returning w2 := by
    intro hr
    obtain ⟨Ds, hds, hnd, hD⟩ := T2.defers
    have hin : ∀ b o, κ.imm b = some o → b ∉ Ds := fun b o e hb => (hD b hb).1 (by rw [le2.mks]; exact ⟨o, e⟩)
    let κ3 : Ghost := { κ2 with mks := κ.mks, imm := fun b => if b ∈ Ds then none else κ2.imm b }
    have l23 : κ2.LeW κ3 := ⟨fun b o e hno => by
        show (if b ∈ Ds then none else κ2.imm b) = some o
        rw [if_neg, e]
        intro hb
        rw [(hD b hb).2] at e
        cases e
        exact hno _ rfl, fun _ _ e => e⟩
    have le3 : κ.Le κ3 := ⟨fun b o e => by
        show (if b ∈ Ds then none else κ2.imm b) = some o
        rw [if_neg (hin b o e)]
        exact le2.imm b o e, le2.loc, le2.os, le2.tape, le2.output, le2.drawn, rfl⟩
    have H3 : RelH κ3 h2 (shutM Ds w2) := by
      refine ⟨⟨fun b o e => ?_, fun r o e => ?_, H2.sep, H2.fin, ?_, ?_, ?_, ?_, fun b hb => ?_⟩, H2.nam, Nam.mono le3.imm H.glob⟩
      · have e : (if b ∈ Ds then none else κ2.imm b) = some o := e
        split at e
        · cases e
        · rename_i hb; rw [shutM_other Ds w2 hb]; exact H2.imm b o e
      · obtain ⟨L, a, b, c⟩ := H2.obj r o e
        have hnb : L.b ∉ Ds := by
          intro hb
          have hd := (hD L.b hb).2
          cases ho : o.owned with
          | true => rw [b ho] at hd; cases hd
          | false =>
            cases o <;> first | (cases ho; done) | skip
            obtain ⟨es, clock, him, _⟩ := c
            rw [him] at hd; cases hd
        refine ⟨L, a, fun ho => ?_, (c.monoW l23).congr (shutM_other Ds w2 hnb)⟩
        show (if L.b ∈ Ds then none else κ2.imm L.b) = none
        rw [if_neg hnb]; exact b ho
      · rw [shutM_os]; exact H2.os
      · rw [shutM_tape]; exact H2.tape
      · rw [shutM_output]; exact H2.output
      · rw [shutM_drawn]; exact H2.drawn
      · obtain ⟨o, ho⟩ := H.mks b hb
        exact ⟨o, le3.imm _ _ ho⟩
    obtain ⟨vs, avs, h1, h3, S, v', h', hl, hg, hk'⟩ := resA_ok (P := P) (fun t => (T2.tmps t).monoW l23) H3 hr
    have hfin : ∃ v, (results fn a2.tmps).run P (shutM Ds w2) = .ok v (shutM Ds w2) ∧ ∃ v' κ' av h', Ending.returned v = .returned v' ∧ κ.Le κ' ∧ RelH κ' h' (shutM Ds w2) ∧ RelV κ' av v' ∧ K av h' := by
      refine ⟨(if hh : vs.toArray.size = 1 then vs.toArray[0] else .tuple vs.toArray), ?_, _, _, v', h', rfl, le3.trans (Ghost.le_frz κ3 h2 _ S), H3.frz hg, hl.rel H3.toRelH0 ?_, hk'⟩
      · rw [results_eq, Sem.run_bind, Array.mapM_eq_mapM_toList]
        simp only [Sem.run_map, h1, Result.andThen_ok, Sem.run_pure]
      · cases h3 with
        | nil => exact .tuple (xs := []) .nil
        | cons hv hs =>
          cases hs with
          | nil => simpa [packA] using hv
          | cons hv2 hs2 =>
            have := RelV.tuple (.cons hv (.cons hv2 hs2))
            simpa [packA] using this
    rw [hds]
    exact leaves_marks Ds w2 hnd (fun D hd => H2.imm _ _ (hD D hd).2) hfin
  cases e with
  | normal =>
    cases ae <;> first | exact hrel.elim | skip
    exact main hΦ
  | ret =>
    cases ae <;> first | exact hrel.elim | skip
    exact main hΦ
  | _ =>
    cases ae <;> first
      | exact hrel.elim
      | exact hΦ.elim
theorem calls_of_ev {P : Program} {f : FuncId} {fn : Func} {c : Code} {x : Ann} {args : List AVal} {h : Heap} {K : AVal → Heap → Prop} (hf : P.funcs[f]? = some fn) (hb : fn.body = some c)
    (hok : okF P f = true) (hn : Nat.ble args.length fn.ntmps = true) (ho : obl P fn.ntmps c x (retP P fn K)) (hk : ev P fn.ntmps c x (retP P fn K) (argsE args) h) : ACalls P f args h K :=
  calls_of_awp hf hb hok hn (ev_sound x none c (.inl rfl) _ ho _ h hk)
/- ---------------- the labels' own readings of their variables: of great height, so that the kernel unfolds them first ---------------- -/
namespace J
def cons (l : List AVal) (K : AVal → List AVal → Prop) : Prop := (fun _ : Unit => match l with
  | v :: l => K v l
  | [] => False) u160
def nil (l : List AVal) (K : Prop) : Prop := (fun _ : Unit => match l with
  | [] => K
  | _ => False) u160
def int (k : IntKind) (v : AVal) (K : Int → Prop) : Prop := (fun _ : Unit => match v with
  | .int _ n => K n
  | _ => False) u160
def bool (v : AVal) (K : Bool → Prop) : Prop := (fun _ : Unit => match v with
  | .bool b => K b
  | _ => False) u160
def str (v : AVal) (K : ByteArray → Prop) : Prop := (fun _ : Unit => match v with
  | .str s => K s
  | _ => False) u160
def ci (k : IntKind) (l : List AVal) (K : Int → List AVal → Prop) : Prop := cons l fun v l => int k v fun x => K x l
def cb (l : List AVal) (K : Bool → List AVal → Prop) : Prop := cons l fun v l => bool v fun x => K x l
def cs (l : List AVal) (K : ByteArray → List AVal → Prop) : Prop := cons l fun v l => str v fun x => K x l
end J
def otK : Nat → Nat → (Prop → Nat → Prop) → Prop
  | 0, n, k => k True n
  | f + 1, n, k => match n % 2 with
    | 0 => k True (n / 2)
    | _ => otK f (n / 2) fun a m => otK f m fun b r => k (a ∧ b) r
def otP (n : Nat) : Prop := otK 99 n fun p _ => p
omit [Nam] in
theorem otK_ok : ∀ (f n : Nat) (k : Prop → Nat → Prop), (∀ p m, p → k p m) → otK f n k
  | 0, n, k, hk => hk True n trivial
  | f + 1, n, k, hk => by
    unfold otK
    split
    · exact hk _ _ trivial
    · exact otK_ok f _ _ fun a m ha => otK_ok f _ _ fun b r hb => hk _ _ ⟨ha, hb⟩
omit [Nam] in
theorem otP_ok (n : Nat) : otP n := otK_ok 99 n _ fun _ _ h => h
def OI (p : Prop) : Prop := p → p
def ON (p : Prop) : Prop := p → False
def oblF (P : Program) (fn : Func) (x : Ann) (Ψ : AVal → Heap → Prop) : Prop := obl P fn.ntmps (fn.body.getD .skip) x (retP P fn Ψ)
def evF (P : Program) (fn : Func) (x : Ann) (Ψ : AVal → Heap → Prop) (args : List AVal) (h : Heap) : Prop := ev P fn.ntmps (fn.body.getD .skip) x (retP P fn Ψ) (argsE args) h
def bodyIs (fn : Func) : Bool := match fn.body with
  | some _ => true
  | none => false
theorem calls_of_evF {P : Program} {f : FuncId} {fn : Func} {x : Ann} {args : List AVal} {h : Heap} {K : AVal → Heap → Prop} (hf : P.funcs[f]? = some fn) (hb : bodyIs fn = true)
    (hok : okF P f = true) (hn : Nat.ble args.length fn.ntmps = true) (ho : oblF P fn x K) (hk : evF P fn x K args h) : ACalls P f args h K := by
  cases hb' : fn.body with
  | none => rw [bodyIs, hb'] at hb; cases hb
  | some c => exact calls_of_ev hf (hb'.trans rfl) hok hn (by have := ho; rw [oblF, hb'] at this; exact this) (by have := hk; rw [evF, hb'] at this; exact this)
def rF : Nat → List (Nat × Bool)
  | 0 => []
  | n + 1 => rF n ++ [(n, false)]
def rA (n : Nat) : Ann := .reg [⟨none, rF n⟩]
/- ---------------- labels by the kinds of what they carry: short words for the prints ---------------- -/
def kTy : Kd → Type
  | .any => AVal
  | .int _ => Int
  | .bool => Bool
  | .str => ByteArray
def kAv : (k : Kd) → kTy k → AVal
  | .any, v => v
  | .int k, n => .int k n
  | .bool, b => .bool b
  | .str, s => .str s
def KFn : List Kd → Type
  | [] => Heap → Prop
  | k :: ks => kTy k → KFn ks
def JR : (ks : List Kd) → KFn ks → List AVal → Heap → Prop
  | [], F, l, h => J.nil l (F h)
  | .any :: ks, F, l, h => J.cons l fun x l => JR ks (F x) l h
  | .int k :: ks, F, l, h => J.ci k l fun x l => JR ks (F x) l h
  | .bool :: ks, F, l, h => J.cb l fun x l => JR ks (F x) l h
  | .str :: ks, F, l, h => J.cs l fun x l => JR ks (F x) l h
def LK : (ks : List Kd) → (List AVal → Heap → Prop) → KFn ks
  | [], L => fun h => L [] h
  | k :: ks, L => fun x => LK ks fun l h => L (kAv k x :: l) h
def GK (ks : List Kd) (F : KFn ks) : KFn ks := LK ks fun l h => gJ ks l h (JR ks F)
def EK (ks : List Kd) (F : Nat → KFn ks) : KFn ks := LK ks fun l h => gJ ks l h fun l h => ∃ n, JR ks (F n) l h
def qK : (ks : List Kd) → (Prop → Prop) → KFn ks → Heap → Prop
  | [], p, F, h => p (F h)
  | k :: ks, p, F, h => ∀ x : kTy k, qK ks p (F x) h
def QK (ks : List Kd) (F : KFn ks) : Prop := ∀ h, qK ks OI F h
def NK (ks : List Kd) (F : KFn ks) : Prop := ∀ h, qK ks ON F h
omit [Nam] in
theorem qK_ok {p : Prop → Prop} (hp : ∀ q, p q) : ∀ (ks : List Kd) (F : KFn ks) (h : Heap), qK ks p F h
  | [], _, _ => hp _
  | _ :: ks, F, h => fun x => qK_ok hp ks (F x) h
omit [Nam] in
theorem oI {ks : List Kd} {F : KFn ks} : QK ks F := fun h => qK_ok (fun _ H => H) ks F h
def cutK (ts : List Nat) (ks : List Kd) (F : KFn ks) (a b : Ann) : Ann := .cut (ts.zip ks) (JR ks F) a b
def loopK (ts : List Nat) (ks : List Kd) (F : Nat → KFn ks) (body : (List AVal → Heap → Prop) → Ann) : Ann := .loop (ts.zip ks) (fun n => JR ks (F n)) body
end Go.Sym

/- The engine, part 21: a region's ways: what the drawn order leaves open. -/
import Derived.Test.YtcmnnggpeloanaaGreatDoorEng20
namespace Eng
open Go

/-! ### two values that stand for the same -/
def Same (a b : AV) : Prop := (∀ E, conc E a = conc E b) ∧ (∀ no nn, a.wf no nn ↔ b.wf no nn) ∧ (a = .junk ↔ b = .junk)
theorem Same.refl (a : AV) : Same a a := ⟨fun _ => rfl, fun _ _ => Iff.rfl, Iff.rfl⟩
theorem Same.trans {a b c : AV} (h : Same a b) (k : Same b c) : Same a c := ⟨fun E => (h.1 E).trans (k.1 E), fun no nn => (h.2.1 no nn).trans (k.2.1 no nn), h.2.2.trans k.2.2⟩
theorem Same.symm {a b : AV} (h : Same a b) : Same b a := ⟨fun E => (h.1 E).symm, fun no nn => (h.2.1 no nn).symm, h.2.2.symm⟩
theorem Same.flag (x : Value) (c d : Bool) : Same (.v x c) (.v x d) := ⟨fun _ => rfl, fun _ _ => Iff.rfl, by simp⟩

abbrev U : AV := .v undef true

/-! ### rules look at the operands alone -/
theorem opRule_congr {C : Ctx} {o : Oper} {ρ ρ' : Operand → AV} (h : ∀ x ∈ o.op.operands, ρ x = ρ' x) : opRule C o ρ = opRule C o ρ' := by
  obtain ⟨dst, op, type, pos, after, guard⟩ := o
  unfold opRule
  cases op <;> simp only [Op.operands] at h ⊢
  case build t ps =>
    congr 1
    refine List.map_congr_left fun p hp => ?_
    rw [h p.2 (by simp only [List.mem_toArray, List.mem_map, Array.mem_toList_iff] at hp ⊢; exact ⟨p, hp, rfl⟩)]
  case buildSlice t n ps =>
    congr 1
    refine List.map_congr_left fun p hp => ?_
    rw [h p.2 (by simp only [List.mem_toArray, List.mem_map, Array.mem_toList_iff] at hp ⊢; exact ⟨p, hp, rfl⟩)]
  case makeFunc fn first captured =>
    cases fn <;> simp only
    have e1 : ∀ l, first.toList = l → l.map ρ = l.map ρ' := by rintro l rfl; exact List.map_congr_left fun x hx => h x (by simp at hx; simp [hx])
    have e2 : ∀ l, captured.toList = l → l.map ρ = l.map ρ' := by rintro l rfl; exact List.map_congr_left fun x hx => h x (by simp at hx; simp [hx])
    split
    · rename_i h1 h2; rw [e2 _ rfl]
    · rename_i h1 h2; rw [e1 _ rfl]
    · rfl
  case call c =>
    have hargs : c.args.toList.map ρ = c.args.toList.map ρ' := List.map_congr_left fun x hx => h x (by simp at hx; simp [Call.operands, hx])
    unfold callRule
    rw [hargs]
    cases hc : c.callee with
    | value f => have hf : ρ f = ρ' f := h f (by simp [Call.operands, hc]); simp only [hf]
    | invoke r m => have hr : ρ r = ρ' r := h r (by simp [Call.operands, hc]); simp only [hr]
    | builtin b =>
      cases b <;> simp only
      case append =>
        split
        · rename_i a b t u h1 h2
          rw [h a (by simp [Call.operands, ← Array.mem_toList_iff, h1]), h b (by simp [Call.operands, ← Array.mem_toList_iff, h1])]
        · rfl
      case len =>
        split
        · rename_i a t h1 h2
          rw [h a (by simp [Call.operands, ← Array.mem_toList_iff, h1])]
        · rfl
  case slice t x lo hi mx =>
    rw [h x (by simp)]
    have h1 : lo.map ρ = lo.map ρ' := by cases lo <;> simp_all
    have h2 : hi.map ρ = hi.map ρ' := by cases hi <;> simp_all
    have h3 : mx.map ρ = mx.map ρ' := by cases mx <;> simp_all
    rw [h1, h2, h3]
  all_goals (first | rfl | (simp_all; done))

/-! ### the slot that a rule reads is a slot that an operand names -/
def RdIn (a : AV) (r : Rule) : Prop := ∀ i f, r = .read i f → ∀ no nn, a.wf no nn → i.ok no nn

section
variable {C : Ctx} {P : Program}
theorem loadRule_rd (t : TypeId) (a : AV) : RdIn a (loadRule P t a) := by
  intro i f h no nn hw
  unfold loadRule at h
  split at h <;> cases h <;> exact hw
theorem nilCheckRule_rd (a : AV) : RdIn a (nilCheckRule a) := by
  intro i f h no nn hw
  unfold nilCheckRule at h
  split at h <;> cases h <;> exact hw
theorem binRule_rd (op : BinOp) (t : TypeId) (x y : Operand) (a b : AV) : RdIn a (binRule P op t x y a b) := by
  intro i f h no nn hw
  unfold binRule at h
  split at h
  · split at h <;> cases h
  · cases h; exact hw
  · split at h <;> cases h
  · split at h <;> cases h
  · cases h
theorem unRule_rd (op : UnOp) (a : AV) : RdIn a (unRule P op a) := by
  intro i f h no nn hw
  unfold unRule at h
  split at h <;> cases h
theorem convRule_rd (s d : TypeId) (a : AV) : RdIn a (convRule P s d a) := by
  intro i f h no nn hw
  unfold convRule at h
  repeat' (split at h)
  all_goals first | (cases h; done) | (cases h; exact hw)
theorem fieldRule_rd (s : TypeId) (a : AV) (n : Nat) : RdIn a (fieldRule P s a n) := by
  intro i f h no nn hw
  unfold fieldRule at h
  repeat' (split at h)
  all_goals first | (cases h; done) | (cases h; exact hw)
theorem fieldOfRule_rd (s : TypeId) (a : AV) (n : Nat) : RdIn a (fieldOfRule P s a n) := by
  intro i f h no nn hw
  unfold fieldOfRule at h
  repeat' (split at h)
  all_goals first | (cases h; done) | (cases h; exact hw)
theorem indexAddrRule_rd (t : TypeId) (a ix : AV) : RdIn a (indexAddrRule P t a ix) := by
  intro i f h no nn hw
  unfold indexAddrRule at h
  repeat' (split at h)
  all_goals first | (cases h; done) | (cases h; exact hw)
theorem indexRule_rd (t : TypeId) (a ix : AV) : RdIn a (indexRule P t a ix) := by
  intro i f h no nn hw
  unfold indexRule at h
  repeat' (split at h)
  all_goals first | (cases h; done) | (cases h; exact hw)
theorem sliceRule_rd (t : TypeId) (a : AV) (lo hi mx : Option AV) : RdIn a (sliceRule P t a lo hi mx) := by
  intro i f h no nn hw
  unfold sliceRule at h
  repeat' (split at h)
  all_goals first | (cases h; done) | (cases h; exact hw)

theorem read_ok {o : Oper} {ρ : Operand → AV} {i : Id} {f : Slot → T AV} (h : opRule C o ρ = .read i f) :
    ∃ x ∈ o.op.operands, ∀ no nn, (ρ x).wf no nn → i.ok no nn := by
  unfold opRule at h
  cases ho : o.op <;> simp only [ho] at h
  case load t a => exact ⟨a, by simp [Op.operands], loadRule_rd _ _ _ _ h⟩
  case nilCheck a => exact ⟨a, by simp [Op.operands], nilCheckRule_rd _ _ _ h⟩
  case binOp op t x y u => exact ⟨x, by simp [Op.operands], binRule_rd _ _ _ _ _ _ _ _ h⟩
  case unOp op t x => exact ⟨x, by simp [Op.operands], unRule_rd _ _ _ _ h⟩
  case convert s d x => exact ⟨x, by simp [Op.operands], convRule_rd _ _ _ _ _ h⟩
  case fieldAddr s x n => exact ⟨x, by simp [Op.operands], fieldRule_rd _ _ _ _ _ h⟩
  case field s x n => exact ⟨x, by simp [Op.operands], fieldOfRule_rd _ _ _ _ _ h⟩
  case indexAddr t x n => exact ⟨x, by simp [Op.operands], indexAddrRule_rd _ _ _ _ _ h⟩
  case index t x n => exact ⟨x, by simp [Op.operands], indexRule_rd _ _ _ _ _ h⟩
  case slice t x lo hi mx => exact ⟨x, by simp [Op.operands], sliceRule_rd _ _ _ _ _ _ _ h⟩
  case store t a x => unfold storeRule at h; split at h <;> cases h
  case pick c a b => split at h <;> cases h
  case build t ps => unfold buildRule at h; (repeat' (split at h)) <;> cases h
  case makeFunc fn first captured => cases fn <;> simp only at h <;> (try split at h) <;> cases h
  case makeInterface t x => split at h <;> cases h
  case extract x n => split at h <;> cases h
  case call c =>
    unfold callRule at h
    split at h
    · split at h <;> cases h
    · split at h
      · split at h <;> cases h
      · cases h
    · split at h
      · unfold lenRule at h; split at h <;> cases h
      · cases h
    · split at h
      · cases h
      · cases h
    · unfold mmRule at h; split at h <;> cases h
    · unfold mmRule at h; split at h <;> cases h
    · cases h
  all_goals cases h

/-! ### an effect leaves what it does not name -/
def EffIn (C : Ctx) (l : List Id) (r : Rule) : Prop :=
  ∀ f, r = .eff f → ∀ H x, (f H).run = some x → (∀ i s, i ∉ l → H.get C i = some s → x.2.get C i = some s) ∧ ∀ g args, x.1 = .call g args → x.2 = H

theorem get_set_ne {H : Heap} {i j : Id} {s : Slot} (h : i ≠ j) : (H.set i s).get C j = H.get C j := by
  cases i <;> cases j <;> simp [Heap.set, Heap.get] <;> exact List.getElem?_set_ne (by intro e; subst e; exact h rfl)

theorem get_add_old {H : Heap} {j : Id} {s t : Slot} (h : H.get C j = some t) : (H.add s).get C j = some t := by
  rw [get_add]
  refine .inr ⟨?_, h⟩
  rintro rfl
  simp [newSlot, Heap.get] at h

theorem storeRule_eff (t : TypeId) (a x : AV) : EffIn C a.ids (storeRule C t a x) := by
  intro f h H y hy
  unfold storeRule at h
  split at h
  · cases h
    dsimp only at hy
    split at hy
    · obtain ⟨_, hy⟩ := must_some hy
      obtain ⟨_, _, hy⟩ := T.bind_some hy
      cases leaf_some hy
      exact ⟨fun i s hi hs => by simp only [AV.ids, List.mem_singleton] at hi; refine fixT_get hi ?_; rw [get_set_ne (Ne.symm hi)]; exact hs, fun _ _ h => by cases h⟩
    · obtain ⟨_, hy⟩ := must_some hy
      obtain ⟨_, _, hy⟩ := T.bind_some hy
      cases leaf_some hy
      exact ⟨fun i s hi hs => by simp only [AV.ids, List.mem_singleton] at hi; refine fixT_get hi ?_; rw [get_set_ne (Ne.symm hi)]; exact hs, fun _ _ h => by cases h⟩
    · cases hy
  · cases h
    dsimp only at hy
    split at hy
    · split at hy
      · obtain ⟨_, hy⟩ := must_some hy
        obtain ⟨_, hy⟩ := req_some hy
        obtain ⟨_, _, hy⟩ := T.bind_some hy
        cases leaf_some hy
        exact ⟨fun i s hi hs => by simp only [AV.ids, List.mem_singleton] at hi; rw [get_set_ne (Ne.symm hi)]; exact hs, fun _ _ h => by cases h⟩
      · cases hy
    · cases hy
  · cases h
    dsimp only at hy
    split at hy
    · obtain ⟨_, hy⟩ := must_some hy
      obtain ⟨_, _, hy⟩ := T.bind_some hy
      cases leaf_some hy
      exact ⟨fun i s hi hs => by simp only [AV.ids, List.mem_singleton] at hi; rw [get_set_ne (Ne.symm hi)]; exact hs, fun _ _ h => by cases h⟩
    · cases hy
  · cases h

theorem appendRule_eff (t t' : TypeId) (a x : AV) : EffIn C a.ids (appendRule C t t' a x) := by
  intro f h H y hy
  unfold appendRule at h
  cases h
  dsimp only at hy
  split at hy
  · split at hy
    · obtain ⟨src, _, hy⟩ := T.bind_some hy
      split at hy
      · cases leaf_some hy; exact ⟨fun i s hi hs => hs, fun _ _ h => by cases h⟩
      · obtain ⟨_, hy⟩ := must_some hy
        obtain ⟨_, hy⟩ := req_some hy
        cases leaf_some hy
        exact ⟨fun i s hi hs => get_add_old hs, fun _ _ h => by cases h⟩
      · split at hy
        · split at hy
          · obtain ⟨_, hy⟩ := must_some hy
            obtain ⟨_, hy⟩ := req_some hy
            cases leaf_some hy
            exact ⟨fun i s hi hs => by simp only [AV.ids, List.mem_singleton] at hi; refine get_add_old ?_; rw [get_set_ne (Ne.symm hi)]; exact hs, fun _ _ h => by cases h⟩
          · cases hy
        · cases hy
      · cases hy
    · cases hy
  · cases hy

theorem eff_frame {o : Oper} {ρ : Operand → AV} : EffIn C (wrote o ρ) (opRule C o ρ) := by
  unfold opRule
  cases ho : o.op <;> (try simp only)
  case store t a x => have := storeRule_eff (C := C) t (ρ a) (ρ x); simpa only [wrote, ho] using this
  case alloc t =>
    intro f h H y hy
    unfold allocRule at h; cases h; try dsimp only at hy
    split at hy
    · obtain ⟨_, hy⟩ := must_some hy; cases leaf_some hy; exact ⟨fun i s hi hs => fixT_get (by rintro rfl; simp [newSlot, Heap.get] at hs) (get_add_old hs), fun _ _ h => by cases h⟩
    · cases hy
  case box t x =>
    intro f h H y hy
    unfold boxRule at h; cases h; try dsimp only at hy
    obtain ⟨_, hy⟩ := must_some hy; cases leaf_some hy; exact ⟨fun i s hi hs => fixT_get (by rintro rfl; simp [newSlot, Heap.get] at hs) (get_add_old hs), fun _ _ h => by cases h⟩
  case buildSlice t n ps =>
    intro f h H y hy
    unfold buildSliceRule at h; cases h; try dsimp only at hy
    repeat' (split at hy)
    all_goals first | (cases hy; done) | (obtain ⟨_, hy⟩ := must_some hy; cases leaf_some hy; exact ⟨fun i s hi hs => get_add_old hs, fun _ _ h => by cases h⟩)
  case makeSlice t l c =>
    intro f h H y hy
    unfold makeSliceRule at h; cases h; try dsimp only at hy
    repeat' (split at hy)
    all_goals first | (cases hy; done) | (obtain ⟨_, hy⟩ := must_some hy; obtain ⟨_, hy⟩ := req_some hy; cases leaf_some hy; exact ⟨fun i s hi hs => get_add_old hs, fun _ _ h => by cases h⟩)
  case call c =>
    intro f h H y hy
    unfold callRule at h
    split at h
    · split at h
      · cases h; obtain ⟨_, hy⟩ := must_some hy; cases leaf_some hy; exact ⟨fun i s hi hs => hs, fun _ _ h => rfl⟩
      · cases h; obtain ⟨_, hy⟩ := must_some hy; cases leaf_some hy; exact ⟨fun i s hi hs => hs, fun _ _ h => rfl⟩
      · cases h
    · split at h
      · split at h
        · cases h; obtain ⟨_, hy⟩ := must_some hy; cases leaf_some hy; exact ⟨fun i s hi hs => hs, fun _ _ h => rfl⟩
        · cases h
      · cases h
    · split at h
      · unfold lenRule at h; split at h <;> cases h
      · cases h
    · split at h
      · rename_i a b t u h1 h2
        have := appendRule_eff t u (ρ a) (ρ b) f h H y hy
        simpa only [wrote, ho, h1] using this
      · cases h
    · unfold mmRule at h; split at h <;> cases h
    · unfold mmRule at h; split at h <;> cases h
    · cases h
  case load t a => intro f h; exfalso; unfold loadRule at h; split at h <;> cases h
  case nilCheck a => intro f h; exfalso; unfold nilCheckRule at h; split at h <;> cases h
  case binOp op t x y u =>
    intro f h; exfalso; unfold binRule at h
    split at h
    · split at h <;> cases h
    · cases h
    · split at h <;> cases h
    · split at h <;> cases h
    · cases h
  case unOp op t x => intro f h; exfalso; unfold unRule at h; split at h <;> cases h
  case convert s d x =>
    intro f h H y hy
    unfold convRule at h
    split at h
    · (repeat' (split at h)) <;> cases h
    · split at h
      · split at h
        · cases h; dsimp only at hy; obtain ⟨_, hy⟩ := req_some hy; cases leaf_some hy; exact ⟨fun i s hi hs => get_add_old hs, fun _ _ h => by cases h⟩
        · cases h
      · cases h
    · cases h
    · (repeat' (split at h)) <;> cases h
    · cases h
  case fieldAddr s x n => intro f h; exfalso; unfold fieldRule at h; (repeat' (split at h)) <;> cases h
  case field s x n => intro f h; exfalso; unfold fieldOfRule at h; (repeat' (split at h)) <;> cases h
  case indexAddr t x n => intro f h; exfalso; unfold indexAddrRule at h; (repeat' (split at h)) <;> cases h
  case index t x n => intro f h; exfalso; unfold indexRule at h; (repeat' (split at h)) <;> cases h
  case slice t x lo hi mx => intro f h; exfalso; unfold sliceRule at h; (repeat' (split at h)) <;> cases h
  case pick c a b => intro f h; exfalso; split at h <;> cases h
  case build t ps => intro f h; exfalso; unfold buildRule at h; (repeat' (split at h)) <;> cases h
  case makeFunc fn first captured => intro f h; exfalso; cases fn <;> simp only at h <;> (try split at h) <;> cases h
  case makeInterface t x => intro f h; exfalso; split at h <;> cases h
  case extract x n => intro f h; exfalso; split at h <;> cases h
  all_goals (intro f h; first | (cases h; done) | (simp only at h; cases h; done))

/-- a call leaves what its arguments do not lead to -/
theorem callWith_frame {H H' : Heap} {g : List AV → Heap → T (AV × Heap)} {args : List AV} {r : AV} {σ0 : List Id}
    (h : (callWith C g args H).run = some (r, H', σ0)) : ∀ i s, i ∉ σ0 → H.get C i = some s → H'.get C i = some s := by
  unfold callWith at h
  simp only at h
  generalize hσ : reach C H fuelR (idsL args) [] = σ at h
  obtain ⟨hn, hg⟩ := reach_inv (C := C) (H := H) fuelR (idsL args) [] List.nodup_nil (fun i hi => by simp at hi)
  rw [hσ] at hn hg
  split at h
  · rename_i args1 O1 hargs hO
    obtain ⟨x, hx, h'⟩ := T.bind_some h
    clear h
    obtain ⟨r1, H1⟩ := x
    simp only at h'
    split at h'
    · rename_i r' Os Ns hr hOs hNs
      obtain ⟨hlen0, h⟩ := must_some h'
      have hh := leaf_some h
      simp only [Prod.mk.injEq] at hh
      obtain ⟨rfl, rfl, rfl⟩ := hh
      simp only [beq_iff_eq] at hlen0
      rw [Option.bind_eq_some_iff] at hO
      obtain ⟨ss, hss, hO⟩ := hO
      obtain ⟨a1, a2⟩ := getAll_some σ0 ss hss
      have hσok : ∀ i ∈ σ0, isG i = false ∧ i.ok H.o.length H.n.length := by
        intro i hi
        obtain ⟨k, hk⟩ := List.getElem?_of_mem hi
        obtain ⟨s, _, hs⟩ := a2 k i hk
        exact ⟨hg i hi, get_ok hs⟩
      obtain ⟨p1, p2, p3, p4⟩ := putAll_get (C := C) σ0 Os H hn hlen0 hσok
      intro i s hi hs
      have hok := get_ok hs
      have := p4 i hi
      rw [hs] at this
      cases i with
      | o j => exact this
      | n j =>
        have hj : j < (putAll H σ0 Os).n.length := by rw [p2]; exact hok
        simp only [Heap.get] at this ⊢
        rw [List.getElem?_append_left hj]; exact this
      | g j => exact hs
    · cases h'
  · cases h

/-- one operation leaves what it does not say that it turns -/
theorem op1_frame {F : Fns} {o : Oper} {fr : List AV} {H H' : Heap} {a : AV} {nt : Note} (h : (op1 C F o fr H).run = some (a, H', nt)) :
    (∀ i s, (∀ l, nt.wr = some l → i ∉ l) → H.get C i = some s → H'.get C i = some s) ∧ (nt.wr = none → H' = H) := by
  unfold op1 at h
  obtain ⟨_, h⟩ := must_some h
  split at h
  · obtain ⟨x, _, h⟩ := T.bind_some h
    have := leaf_some h; cases this
    exact ⟨fun i s _ hs => hs, fun _ => rfl⟩
  · split at h
    · obtain ⟨x, _, h⟩ := T.bind_some h
      have := leaf_some h; cases this
      exact ⟨fun i s _ hs => hs, fun _ => rfl⟩
    · cases h
  · rename_i f hf
    obtain ⟨x, hx, h⟩ := T.bind_some h
    obtain ⟨hE, hE2⟩ := eff_frame (C := C) (o := o) (ρ := ev fr) f hf H x hx
    split at h
    · have := leaf_some h; cases this
      exact ⟨fun i s hi hs => hE i s (hi _ rfl) hs, fun h => by cases h⟩
    · have := leaf_some h; cases this
      exact ⟨fun i s hi hs => hE i s (hi _ rfl) hs, fun h => by cases h⟩
    · rename_i g args hc
      obtain ⟨y, hy, h⟩ := T.bind_some h
      obtain ⟨y1, y2, y3⟩ := y
      have := leaf_some h; cases this
      refine ⟨fun i s hi hs => callWith_frame hy i s (hi _ rfl) ?_, fun h => by cases h⟩
      have hx2 : x.2 = H := hE2 g args hc
      rw [hx2]; exact hs
end

end Eng

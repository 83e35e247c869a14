/- The engine, part 11b: nil slices in memory become rows without elements; new memory. -/
import Derived.Test.YtcmnnggpeloanaaGreatDoorEng11
namespace Eng
open Go

variable {C : Ctx} {E : Env} {H : Heap} {w : World}

theorem emptyRow_len {P : Program} {e : TypeId} {r : Row} (h : emptyRow P e = some r) : r.length = 0 := by
  unfold emptyRow at h
  split at h
  · cases h; rfl
  · cases h; rfl
  · split at h
    · cases h; rfl
    · cases h
  · cases h

theorem get_add_old' {H : Heap} {j : Id} {s t : Slot} (h : H.get C j = some t) : (H.add s).get C j = some t := by
  rw [get_add]
  refine .inr ⟨?_, h⟩
  rintro rfl
  simp [newSlot, Heap.get] at h

theorem step_nil0 (hR : Real C w E H) {r : Row} {t : TypeId} (h0 : r.length = 0) :
    ∃ E', Step C E H w E' (H.add (.row r t)) w ∧ conc E' (.sl (newSlot H) r.sz [] 0) = .slice none 0 0 := by
  refine ⟨_, step_add hR ⟨[], 0, 0⟩ trivial rfl ⟨rfl, .inl ⟨rfl, h0, rfl⟩⟩ (fun b hb => by simp at hb) (Nat.le_refl _) (fun b _ => rfl) rfl rfl rfl, ?_⟩
  simp [conc, Env.blk, Env.upd, cut]

theorem over_same {l : List Value} {o : Nat} {v : Value} (h : l[o]? = some v) : over l o [v] = l := by
  have hlt := (List.getElem?_eq_some_iff.1 h).1
  rw [over_set hlt]
  have hv := (List.getElem?_eq_some_iff.1 h).2
  rw [← hv]
  exact List.set_getElem_self hlt

theorem fix1_step (hR : Real C w E H) (i : Id) (o : Nat) {r : Row} (e : TypeId) (h0 : r.length = 0) : ∃ E', Step C E H w E' (fix1 C i o r e H) w := by
  unfold fix1
  split
  · rename_i cs ty hi
    split
    · rename_i c hc
      split
      · rename_i cs' hcs
        obtain ⟨E', hs, hcn⟩ := step_nil0 hR (r := r) (t := e) h0
        refine ⟨E', hs.trans ?_⟩
        have hi' : (H.add (.row r e)).get C i = some (.cells cs ty) := get_add_old' hi
        have hwf := hs.real.wf i _ hi'
        obtain ⟨b, hb, horg, ht⟩ := hs.real.slot i _ hi'
        have hxw : (AV.sl (newSlot H) r.sz [] 0).wf (H.add (.row r e)).o.length (H.add (.row r e)).n.length := by simp [AV.wf, newSlot, Id.ok, Heap.add]
        obtain ⟨e1, e2, e3, e4⟩ := cellSet_sound (E := E') (x := .sl (newSlot H) r.sz [] 0) rfl hxw cs o cs' hwf.1 hwf.2 hcs
        obtain ⟨c1, _, _⟩ := cellAt_sound (E := E') cs o _ hwf.1 hc
        rw [hcn, over_same (by rw [c1]; rfl)] at e1
        refine step_set hs.real hi' rfl rfl ⟨e3, e4⟩ ⟨b, hb, horg, ?_⟩ rfl (fun _ _ => rfl) rfl rfl rfl
        rw [e1]; exact ht
      · exact ⟨E, Step.refl hR⟩
    · exact ⟨E, Step.refl hR⟩
  · exact ⟨E, Step.refl hR⟩

theorem fixL_step (i : Id) : ∀ (l : List (Nat × TypeId)) {E : Env} {H : Heap}, Real C w E H → ∃ E', Step C E H w E' (fixL C i l H) w
  | [], E, H, hR => ⟨E, Step.refl hR⟩
  | (o, e) :: l, E, H, hR => by
    unfold fixL
    split
    · rename_i r hr
      obtain ⟨E1, h1⟩ := fix1_step hR i o e (emptyRow_len hr)
      obtain ⟨E2, h2⟩ := fixL_step i l h1.real
      exact ⟨E2, h1.trans h2⟩
    · exact fixL_step i l hR

theorem wf_step {E' : Env} {H' : Heap} {w' : World} (hs : Step C E H w E' H' w') {a : AV} (hw : a.wf H.o.length H.n.length) : a.wf H'.o.length H'.n.length ∧ conc E' a = conc E a :=
  ⟨AV.wf_mono (by rw [hs.olen]; exact Nat.le_refl _) hs.nlen a hw, conc_agree hs.agree a hw⟩

theorem fixT_step (hR : Real C w E H) (i : Id) (t : TypeId) (off : Nat) {a : AV} (hw : a.wf H.o.length H.n.length) :
    ∃ E', Step C E H w E' (fixT C i t off H) w ∧ a.wf (fixT C i t off H).o.length (fixT C i t off H).n.length ∧ conc E' a = conc E a := by
  obtain ⟨E', h⟩ := fixL_step i (sliceOffs C.P 20 t off) hR
  exact ⟨E', h, (wf_step h hw).1, (wf_step h hw).2⟩

/-- the other slots stay -/
theorem set_ne {H : Heap} {i j : Id} {s : Slot} (h : i ≠ j) : (H.set i s).get C j = H.get C j := by
  cases i <;> cases j <;> simp [Heap.set, Heap.get] <;> exact List.getElem?_set_ne (by intro e; subst e; exact h rfl)
theorem fix1_get {i j : Id} {o : Nat} {r : Row} {e : TypeId} {s : Slot} (hne : j ≠ i) (h : H.get C j = some s) : (fix1 C i o r e H).get C j = some s := by
  unfold fix1
  split
  · split
    · split
      · rw [set_ne (Ne.symm hne)]; exact get_add_old' h
      · exact h
    · exact h
  · exact h
theorem fixL_get {i j : Id} {s : Slot} (hne : j ≠ i) : ∀ (l : List (Nat × TypeId)) {H : Heap}, H.get C j = some s → (fixL C i l H).get C j = some s
  | [], H, h => h
  | (o, e) :: l, H, h => by
    unfold fixL
    split
    · exact fixL_get hne l (fix1_get hne h)
    · exact fixL_get hne l h
theorem fixT_get {i j : Id} {t : TypeId} {off : Nat} {s : Slot} (hne : j ≠ i) (h : H.get C j = some s) : (fixT C i t off H).get C j = some s := fixL_get hne _ h

theorem box_sound (hR : Real C w E H) (t : TypeId) (a : AV) (hwf : a.wf H.o.length H.n.length) : Snd C E H w (do pure (.value (← Instr.box t (conc E a)))) (boxRule C t a) := by
  intro x h
  obtain ⟨ho, h⟩ := must_some h
  have := leaf_some h; subst this
  obtain ⟨E', hs, hc⟩ := step_new hR (t := t) (explode_wf hwf) ho (xs := (conc E a).cells) (explode_cells E a ho).symm
  have hwp : (AV.ptr (newSlot H) 0).wf (H.add (.cells (explode a) t)).o.length (H.add (.cells (explode a) t)).n.length := by simp [AV.wf, newSlot, Id.ok, Heap.add]
  obtain ⟨E2, hs2, hw2, hc2⟩ := fixT_step hs.real (newSlot H) t 0 hwp
  refine ⟨E2, _, hs.trans hs2, hw2, vrun ?_⟩
  simp only [Instr.box, Sem.run_bind, run_newVar, Result.andThen_ok, Sem.run_pure, hc2, hc]

theorem alloc_sound (hR : Real C w E H) (t : TypeId) : Snd C E H w (do pure (.value (← Instr.alloc t true (.tuple #[])))) (allocRule C t) := by
  intro x h
  cases hz : zeroCellsT C.P t with
  | none => simp only [hz] at h; cases h
  | some l =>
  simp only [hz] at h
  obtain ⟨ho, h⟩ := must_some h
  have := leaf_some h; subst this
  obtain ⟨i, z, hi, hz', hp, hc⟩ := zeroCellsT_some hz
  obtain ⟨E', hs, hcc⟩ := step_new hR (t := t) (pureL_wf hp) ho (xs := z.cells) (hc E).symm
  have hwp : (AV.ptr (newSlot H) 0).wf (H.add (.cells l t)).o.length (H.add (.cells l t)).n.length := by simp [AV.wf, newSlot, Id.ok, Heap.add]
  obtain ⟨E2, hs2, hw2, hc2⟩ := fixT_step hs.real (newSlot H) t 0 hwp
  refine ⟨E2, _, hs.trans hs2, hw2, vrun ?_⟩
  simp only [Instr.alloc, zeroValue, typeInfo, Sem.run_bind, run_program, Result.andThen_ok, hi, Sem.run_pure, hz', run_newVar, hc2, hcc]


end Eng

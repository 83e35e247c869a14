/- The engine, part 29: from a contract to a row. -/
import Derived.Test.YtcmnnggpeloanaaGreatDoorEng28
import Derived.ChangeSame
namespace Eng
open Go

/-- no memory came in but the program's variables -/
def E0 : Env := fun i =>
  match i with
  | .g k => ⟨[k], 0, 0⟩
  | _ => ⟨[], 0, 0⟩

/-- what was there is as it was -/
structure Old (W W' : World) : Prop where
  os : W'.os = W.os
  output : W'.output = W.output
  size : W.heap.size ≤ W'.heap.size
  block : ∀ b, b < W.heap.size → W'.heap[b]? = W.heap[b]?

theorem real0 {C : Ctx} (hG : C.Good) {W : World} (hg : ∀ k s, C.glob k = some s → s.real W E0 ⟨[k], 0, 0⟩ ∧ k < W.heap.size) : Real C W E0 ⟨[], []⟩ := by
  have only : ∀ i s, (Heap.mk [] []).get C i = some s → ∃ k, i = .g k ∧ C.glob k = some s := by
    intro i s h
    cases i with
    | o k => simp [Heap.get] at h
    | n k => simp [Heap.get] at h
    | g k => exact ⟨k, rfl, h⟩
  refine ⟨fun i s h => ?_, fun i s h => ?_, fun i s h _ b hb => ?_, fun i j s t hi hj ho => ?_, fun k s h => (hG.glob k s h).2, fun _ => rfl⟩
  · obtain ⟨k, rfl, hk⟩ := only i s h
    exact (hg k s hk).1
  · obtain ⟨k, rfl, hk⟩ := only i s h
    exact (hG.glob k s hk).1
  · obtain ⟨k, rfl, hk⟩ := only i s h
    simp only [E0, List.mem_singleton] at hb
    subst hb
    exact (hg b s hk).2
  · obtain ⟨k, rfl, hk⟩ := only i s hi
    rw [(hG.glob k s hk).2] at ho
    cases ho

theorem fn_calls {C : Ctx} (hG : C.Good) {f : FuncId} {g : List AV → Heap → T (AV × Heap)} (h : FnOk C f g) {args : List AV} {W : World} {r : AV} {H' : Heap}
    (hg : ∀ k s, C.glob k = some s → s.real W E0 ⟨[k], 0, 0⟩ ∧ k < W.heap.size) (hw : AV.wfL 0 0 args) (hrun : (g args ⟨[], []⟩).run = some (r, H')) :
    Calls C.P f (concL E0 args).toArray W fun e W' => (∃ E', e = .returned (conc E' r)) ∧ Old W W' := by
  refine (h args ⟨[], []⟩ E0 W r H' rfl (real0 hG hg) hw hrun).mono ?_
  rintro e W' ⟨E', hst, _, he⟩
  refine ⟨⟨E', he⟩, hst.touch.os, hst.touch.output, hst.touch.size, fun b hb => hst.touch.block b hb ?_⟩
  rintro ⟨i, s, hi, ho, _⟩
  cases i with
  | o k => simp [Heap.get] at hi
  | n k => simp [Heap.get] at hi
  | g k => rw [(hG.glob k s hi).2] at ho; cases ho

theorem Old.frozen {W W' : World} (h : Old W W') (a : Addr) (ha : a.block < W.heap.size) : W'.frozen? a = W.frozen? a := by
  unfold World.frozen?
  rw [h.block _ ha]

theorem Old.kept {W W' : World} (h : Old W W') (may : MemPlace → Prop) : W.keptBut W' may := by
  refine ⟨h.os, h.output, fun i hi => ?_⟩
  rw [h.block i hi]
  have hx : ∃ o, W.heap[i]? = some o := ⟨W.heap[i], by simp [hi]⟩
  obtain ⟨o, ho⟩ := hx
  rw [ho]
  cases o <;> simp

open Go.ChangeShapes Go.WideShapes in
/-- the answer to a call that changes nothing that was there -/
theorem post_old {H : Type} {enc : TypeId × Value → H} {P : Program} {f : Func} {s : ChangeSpec} {apart fresh handsOn again : Bool} {W W' : World} {args : Array Value} {v : Value} {ds gs : List (DataW H)} {before pa pv : List MemPlace}
    (hW : DataW.Whole enc P f.params.toList s.vars apart W args.toList ds gs before)
    (hres : ∀ (b : Nat) (sp : Nat → Bool) (hd : Bool), DataW.TrodAll enc P W' b sp hd f.resultTypes.toList (v.resultList f.resultTypes.size) (s.fn H (ds ++ gs)).results [])
    (hargs : ∀ sp : Nat → Bool, (∀ p ∈ before, sp p.block = true) → DataW.TrodAll enc P W' 0 sp true f.params.toList args.toList (s.fn H (ds ++ gs)).args pa)
    (hvars : ∀ sp : Nat → Bool, (∀ p ∈ before, sp p.block = true) → DataW.TrodVars enc P W' sp s.vars (s.fn H (ds ++ gs)).vars pv)
    (hps : before = pa ++ pv) (ho : Old W W')
    (hok : ∀ (j : Nat) (t : TypeId) (r : Value), f.resultTypes[j]? = some t → (v.resultList f.resultTypes.size)[j]? = some r → Value.okWide P W' .any 0 t r) :
    s.post enc P f apart fresh handsOn again W args v W' := by
  have hold : ∀ p ∈ before, (fun b => decide (b < W.heap.size)) p.block = true := fun p hp => by simpa using hW.lt p hp
  have hlt := hW.lt
  refine ⟨ds, gs, before, [], pa, pv, hW, hres _ _ _, hargs _ hold, hvars _ hold, World.keptBut_mono (fun p hp => ⟨hp, ?_⟩) (ho.kept (· ∈ before)), fun _ => ?_⟩
  · rw [hps, List.mem_append] at hp
    exact Or.inr hp
  · obtain ⟨_, _, _, _, _, hz, hn⟩ := hW
    refine ⟨hok, _, _, ([] ++ pa) ++ pv, ⟨[] ++ pa, pv, trodAll_append (hargs _ (fun _ _ => rfl)) (hres _ _ _), hvars _ (fun _ _ => rfl), rfl, ?_, ?_⟩, ?_⟩
    · intro b off hp
      have hb : MemPlace.cell b off ∈ before := by rw [hps]; simpa using hp
      rw [ho.frozen _ (hlt _ hb)]
      exact hz b off hb
    · intro ha
      have := hn ha
      rw [hps] at this
      simpa using this
    · intro p hp _
      rw [hps]
      simpa using hp
end Eng

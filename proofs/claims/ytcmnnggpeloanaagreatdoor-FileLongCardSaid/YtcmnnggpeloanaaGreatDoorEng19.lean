/- The engine, part 19: the frame rule. -/
import Derived.Test.YtcmnnggpeloanaaGreatDoorEng18
namespace Eng
open Go

/-- what is asked of the program's variables and functions -/
structure Ctx.Good (C : Ctx) : Prop where
  fns : C.good
  glob : ∀ k s, C.glob k = some s → s.wf 0 0 ∧ s.owned = false

/-- what a function does, told by g -/
def FnOk (C : Ctx) (f : FuncId) (g : List AV → Heap → T (AV × Heap)) : Prop :=
  ∀ args H E w r H', H.n = [] → Real C w E H → AV.wfL H.o.length H.n.length args → (g args H).run = some (r, H') →
    Calls C.P f (concL E args).toArray w fun e w' => ∃ E', Step C E H w E' H' w' ∧ r.wf H'.o.length H'.n.length ∧ e = .returned (conc E' r)

def inEnv (E : Env) (σ : List Id) : Env := fun i =>
  match i with
  | .o k => match σ[k]? with
    | some s => E s
    | none => ⟨[], 0, 0⟩
  | .n _ => ⟨[], 0, 0⟩
  | .g k => E (.g k)

def outEnv (E E1 : Env) (τ : List Id) (base : Nat) : Env := fun i =>
  match i with
  | .n j => if base ≤ j then (match τ[j - base]? with | some t => E1 t | none => ⟨[], 0, 0⟩) else E i
  | i => E i

theorem toIn_env {E : Env} {σ : List Id} {i j : Id} (h : toIn σ i = some j) : inEnv E σ j = E i := by
  unfold toIn at h
  split at h
  · cases h; rfl
  · rw [Option.map_eq_some_iff] at h
    obtain ⟨k, hk, rfl⟩ := h
    simp only [inEnv, idx_some hk]

theorem toIn_ok {σ : List Id} {i j : Id} (h : toIn σ i = some j) : j.ok σ.length 0 := by
  unfold toIn at h
  split at h
  · cases h; trivial
  · rw [Option.map_eq_some_iff] at h
    obtain ⟨k, hk, rfl⟩ := h
    exact (List.getElem?_eq_some_iff.1 (idx_some hk)).1

section
variable {C : Ctx} {E : Env} {H : Heap} {w : World}

/-- the part of the heap that the call sees -/
theorem real_in (hG : C.Good) (hR : Real C w E H) {σ : List Id} (hn : σ.Nodup) (hg : ∀ i ∈ σ, isG i = false) {O1 : List Slot} (hO : (getAll C H σ).bind (renSlots (toIn σ)) = some O1) :
    O1.length = σ.length ∧ (∀ (k : Nat) (i : Id), σ[k]? = some i → ∃ s s', H.get C i = some s ∧ O1[k]? = some s' ∧ Slot.ren (toIn σ) s = some s') ∧ Real C w (inEnv E σ) ⟨O1, []⟩ := by
  rw [Option.bind_eq_some_iff] at hO
  obtain ⟨ss, hss, hO⟩ := hO
  obtain ⟨a1, a2⟩ := getAll_some σ ss hss
  obtain ⟨b1, b2⟩ := renSlots_some ss O1 hO
  have hlen : O1.length = σ.length := b1.trans a1
  have hat : ∀ (k : Nat) (i : Id), σ[k]? = some i → ∃ s s', H.get C i = some s ∧ O1[k]? = some s' ∧ Slot.ren (toIn σ) s = some s' := by
    intro k i hk
    obtain ⟨s, hs1, hs2⟩ := a2 k i hk
    have hkl : k < O1.length := by rw [hlen]; exact (List.getElem?_eq_some_iff.1 hk).1
    obtain ⟨s0, hs0, hr⟩ := b2 k O1[k] (List.getElem?_eq_getElem hkl)
    rw [hs1] at hs0
    cases hs0
    exact ⟨s, O1[k], hs2, List.getElem?_eq_getElem hkl, hr⟩
  -- a slot of the part
  have back : ∀ i s', (⟨O1, []⟩ : Heap).get C i = some s' → (∃ k i0 s, i = .o k ∧ σ[k]? = some i0 ∧ H.get C i0 = some s ∧ Slot.ren (toIn σ) s = some s') ∨ (∃ k, i = .g k ∧ C.glob k = some s') := by
    intro i s' hi
    cases i with
    | o k =>
      have hk : k < O1.length := (List.getElem?_eq_some_iff.1 hi).1
      have hkσ : k < σ.length := by omega
      obtain ⟨s, s1, h1, h2, h3⟩ := hat k σ[k] (List.getElem?_eq_getElem hkσ)
      have : s1 = s' := by
        have hi' : O1[k]? = some s' := hi
        rw [h2] at hi'; exact Option.some.inj hi'
      subst this
      exact .inl ⟨k, σ[k], s, rfl, List.getElem?_eq_getElem hkσ, h1, h3⟩
    | n k => simp [Heap.get] at hi
    | g k => exact .inr ⟨k, rfl, hi⟩
  have env : ∀ (k : Nat) (i : Id), σ[k]? = some i → inEnv E σ (.o k) = E i := fun k i hk => by simp only [inEnv, hk]
  have inj : ∀ (k l : Nat) (i : Id), σ[k]? = some i → σ[l]? = some i → k = l := by
    intro k l i hk hl
    exact (List.getElem?_inj (List.getElem?_eq_some_iff.1 hk).1 hn).1 (hk.trans hl.symm)
  refine ⟨hlen, hat, ⟨?_, ?_, ?_, ?_, hR.gown, hR.glob⟩⟩
  · intro i s' hi
    rcases back i s' hi with ⟨k, i0, s, rfl, hk, hs, hr⟩ | ⟨k, rfl, hs⟩
    · rw [env k i0 hk]
      exact slot_ren (fun _ _ h => toIn_env h) hr (hR.slot i0 s hs)
    · exact Slot.real_keep (hR.slot (.g k) s' hs) (fun _ _ => rfl) (hG.glob k s' hs).1 (fun i hi => by cases i <;> simp [Id.ok] at hi; rfl)
  · intro i s' hi
    rcases back i s' hi with ⟨k, i0, s, rfl, hk, hs, hr⟩ | ⟨k, rfl, hs⟩
    · exact slot_ren_wf (fun i j h => by rw [hlen]; exact toIn_ok h) (hR.wf i0 s hs) hr
    · exact Slot.wf_mono (hG.glob k s' hs).1 (Nat.zero_le _) (Nat.zero_le _)
  · intro i s' hi ht b hb
    rcases back i s' hi with ⟨k, i0, s, rfl, hk, hs, hr⟩ | ⟨k, rfl, hs⟩
    · rw [env k i0 hk] at hb
      exact hR.own i0 s hs (by rw [← (slot_ren_flags hr).2]; exact ht) b hb
    · exact hR.own (.g k) s' hs ht b hb
  · intro i j s' t' hi hj ho hne ht b hb
    rcases back i s' hi with ⟨k, i0, s, rfl, hk, hs, hr⟩ | ⟨k, rfl, hs⟩
    · rw [env k i0 hk] at hb
      have ho' : s.owned = true := by rw [← (slot_ren_flags hr).1]; exact ho
      rcases back j t' hj with ⟨l, j0, t, rfl, hl, ht0, hrt⟩ | ⟨l, rfl, ht0⟩
      · rw [env l j0 hl]
        exact hR.apart i0 j0 s t hs ht0 ho' (fun e => hne (by rw [inj k l i0 hk (e ▸ hl)])) (by rw [← (slot_ren_flags hrt).2]; exact ht) b hb
      · refine hR.apart i0 (.g l) s t' hs ht0 ho' (fun e => ?_) ht b hb
        have := hg i0 (List.mem_of_getElem? hk)
        rw [e] at this; simp [isG] at this
    · rw [hR.gown k s' hs] at ho; cases ho

end
end Eng

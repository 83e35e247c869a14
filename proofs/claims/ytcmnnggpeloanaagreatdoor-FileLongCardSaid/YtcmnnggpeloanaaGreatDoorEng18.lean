/- The engine, part 18: a call sees the part of the heap that its arguments lead to. -/
import Derived.Test.YtcmnnggpeloanaaGreatDoorEng17
namespace Eng
open Go

mutual
theorem ren_conc {m : Id → Option Id} {E E' : Env} (hm : ∀ i j, m i = some j → E' j = E i) : ∀ (a b : AV), AV.ren m a = some b → conc E' b = conc E a
  | .v x c, b, h => by simp only [AV.ren, Option.some.injEq] at h; subst h; rfl
  | .arr k n l, b, h => by simp only [AV.ren, Option.some.injEq] at h; subst h; rfl
  | .agg cs, b, h => by
    simp only [AV.ren, Option.map_eq_some_iff] at h
    obtain ⟨l, hl, rfl⟩ := h
    simp only [conc, renL_conc hm cs l hl]
  | .tup cs, b, h => by
    simp only [AV.ren, Option.map_eq_some_iff] at h
    obtain ⟨l, hl, rfl⟩ := h
    simp only [conc, renL_conc hm cs l hl]
  | .ptr i off, b, h => by
    simp only [AV.ren, Option.map_eq_some_iff] at h
    obtain ⟨j, hj, rfl⟩ := h
    have := hm i j hj
    simp only [conc, Env.blk, this]
  | .ap i off k, b, h => by
    simp only [AV.ren, Option.map_eq_some_iff] at h
    obtain ⟨j, hj, rfl⟩ := h
    have := hm i j hj
    simp only [conc, Env.blk, this]
  | .sl i sz p len, b, h => by
    simp only [AV.ren, Option.map_eq_some_iff] at h
    obtain ⟨j, hj, rfl⟩ := h
    have := hm i j hj
    simp only [conc, Env.blk, this]
  | .ep i sz k fo, b, h => by
    simp only [AV.ren, Option.map_eq_some_iff] at h
    obtain ⟨j, hj, rfl⟩ := h
    have := hm i j hj
    simp only [conc, Env.blk, this]
  | .fn f cs, b, h => by
    simp only [AV.ren, Option.map_eq_some_iff] at h
    obtain ⟨l, hl, rfl⟩ := h
    simp only [conc, renL_conc hm cs l hl]
  | .bm f cs, b, h => by
    simp only [AV.ren, Option.map_eq_some_iff] at h
    obtain ⟨l, hl, rfl⟩ := h
    simp only [conc, renL_conc hm cs l hl]
  | .junk, b, h => by simp only [AV.ren, Option.some.injEq] at h; subst h; rfl
  | .ifc t x, b, h => by
    simp only [AV.ren, Option.map_eq_some_iff] at h
    obtain ⟨y, hy, rfl⟩ := h
    simp only [conc, ren_conc hm x y hy]
theorem renL_conc {m : Id → Option Id} {E E' : Env} (hm : ∀ i j, m i = some j → E' j = E i) : ∀ (l r : List AV), renL m l = some r → concL E' r = concL E l
  | [], r, h => by simp only [renL, Option.some.injEq] at h; subst h; rfl
  | a :: l, r, h => by
    unfold renL at h
    split at h
    · rename_i x xs hx hxs
      simp only [Option.some.injEq] at h; subst h
      simp only [concL, ren_conc hm a x hx, renL_conc hm l xs hxs]
    · cases h
end

mutual
theorem ren_wf {m : Id → Option Id} {no nn : Nat} (hm : ∀ i j, m i = some j → j.ok no nn) {mo mn : Nat} : ∀ (a b : AV), a.wf mo mn → AV.ren m a = some b → b.wf no nn
  | .v x c, b, _, h => by simp only [AV.ren, Option.some.injEq] at h; subst h; trivial
  | .arr k n l, b, w, h => by simp only [AV.ren, Option.some.injEq] at h; subst h; exact w
  | .agg cs, b, w, h => by
    simp only [AV.ren, Option.map_eq_some_iff] at h
    obtain ⟨l, hl, rfl⟩ := h
    exact renL_wf hm cs l w hl
  | .tup cs, b, w, h => by
    simp only [AV.ren, Option.map_eq_some_iff] at h
    obtain ⟨l, hl, rfl⟩ := h
    exact renL_wf hm cs l w hl
  | .ptr i off, b, _, h => by
    simp only [AV.ren, Option.map_eq_some_iff] at h
    obtain ⟨j, hj, rfl⟩ := h
    exact hm i j hj
  | .ap i off k, b, _, h => by
    simp only [AV.ren, Option.map_eq_some_iff] at h
    obtain ⟨j, hj, rfl⟩ := h
    exact hm i j hj
  | .sl i sz p len, b, _, h => by
    simp only [AV.ren, Option.map_eq_some_iff] at h
    obtain ⟨j, hj, rfl⟩ := h
    exact hm i j hj
  | .ep i sz k fo, b, _, h => by
    simp only [AV.ren, Option.map_eq_some_iff] at h
    obtain ⟨j, hj, rfl⟩ := h
    exact hm i j hj
  | .fn f cs, b, w, h => by
    simp only [AV.ren, Option.map_eq_some_iff] at h
    obtain ⟨l, hl, rfl⟩ := h
    exact renL_wf hm cs l w hl
  | .bm f cs, b, w, h => by
    simp only [AV.ren, Option.map_eq_some_iff] at h
    obtain ⟨l, hl, rfl⟩ := h
    exact renL_wf hm cs l w hl
  | .junk, b, w, h => by simp only [AV.ren, Option.some.injEq] at h; subst h; trivial
  | .ifc t x, b, w, h => by
    simp only [AV.ren, Option.map_eq_some_iff] at h
    obtain ⟨y, hy, rfl⟩ := h
    exact ren_wf hm x y w hy
theorem renL_wf {m : Id → Option Id} {no nn : Nat} (hm : ∀ i j, m i = some j → j.ok no nn) {mo mn : Nat} : ∀ (l r : List AV), AV.wfL mo mn l → renL m l = some r → AV.wfL no nn r
  | [], r, _, h => by simp only [renL, Option.some.injEq] at h; subst h; trivial
  | a :: l, r, w, h => by
    unfold renL at h
    split at h
    · rename_i x xs hx hxs
      simp only [Option.some.injEq] at h; subst h
      exact ⟨ren_wf hm a x w.1 hx, renL_wf hm l xs w.2 hxs⟩
    · cases h
end

theorem ren_okCell {m : Id → Option Id} {a b : AV} (h : AV.ren m a = some b) (ho : okCell a = true) : okCell b = true := by
  cases a <;> simp only [AV.ren, Option.some.injEq, Option.map_eq_some_iff] at h <;> first
    | (subst h; exact ho)
    | (obtain ⟨_, _, rfl⟩ := h; first | rfl | (simp [okCell, isOne] at ho))
theorem renL_okCells {m : Id → Option Id} : ∀ {l r : List AV}, renL m l = some r → okCells l = true → okCells r = true
  | [], r, h, _ => by simp only [renL, Option.some.injEq] at h; subst h; rfl
  | a :: l, r, h, ho => by
    unfold renL at h
    split at h
    · rename_i x xs hx hxs
      simp only [Option.some.injEq] at h; subst h
      rw [okCells_cons] at ho ⊢
      exact ⟨ren_okCell hx ho.1, renL_okCells hxs ho.2⟩
    · cases h

theorem slot_ren {m : Id → Option Id} {E E' : Env} {s s' : Slot} {w : World} {en : Ent} (hm : ∀ i j, m i = some j → E' j = E i) (h : Slot.ren m s = some s') (hr : s.real w E en) : s'.real w E' en := by
  cases s with
  | dead => simp only [Slot.ren, Option.some.injEq] at h; subst h; trivial
  | cells cs ty =>
    simp only [Slot.ren, Option.map_eq_some_iff] at h
    obtain ⟨l, hl, rfl⟩ := h
    obtain ⟨b, h1, h2, h3⟩ := hr
    exact ⟨b, h1, h2, by unfold Thawed at h3 ⊢; rw [renL_conc hm cs l hl]; exact h3⟩
  | row r ty => simp only [Slot.ren, Option.some.injEq] at h; subst h; exact hr
  | win r => simp only [Slot.ren, Option.some.injEq] at h; subst h; exact hr
  | frow r => simp only [Slot.ren, Option.some.injEq] at h; subst h; exact hr
  | ro cs =>
    simp only [Slot.ren, Option.map_eq_some_iff] at h
    obtain ⟨l, hl, rfl⟩ := h
    obtain ⟨b, h1, h2⟩ := hr
    exact ⟨b, h1, by rw [renL_conc hm cs l hl]; exact h2⟩
theorem slot_ren_flags {m : Id → Option Id} {s s' : Slot} (h : Slot.ren m s = some s') : s'.owned = s.owned ∧ s'.held = s.held := by
  cases s <;> simp only [Slot.ren, Option.some.injEq, Option.map_eq_some_iff] at h <;> first
    | (subst h; exact ⟨rfl, rfl⟩)
    | (obtain ⟨_, _, rfl⟩ := h; exact ⟨rfl, rfl⟩)
theorem slot_ren_wf {m : Id → Option Id} {no nn mo mn : Nat} (hm : ∀ i j, m i = some j → j.ok no nn) {s s' : Slot} (hw : s.wf mo mn) (h : Slot.ren m s = some s') : s'.wf no nn := by
  cases s with
  | cells cs ty =>
    simp only [Slot.ren, Option.map_eq_some_iff] at h
    obtain ⟨l, hl, rfl⟩ := h
    exact ⟨renL_wf hm cs l hw.1 hl, renL_okCells hl hw.2⟩
  | ro cs =>
    simp only [Slot.ren, Option.map_eq_some_iff] at h
    obtain ⟨l, hl, rfl⟩ := h
    exact ⟨renL_wf hm cs l hw.1 hl, renL_okCells hl hw.2⟩
  | _ => simp only [Slot.ren, Option.some.injEq] at h; subst h; trivial

theorem getAll_some {C : Ctx} {H : Heap} : ∀ (l : List Id) (ss : List Slot), getAll C H l = some ss → ss.length = l.length ∧ ∀ (k : Nat) (i : Id), l[k]? = some i → ∃ s, ss[k]? = some s ∧ H.get C i = some s
  | [], ss, h => by simp only [getAll, Option.some.injEq] at h; subst h; exact ⟨rfl, fun k i hk => by simp at hk⟩
  | i :: l, ss, h => by
    unfold getAll at h
    split at h
    · rename_i s ss' hs hss
      simp only [Option.some.injEq] at h; subst h
      obtain ⟨h1, h2⟩ := getAll_some l ss' hss
      refine ⟨by simp [h1], fun k j hk => ?_⟩
      cases k with
      | zero => simp at hk; subst hk; exact ⟨s, rfl, hs⟩
      | succ k => simpa using h2 k j (by simpa using hk)
    · cases h

theorem renSlots_some {m : Id → Option Id} : ∀ (l r : List Slot), renSlots m l = some r → r.length = l.length ∧ ∀ (k : Nat) (s' : Slot), r[k]? = some s' → ∃ s, l[k]? = some s ∧ Slot.ren m s = some s'
  | [], r, h => by simp only [renSlots, Option.some.injEq] at h; subst h; exact ⟨rfl, fun k i hk => by simp at hk⟩
  | s :: l, r, h => by
    unfold renSlots at h
    split at h
    · rename_i x xs hx hxs
      simp only [Option.some.injEq] at h; subst h
      obtain ⟨h1, h2⟩ := renSlots_some l xs hxs
      refine ⟨by simp [h1], fun k j hk => ?_⟩
      cases k with
      | zero => simp at hk; subst hk; exact ⟨s, rfl, hx⟩
      | succ k => simpa using h2 k j (by simpa using hk)
    · cases h

theorem reach_inv {C : Ctx} {H : Heap} : ∀ (n : Nat) (todo seen : List Id), seen.Nodup → (∀ i ∈ seen, isG i = false) → (reach C H n todo seen).Nodup ∧ ∀ i ∈ reach C H n todo seen, isG i = false
  | 0, todo, seen, h1, h2 => ⟨h1, h2⟩
  | n + 1, [], seen, h1, h2 => ⟨h1, h2⟩
  | n + 1, i :: todo, seen, h1, h2 => by
    unfold reach
    split
    · exact reach_inv n todo seen h1 h2
    · rename_i hc
      simp only [Bool.or_eq_true, not_or, Bool.not_eq_true] at hc
      refine reach_inv n _ _ ?_ ?_
      · rw [List.nodup_append]
        refine ⟨h1, by simp, ?_⟩
        intro a ha b hb
        simp at hb; subst hb
        rintro rfl
        have : seen.contains a = true := by simpa using ha
        rw [this] at hc; exact absurd hc.2 (by simp)
      · intro j hj
        rcases List.mem_append.1 hj with hj | hj
        · exact h2 j hj
        · simp at hj; subst hj; exact hc.1

theorem idx_some {σ : List Id} {i : Id} {k : Nat} (h : idx σ i = some k) : σ[k]? = some i := by
  unfold idx at h
  rw [List.idxOf?, List.findIdx?_eq_some_iff_getElem] at h
  obtain ⟨h1, h2, _⟩ := h
  rw [List.getElem?_eq_getElem h1]
  simpa using h2

theorem putAll_get {C : Ctx} : ∀ (σ : List Id) (ss : List Slot) (H : Heap), σ.Nodup → ss.length = σ.length → (∀ i ∈ σ, isG i = false ∧ i.ok H.o.length H.n.length) →
    (putAll H σ ss).o.length = H.o.length ∧ (putAll H σ ss).n.length = H.n.length ∧ (∀ (k : Nat) (i : Id), σ[k]? = some i → (putAll H σ ss).get C i = ss[k]?) ∧ ∀ i, i ∉ σ → (putAll H σ ss).get C i = H.get C i
  | [], ss, H, _, hl, _ => by
    have : ss = [] := List.eq_nil_of_length_eq_zero (by simpa using hl)
    subst this
    exact ⟨rfl, rfl, fun k i h => by simp at h, fun _ _ => rfl⟩
  | i :: σ, [], H, _, hl, _ => by simp at hl
  | i :: σ, s :: ss, H, hn, hl, hok => by
    rw [List.nodup_cons] at hn
    have hset := set_len (H := H) (i := i) (s := s)
    have hi := hok i List.mem_cons_self
    obtain ⟨h1, h2, h3, h4⟩ := putAll_get σ ss (H.set i s) hn.2 (by simpa using hl) (fun j hj => by rw [hset.1, hset.2]; exact hok j (List.mem_cons_of_mem _ hj))
    have hself : (H.set i s).get C i = some s := by
      cases i with
      | o k => simp only [Id.ok] at hi; simp [Heap.set, Heap.get, hi.2]
      | n k => simp only [Id.ok] at hi; simp [Heap.set, Heap.get, hi.2]
      | g k => simp [isG] at hi
    have hoth : ∀ j, j ≠ i → (H.set i s).get C j = H.get C j := by
      intro j hj
      cases i with
      | o k => cases j with
        | o m => simp only [Heap.set, Heap.get]; rw [List.getElem?_set_ne (by rintro rfl; exact hj rfl)]
        | _ => rfl
      | n k => cases j with
        | n m => simp only [Heap.set, Heap.get]; rw [List.getElem?_set_ne (by rintro rfl; exact hj rfl)]
        | _ => rfl
      | g k => rfl
    show ((putAll (H.set i s) σ ss).o.length = _ ∧ _)
    refine ⟨h1.trans hset.1, h2.trans hset.2, fun k j hk => ?_, fun j hj => ?_⟩
    · cases k with
      | zero =>
        simp at hk; subst hk
        show (putAll (H.set i s) σ ss).get C i = _
        rw [h4 i hn.1, hself]; rfl
      | succ k => exact h3 k j (by simpa using hk)
    · rw [List.mem_cons, not_or] at hj
      show (putAll (H.set i s) σ ss).get C j = _
      rw [h4 j hj.2, hoth j hj.1]

end Eng

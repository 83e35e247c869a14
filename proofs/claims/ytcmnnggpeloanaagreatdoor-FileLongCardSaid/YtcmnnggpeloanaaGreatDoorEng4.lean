/- The engine, part 4: how a state goes on when a block is written, made, or given up. -/
import Derived.Test.YtcmnnggpeloanaaGreatDoorEng3
import Derived.Laws.World
import Derived.Laws.AppendOwn
import Derived.Below
namespace Eng
open Go

theorem cell_of_heap {w w' : World} {b : Nat} (h : w'.heap[b]? = w.heap[b]?) (o : Nat) : w'.cell? ⟨b, o, none⟩ = w.cell? ⟨b, o, none⟩ := by
  unfold World.cell?; simp only [h]

theorem Slot.real_keep {s : Slot} {w w' : World} {E E' : Env} {en : Ent} {no nn : Nat} (h : s.real w E en) (hb : ∀ b ∈ en.blks, w'.heap[b]? = w.heap[b]?)
    (hw : s.wf no nn) (ha : E.agree E' no nn) : s.real w' E' en := by
  cases s with
  | dead => trivial
  | cells cs ty =>
    obtain ⟨b, h1, h2, h3⟩ := h
    refine ⟨b, h1, h2, ?_⟩
    unfold Thawed at h3 ⊢
    rw [hb b (by rw [h1]; simp), h3, concL_agree ha cs hw.1]
  | row r ty =>
    obtain ⟨h0, h⟩ := h
    refine ⟨h0, ?_⟩
    rcases h with h | ⟨b, sp, h1, h2, h3⟩
    · exact .inl h
    · refine .inr ⟨b, sp, h1, ?_, h3⟩
      unfold Thawed at h2 ⊢
      rw [hb b (by rw [h1]; simp), h2]
  | win r =>
    rcases h with h | ⟨b, h1, h2, h3⟩
    · exact .inl h
    · refine .inr ⟨b, h1, h2, fun j v hv => ?_⟩
      rw [cell_of_heap (hb b (by rw [h1]; simp))]
      exact h3 j v hv
  | frow r =>
    rcases h with h | ⟨b, h1, h2, h3⟩
    · exact .inl h
    · refine .inr ⟨b, h1, h2, fun j v hv => ?_⟩
      rw [cell_of_heap (hb b (by rw [h1]; simp))]
      exact h3 j v hv
  | ro cs =>
    obtain ⟨b, h1, h2⟩ := h
    refine ⟨b, h1, fun j v hv => ?_⟩
    rw [cell_of_heap (hb b (by rw [h1]; simp))]
    rw [concL_agree ha cs hw.1] at hv
    exact h2 j v hv

theorem Slot.wf_mono {s : Slot} {no nn no' nn' : Nat} (h : s.wf no nn) (h1 : no ≤ no') (h2 : nn ≤ nn') : s.wf no' nn' := by
  cases s <;> first | trivial | exact ⟨AV.wfL_mono h1 h2 _ h.1, h.2⟩

theorem owned_held {s : Slot} (h : s.owned = true) : s.held = true := by cases s <;> simp_all [Slot.owned, Slot.held]

theorem get_set {C : Ctx} {H : Heap} {i j : Id} {s s' t : Slot} (hi : H.get C i = some s) (ho : s.owned = true) (hg : ∀ k s, C.glob k = some s → s.owned = false) :
    (H.set i s').get C j = some t ↔ (j = i ∧ t = s') ∨ (j ≠ i ∧ H.get C j = some t) := by
  cases i with
  | g k => have := hg k s hi; rw [this] at ho; cases ho
  | o k =>
    have hk : k < H.o.length := (List.getElem?_eq_some_iff.1 hi).1
    cases j with
    | o m =>
      by_cases e : k = m
      · subst e; simp [Heap.set, Heap.get, hk, eq_comm]
      · have e' : ¬ m = k := fun h => e h.symm
        simp [Heap.set, Heap.get, e, e']
    | n m => simp [Heap.set, Heap.get]
    | g m => simp [Heap.set, Heap.get]
  | n k =>
    have hk : k < H.n.length := (List.getElem?_eq_some_iff.1 hi).1
    cases j with
    | n m =>
      by_cases e : k = m
      · subst e; simp [Heap.set, Heap.get, hk, eq_comm]
      · have e' : ¬ m = k := fun h => e h.symm
        simp [Heap.set, Heap.get, e, e']
    | o m => simp [Heap.set, Heap.get]
    | g m => simp [Heap.set, Heap.get]

theorem set_len {H : Heap} {i : Id} {s : Slot} : (H.set i s).o.length = H.o.length ∧ (H.set i s).n.length = H.n.length := by
  cases i <;> simp [Heap.set]

theorem get_add {C : Ctx} {H : Heap} {j : Id} {s t : Slot} : (H.add s).get C j = some t ↔ (j = newSlot H ∧ t = s) ∨ (j ≠ newSlot H ∧ H.get C j = some t) := by
  cases j with
  | n m =>
    by_cases e : m = H.n.length
    · subst e
      simp [Heap.add, Heap.get, newSlot, eq_comm]
    · by_cases hlt : m < H.n.length
      · simp [Heap.add, Heap.get, newSlot, List.getElem?_append_left hlt, e]
      · have h1 : (H.n ++ [s])[m]? = none := by apply List.getElem?_eq_none; simp; omega
        have h2 : H.n[m]? = none := by apply List.getElem?_eq_none; omega
        simp [Heap.add, Heap.get, newSlot, h1, h2, e]
  | o m => simp [Heap.add, Heap.get, newSlot]
  | g m => simp [Heap.add, Heap.get, newSlot]

theorem add_len {H : Heap} {s : Slot} : (H.add s).o.length = H.o.length ∧ (H.add s).n.length = H.n.length + 1 := by simp [Heap.add]

/-- one owned block is written -/
theorem step_set {C : Ctx} {E : Env} {H : Heap} {w w' : World} (hR : Real C w E H) {i : Id} {s s' : Slot} (hi : H.get C i = some s) (ho : s.owned = true)
    (ho' : s'.owned = true) (hw : s'.wf H.o.length H.n.length) (hs : s'.real w' E (E i)) (hsz : w'.heap.size = w.heap.size)
    (hoth : ∀ b, b ∉ (E i).blks → w'.heap[b]? = w.heap[b]?) (hos : w'.os = w.os) (htp : w'.tape = w.tape) (hou : w'.output = w.output) :
    Step C E H w E (H.set i s') w' := by
  have hget := fun (j : Id) (t : Slot) => get_set (s' := s') (j := j) (t := t) hi ho hR.gown
  have hl := set_len (H := H) (i := i) (s := s')
  refine ⟨⟨?_, ?_, ?_, ?_, hR.gown, hR.glob⟩, fun _ _ => rfl, hl.1, by rw [hl.2]; exact Nat.le_refl _, ⟨hos, htp, hou, by omega, fun b _ hF => hoth b (fun hb => hF ⟨i, s, hi, ho, hb⟩)⟩, ?_, ?_, ?_⟩
  · intro j t hj
    rcases (hget j t).1 hj with ⟨rfl, rfl⟩ | ⟨hne, hj⟩
    · exact hs
    · by_cases ht : t.held = true
      · exact Slot.real_keep (hR.slot j t hj) (fun b hb => hoth b (fun hb' => hR.apart i j s t hi hj ho (Ne.symm hne) ht b hb' hb)) (hR.wf j t hj) (fun _ _ => rfl)
      · cases t <;> simp_all [Slot.held, Slot.real]
  · intro j t hj
    rw [hl.1, hl.2]
    rcases (hget j t).1 hj with ⟨rfl, rfl⟩ | ⟨hne, hj⟩
    · exact hw
    · exact hR.wf j t hj
  · intro j t hj ht b hb
    rw [hsz]
    rcases (hget j t).1 hj with ⟨rfl, rfl⟩ | ⟨hne, hj⟩
    · exact hR.own j s hi (owned_held ho) b hb
    · exact hR.own j t hj ht b hb
  · intro j k t u hj hk ht hne hu b hb
    rcases (hget j t).1 hj with ⟨rfl, rfl⟩ | ⟨hne1, hj'⟩
    · rcases (hget k u).1 hk with ⟨rfl, rfl⟩ | ⟨hne2, hk⟩
      · exact absurd rfl hne
      · exact hR.apart j k s u hi hk ho hne hu b hb
    · rcases (hget k u).1 hk with ⟨rfl, rfl⟩ | ⟨hne2, hk⟩
      · exact hR.apart j k t s hj' hi ht hne (owned_held ho) b hb
      · exact hR.apart j k t u hj' hk ht hne hu b hb
  · intro b ⟨j, t, hj, ht, hb⟩
    rcases (hget j t).1 hj with ⟨rfl, rfl⟩ | ⟨hne, hj⟩
    · exact .inl ⟨j, s, hi, ho, hb⟩
    · exact .inl ⟨j, t, hj, ht, hb⟩
  · intro j t _ hj ht
    rcases (hget j t).1 hj with ⟨rfl, rfl⟩ | ⟨hne, hj⟩
    · exact ⟨s, hi, owned_held ho, by rw [ho, ho']⟩
    · exact ⟨t, hj, ht, rfl⟩
  · intro j t hn hj _
    have := get_ok hj
    rw [hl.1, hl.2] at this
    exact absurd this hn

/-- a block is made -/
def Env.upd (E : Env) (i : Id) (en : Ent) : Env := fun j => if j = i then en else E j

theorem upd_agree (E : Env) (H : Heap) (en : Ent) : E.agree (E.upd (newSlot H) en) H.o.length H.n.length := by
  intro i hi
  unfold Env.upd
  rw [if_neg]
  rintro rfl
  simp [newSlot, Id.ok] at hi

theorem step_add {C : Ctx} {E : Env} {H : Heap} {w w' : World} (hR : Real C w E H) {s : Slot} (en : Ent)
    (hw : s.wf H.o.length (H.n.length + 1)) (ho : s.owned = true) (hs : s.real w' (E.upd (newSlot H) en) en) (hnew : ∀ b ∈ en.blks, w.heap.size ≤ b ∧ b < w'.heap.size)
    (hsz : w.heap.size ≤ w'.heap.size) (hoth : ∀ b, b < w.heap.size → w'.heap[b]? = w.heap[b]?) (hos : w'.os = w.os) (htp : w'.tape = w.tape) (hou : w'.output = w.output) :
    Step C E H w (E.upd (newSlot H) en) (H.add s) w' := by
  have hget := fun (j : Id) (t : Slot) => get_add (C := C) (H := H) (s := s) (j := j) (t := t)
  have hl := add_len (H := H) (s := s)
  have hag := upd_agree E H en
  have hn : (E.upd (newSlot H) en) (newSlot H) = en := by simp [Env.upd]
  refine ⟨⟨?_, ?_, ?_, ?_, hR.gown, ?_⟩, hag, hl.1, by rw [hl.2]; omega, ⟨hos, htp, hou, hsz, fun b hb _ => hoth b hb⟩, ?_, ?_, ?_⟩
  · intro j t hj
    rcases (hget j t).1 hj with ⟨rfl, rfl⟩ | ⟨hne, hj⟩
    · rw [hn]; exact hs
    · rw [hag j (get_ok hj)]
      by_cases ht : t.held = true
      · exact Slot.real_keep (hR.slot j t hj) (fun b hb => hoth b (hR.own j t hj ht b hb)) (hR.wf j t hj) hag
      · cases t <;> simp_all [Slot.held, Slot.real]
  · intro j t hj
    rw [hl.1, hl.2]
    rcases (hget j t).1 hj with ⟨rfl, rfl⟩ | ⟨hne, hj⟩
    · exact hw
    · exact Slot.wf_mono (hR.wf j t hj) (Nat.le_refl _) (Nat.le_succ _)
  · intro j t hj ht b hb
    rcases (hget j t).1 hj with ⟨rfl, rfl⟩ | ⟨hne, hj⟩
    · rw [hn] at hb; exact (hnew b hb).2
    · rw [hag j (get_ok hj)] at hb
      have := hR.own j t hj ht b hb
      omega
  · intro j k t u hj hk ht hne hu b hb hb'
    rcases (hget j t).1 hj with ⟨rfl, rfl⟩ | ⟨hne1, hj'⟩
    · rcases (hget k u).1 hk with ⟨rfl, rfl⟩ | ⟨hne2, hk⟩
      · exact absurd rfl hne
      · rw [hn] at hb
        rw [hag k (get_ok hk)] at hb'
        have h1 := hnew b hb
        have h2 := hR.own k u hk hu b hb'
        omega
    · rw [hag j (get_ok hj')] at hb
      have h2 := hR.own j t hj' (owned_held ht) b hb
      rcases (hget k u).1 hk with ⟨rfl, rfl⟩ | ⟨hne2, hk⟩
      · rw [hn] at hb'
        have h1 := hnew b hb'
        omega
      · rw [hag k (get_ok hk)] at hb'
        exact hR.apart j k t u hj' hk ht hne hu b hb hb'
  · intro g
    rw [hag (.g g) trivial]
    exact hR.glob g
  · intro b ⟨j, t, hj, ht, hb⟩
    rcases (hget j t).1 hj with ⟨rfl, rfl⟩ | ⟨hne, hj⟩
    · rw [hn] at hb; exact .inr (hnew b hb).1
    · rw [hag j (get_ok hj)] at hb
      exact .inl ⟨j, t, hj, ht, hb⟩
  · intro j t hjo hj ht
    rcases (hget j t).1 hj with ⟨rfl, rfl⟩ | ⟨hne, hj⟩
    · simp [newSlot, Id.ok] at hjo
    · exact ⟨t, hj, ht, rfl⟩
  · intro j t hjo hj _
    rcases (hget j t).1 hj with ⟨rfl, rfl⟩ | ⟨hne, hj⟩
    · exact ho
    · exact absurd (get_ok hj) hjo

/-- a row is given up, and another takes its place: in its block or in a new one -/
theorem step_move {C : Ctx} {E : Env} {H : Heap} {w w' : World} (hR : Real C w E H) {i : Id} {s0 s : Slot} (hi : H.get C i = some s0) (ho0 : s0.owned = true) (en : Ent)
    (hw : s.wf H.o.length (H.n.length + 1)) (ho : s.owned = true) (hs : ∀ E', s.real w' E' en) (hnew : ∀ b ∈ en.blks, (b ∈ (E i).blks ∨ w.heap.size ≤ b) ∧ b < w'.heap.size)
    (hsz : w.heap.size ≤ w'.heap.size) (hoth : ∀ b, b < w.heap.size → b ∉ (E i).blks → w'.heap[b]? = w.heap[b]?) (hos : w'.os = w.os) (htp : w'.tape = w.tape) (hou : w'.output = w.output) :
    Step C E H w (E.upd (newSlot H) en) ((H.set i .dead).add s) w' := by
  have hgs := fun (j : Id) (t : Slot) => get_set (s' := .dead) (j := j) (t := t) hi ho0 hR.gown
  have hls := set_len (H := H) (i := i) (s := .dead)
  have hns : newSlot (H.set i .dead) = newSlot H := by simp [newSlot, hls.2]
  have hget : ∀ (j : Id) (t : Slot), ((H.set i .dead).add s).get C j = some t ↔ (j = newSlot H ∧ t = s) ∨ (j ≠ newSlot H ∧ ((j = i ∧ t = .dead) ∨ (j ≠ i ∧ H.get C j = some t))) := by
    intro j t
    rw [get_add, hns, hgs]
  have hl := add_len (H := H.set i .dead) (s := s)
  have hag := upd_agree E H en
  have hn : (E.upd (newSlot H) en) (newSlot H) = en := by simp [Env.upd]
  refine ⟨⟨?_, ?_, ?_, ?_, hR.gown, ?_⟩, hag, hl.1.trans hls.1, by rw [hl.2, hls.2]; omega, ⟨hos, htp, hou, hsz, fun b hb hF => hoth b hb (fun hb' => hF ⟨i, s0, hi, ho0, hb'⟩)⟩, ?_, ?_, ?_⟩
  · intro j t hj
    rcases (hget j t).1 hj with ⟨rfl, rfl⟩ | ⟨_, ⟨rfl, rfl⟩ | ⟨hne, hj⟩⟩
    · rw [hn]; exact hs _
    · trivial
    · rw [hag j (get_ok hj)]
      by_cases ht : t.held = true
      · exact Slot.real_keep (hR.slot j t hj) (fun b hb => hoth b (hR.own j t hj ht b hb) (fun hb' => hR.apart i j s0 t hi hj ho0 (Ne.symm hne) ht b hb' hb)) (hR.wf j t hj) hag
      · cases t <;> simp_all [Slot.held, Slot.real]
  · intro j t hj
    rw [hl.1, hl.2, hls.1, hls.2]
    rcases (hget j t).1 hj with ⟨rfl, rfl⟩ | ⟨_, ⟨rfl, rfl⟩ | ⟨hne, hj⟩⟩
    · exact hw
    · trivial
    · exact Slot.wf_mono (hR.wf j t hj) (Nat.le_refl _) (Nat.le_succ _)
  · intro j t hj ht b hb
    rcases (hget j t).1 hj with ⟨rfl, rfl⟩ | ⟨_, ⟨rfl, rfl⟩ | ⟨hne, hj⟩⟩
    · rw [hn] at hb; exact (hnew b hb).2
    · cases ht
    · rw [hag j (get_ok hj)] at hb
      have := hR.own j t hj ht b hb
      omega
  · intro j k t u hj hk ht hne hu b hb hb'
    rcases (hget j t).1 hj with ⟨rfl, rfl⟩ | ⟨_, ⟨rfl, rfl⟩ | ⟨hne1, hj'⟩⟩
    · rw [hn] at hb
      have h1 := hnew b hb
      rcases (hget k u).1 hk with ⟨rfl, rfl⟩ | ⟨_, ⟨rfl, rfl⟩ | ⟨hne2, hk⟩⟩
      · exact absurd rfl hne
      · cases hu
      · rw [hag k (get_ok hk)] at hb'
        have h2 := hR.own k u hk hu b hb'
        rcases h1.1 with h3 | h3
        · exact hR.apart i k s0 u hi hk ho0 (Ne.symm hne2) hu b h3 hb'
        · omega
    · cases ht
    · rw [hag j (get_ok hj')] at hb
      have h2 := hR.own j t hj' (owned_held ht) b hb
      rcases (hget k u).1 hk with ⟨rfl, rfl⟩ | ⟨_, ⟨rfl, rfl⟩ | ⟨hne2, hk⟩⟩
      · rw [hn] at hb'
        have h1 := hnew b hb'
        rcases h1.1 with h3 | h3
        · exact hR.apart j i t s0 hj' hi ht hne1 (owned_held ho0) b hb h3
        · omega
      · cases hu
      · rw [hag k (get_ok hk)] at hb'
        exact hR.apart j k t u hj' hk ht hne hu b hb hb'
  · intro g
    rw [hag (.g g) trivial]
    exact hR.glob g
  · intro b ⟨j, t, hj, ht, hb⟩
    rcases (hget j t).1 hj with ⟨rfl, rfl⟩ | ⟨_, ⟨rfl, rfl⟩ | ⟨hne, hj⟩⟩
    · rw [hn] at hb
      rcases (hnew b hb).1 with h3 | h3
      · exact .inl ⟨i, s0, hi, ho0, h3⟩
      · exact .inr h3
    · cases ht
    · rw [hag j (get_ok hj)] at hb
      exact .inl ⟨j, t, hj, ht, hb⟩
  · intro j t hjo hj ht
    rcases (hget j t).1 hj with ⟨rfl, rfl⟩ | ⟨_, ⟨rfl, rfl⟩ | ⟨hne, hj⟩⟩
    · simp [newSlot, Id.ok] at hjo
    · cases ht
    · exact ⟨t, hj, ht, rfl⟩
  · intro j t hjo hj ht
    rcases (hget j t).1 hj with ⟨rfl, rfl⟩ | ⟨_, ⟨rfl, rfl⟩ | ⟨hne, hj⟩⟩
    · exact ho
    · cases ht
    · exact absurd (get_ok hj) hjo

end Eng

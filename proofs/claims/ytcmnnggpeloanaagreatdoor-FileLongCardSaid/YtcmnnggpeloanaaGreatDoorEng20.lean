/- The engine, part 20: the frame rule, second half. -/
import Derived.Test.YtcmnnggpeloanaaGreatDoorEng19
namespace Eng
open Go

theorem not_held_real {w : World} {E : Env} {en : Ent} {s : Slot} (h : s.held = false) : Slot.real w E en s := by
  cases s <;> first | trivial | cases h

set_option maxHeartbeats 8000000 in
theorem callWith_sound {C : Ctx} {E : Env} {H H' : Heap} {w : World} {f : FuncId} {g : List AV → Heap → T (AV × Heap)} {args : List AV} {r : AV} {σ0 : List Id} (hG : C.Good) (hF : FnOk C f g)
    (hR : Real C w E H) (hw : AV.wfL H.o.length H.n.length args) (h : (callWith C g args H).run = some (r, H', σ0)) :
    (∀ i s, i ∉ σ0 → H.get C i = some s → H'.get C i = some s) ∧
    Calls C.P f (concL E args).toArray w fun e w' => ∃ E', Step C E H w E' H' w' ∧ r.wf H'.o.length H'.n.length ∧ e = .returned (conc E' r) := by
  unfold callWith at h
  simp only at h
  generalize hσ : reach C H fuelR (idsL args) [] = σ at h
  obtain ⟨hn, hg⟩ := reach_inv (C := C) (H := H) fuelR (idsL args) [] List.nodup_nil (fun i hi => by simp at hi)
  rw [hσ] at hn hg
  split at h
  · rename_i args1 O1 hargs hO
    obtain ⟨x, hx, h'⟩ := T.bind_some h
    clear h
    obtain ⟨r1, H1⟩ := x
    simp only at h'
    generalize hτ : (reach C H1 fuelR (r1.ids ++ (H1.o.map Slot.ids).flatten) []).filter isN = τ at h'
    have hτn : τ.Nodup := by
      rw [← hτ]
      exact (reach_inv fuelR _ [] List.nodup_nil (fun i hi => by simp at hi)).1.filter _
    have hτN : ∀ i ∈ τ, isN i = true := by intro i hi; rw [← hτ] at hi; exact (List.mem_filter.1 hi).2
    split at h'
    · rename_i r' Os Ns hr hOs hNs
      obtain ⟨hlen0, h⟩ := must_some h'
      have hh := leaf_some h
      simp only [Prod.mk.injEq] at hh
      obtain ⟨rfl, rfl, rfl⟩ := hh
      simp only [beq_iff_eq] at hlen0
      obtain ⟨hlen, hat, hR1⟩ := real_in hG hR hn hg hO
      have hσok : ∀ i ∈ σ0, isG i = false ∧ i.ok H.o.length H.n.length := by
        intro i hi
        obtain ⟨k, hk⟩ := List.getElem?_of_mem hi
        obtain ⟨s, _, hs, _⟩ := hat k i hk
        exact ⟨hg i hi, get_ok hs⟩
      obtain ⟨p1, p2, p3, p4⟩ := putAll_get (C := C) σ0 Os H hn hlen0 hσok
      obtain ⟨q1, q2⟩ := renSlots_some H1.o Os hOs
      rw [Option.bind_eq_some_iff] at hNs
      obtain ⟨ns, hns, hNs⟩ := hNs
      obtain ⟨n1, n2⟩ := getAll_some τ ns hns
      obtain ⟨m1, m2⟩ := renSlots_some ns Ns hNs
      -- the new heap, name by name
      have getσ : ∀ (k : Nat) (i : Id), σ0[k]? = some i → ({ putAll H σ0 Os with n := (putAll H σ0 Os).n ++ Ns } : Heap).get C i = Os[k]? := by
        intro k i hk
        have hi := hσok i (List.mem_of_getElem? hk)
        have := p3 k i hk
        cases i with
        | o j => exact this
        | n j =>
          have hj : j < (putAll H σ0 Os).n.length := by rw [p2]; exact hi.2
          simp only [Heap.get] at this ⊢
          rw [List.getElem?_append_left hj]; exact this
        | g j => simp [isG] at hi
      have getRest : ∀ i, i ∉ σ0 → i.ok H.o.length H.n.length → ({ putAll H σ0 Os with n := (putAll H σ0 Os).n ++ Ns } : Heap).get C i = H.get C i := by
        intro i hi hok
        have := p4 i hi
        cases i with
        | o j => exact this
        | n j =>
          have hj : j < (putAll H σ0 Os).n.length := by rw [p2]; exact hok
          simp only [Heap.get] at this ⊢
          rw [List.getElem?_append_left hj]; exact this
        | g j => rfl
      have getNew : ∀ q, ({ putAll H σ0 Os with n := (putAll H σ0 Os).n ++ Ns } : Heap).get C (.n (H.n.length + q)) = Ns[q]? := by
        intro q
        simp only [Heap.get]
        rw [List.getElem?_append_right (by rw [p2]; omega), p2]
        congr 1; omega
      refine ⟨fun i s hi hs => by rw [getRest i hi (get_ok hs)]; exact hs, ?_⟩
      have hargs1 : concL (inEnv E σ0) args1 = concL E args := renL_conc (fun _ _ h => toIn_env h) args args1 hargs
      have hwargs : AV.wfL O1.length 0 args1 := renL_wf (fun i j h => by rw [hlen]; exact toIn_ok h) args args1 hw hargs
      have hcall := hF args1 ⟨O1, []⟩ (inEnv E σ0) w r1 H1 rfl hR1 hwargs hx
      rw [hargs1] at hcall
      refine hcall.mono ?_
      rintro e w' ⟨E1', hst, hrw, rfl⟩
      have hO1len : H1.o.length = O1.length := hst.olen
      have hOslen : Os.length = σ0.length := hlen0
      -- the names that come back
      have hm : ∀ i j, toOut σ0 τ H.n.length i = some j → outEnv E E1' τ H.n.length j = E1' i := by
        intro i j hij
        unfold toOut at hij
        cases i with
        | g k =>
          simp only [Option.some.injEq] at hij; subst hij
          have := hst.agree (.g k) trivial
          simp only [outEnv, this, inEnv]
        | o k =>
          simp only at hij
          have hk : k < O1.length := by rw [hlen]; exact (List.getElem?_eq_some_iff.1 hij).1
          have h1 := hst.agree (.o k) hk
          rw [h1]
          simp only [inEnv, hij]
          have hjok := hσok j (List.mem_of_getElem? hij)
          cases j with
          | n t => simp only [outEnv]; rw [if_neg (by have := hjok.2; simp only [Id.ok] at this; omega)]
          | _ => rfl
        | n t =>
          simp only [Option.map_eq_some_iff] at hij
          obtain ⟨q, hq, rfl⟩ := hij
          have := idx_some hq
          simp only [outEnv]
          rw [if_pos (by omega), show H.n.length + q - H.n.length = q from by omega, this]
      have hτlen : Ns.length = τ.length := m1.trans n1
      have hmok : ∀ i j, toOut σ0 τ H.n.length i = some j → j.ok H.o.length (H.n.length + Ns.length) := by
        intro i j hij
        unfold toOut at hij
        cases i with
        | g k => simp only [Option.some.injEq] at hij; subst hij; trivial
        | o k => exact Id.ok_mono (hσok j (List.mem_of_getElem? hij)).2 (Nat.le_refl _) (by omega)
        | n t =>
          simp only [Option.map_eq_some_iff] at hij
          obtain ⟨q, hq, rfl⟩ := hij
          have := (List.getElem?_eq_some_iff.1 (idx_some hq)).1
          show H.n.length + q < H.n.length + Ns.length
          omega
      have hlo : ({ putAll H σ0 Os with n := (putAll H σ0 Os).n ++ Ns } : Heap).o.length = H.o.length := p1
      have hln : ({ putAll H σ0 Os with n := (putAll H σ0 Os).n ++ Ns } : Heap).n.length = H.n.length + Ns.length := by simp [p2]
      have hagree : E.agree (outEnv E E1' τ H.n.length) H.o.length H.n.length := by
        intro i hi
        cases i with
        | n k => simp only [outEnv]; rw [if_neg (by simp only [Id.ok] at hi; omega)]
        | _ => rfl
      -- what each name holds: of the call's part, or of the rest
      have parts : ∀ i s', ({ putAll H σ0 Os with n := (putAll H σ0 Os).n ++ Ns } : Heap).get C i = some s' →
          (∃ x s1, H1.get C x = some s1 ∧ isG x = false ∧ Slot.ren (toOut σ0 τ H.n.length) s1 = some s' ∧ outEnv E E1' τ H.n.length i = E1' x ∧ ((i ∈ σ0 ∧ ∃ k : Nat, x = .o k ∧ σ0[k]? = some i) ∨ (¬ i.ok H.o.length H.n.length ∧ ∃ q : Nat, i = .n (H.n.length + q) ∧ τ[q]? = some x))) ∨
          (i ∉ σ0 ∧ i.ok H.o.length H.n.length ∧ H.get C i = some s' ∧ outEnv E E1' τ H.n.length i = E i) := by
        intro i s' hi
        by_cases hmem : i ∈ σ0
        · left
          obtain ⟨k, hk⟩ := List.getElem?_of_mem hmem
          rw [getσ k i hk] at hi
          obtain ⟨s1, hs1, hren⟩ := q2 k s' hi
          refine ⟨.o k, s1, hs1, rfl, hren, hm (.o k) i (by simp only [toOut]; exact hk), .inl ⟨hmem, k, rfl, hk⟩⟩
        · by_cases hok : i.ok H.o.length H.n.length
          · right
            rw [getRest i hmem hok] at hi
            exact ⟨hmem, hok, hi, hagree i hok⟩
          · left
            have hok' := get_ok hi
            rw [hlo, hln] at hok'
            cases i with
            | g k => exact absurd trivial hok
            | o k => exact absurd hok' hok
            | n k =>
              have hk : H.n.length ≤ k := Nat.le_of_not_lt hok
              obtain ⟨q, rfl⟩ : ∃ q, k = H.n.length + q := ⟨k - H.n.length, by omega⟩
              rw [getNew q] at hi
              obtain ⟨s0, hs0, hren⟩ := m2 q s' hi
              have hqτ : q < τ.length := by rw [← n1]; exact (List.getElem?_eq_some_iff.1 hs0).1
              obtain ⟨s1, hs1, hget⟩ := n2 q τ[q] (List.getElem?_eq_getElem hqτ)
              rw [hs0] at hs1
              cases hs1
              have hNx := hτN τ[q] (List.getElem_mem hqτ)
              refine ⟨τ[q], s0, hget, ?_, hren, ?_, .inr ⟨hok, q, rfl, List.getElem?_eq_getElem hqτ⟩⟩
              · cases hx : τ[q] <;> rw [hx] at hNx <;> simp [isN] at hNx; rfl
              · simp only [outEnv]
                rw [if_pos (by omega), show H.n.length + q - H.n.length = q from by omega, List.getElem?_eq_getElem hqτ]
      -- two names of the call's part that are one there are one here
      have inj : ∀ i j x, ((i ∈ σ0 ∧ ∃ k : Nat, x = Id.o k ∧ σ0[k]? = some i) ∨ (¬ i.ok H.o.length H.n.length ∧ ∃ q : Nat, i = Id.n (H.n.length + q) ∧ τ[q]? = some x)) →
          ((j ∈ σ0 ∧ ∃ k : Nat, x = Id.o k ∧ σ0[k]? = some j) ∨ (¬ j.ok H.o.length H.n.length ∧ ∃ q : Nat, j = Id.n (H.n.length + q) ∧ τ[q]? = some x)) → i = j := by
        rintro i j x (⟨_, k, rfl, hk⟩ | ⟨_, q, rfl, hq⟩) (⟨_, l, hl, hl2⟩ | ⟨_, q2, rfl, hq2⟩)
        · cases hl; rw [hk] at hl2; exact Option.some.inj hl2
        · have := hτN _ (List.mem_of_getElem? hq2); simp [isN] at this
        · subst hl; have := hτN _ (List.mem_of_getElem? hq); simp [isN] at this
        · have := (List.getElem?_inj (List.getElem?_eq_some_iff.1 hq).1 hτn).1 (hq.trans hq2.symm)
          rw [this]
      have ownIn : ∀ b, Owned C (inEnv E σ0) ⟨O1, []⟩ b → ∃ (k : Nat) (i : Id) (s : Slot), σ0[k]? = some i ∧ H.get C i = some s ∧ s.owned = true ∧ b ∈ (E i).blks := by
        rintro b ⟨i, s', hi, ho, hb⟩
        cases i with
        | o k =>
          have hk : k < O1.length := (List.getElem?_eq_some_iff.1 hi).1
          have hkσ : k < σ0.length := by omega
          obtain ⟨s, s1, h1, h2, h3⟩ := hat k σ0[k] (List.getElem?_eq_getElem hkσ)
          have : s1 = s' := by
            have hi' : O1[k]? = some s' := hi
            rw [h2] at hi'; exact Option.some.inj hi'
          subst this
          refine ⟨k, σ0[k], s, List.getElem?_eq_getElem hkσ, h1, by rw [← (slot_ren_flags h3).1]; exact ho, ?_⟩
          simpa only [inEnv, List.getElem?_eq_getElem hkσ] using hb
        | n k => simp [Heap.get] at hi
        | g k => rw [hR.gown k s' hi] at ho; cases ho
      have touchRest : ∀ i s, i ∉ σ0 → H.get C i = some s → s.held = true → ∀ b ∈ (E i).blks, w'.heap[b]? = w.heap[b]? := by
        intro i s hi hs ht b hb
        refine hst.touch.block b (hR.own i s hs ht b hb) (fun ho => ?_)
        obtain ⟨k, j, t, hk, hj, hto, hbt⟩ := ownIn b ho
        exact hR.apart j i t s hj hs hto (fun e => hi (by rw [← e]; exact List.mem_of_getElem? hk)) ht b hbt hb
      -- a held slot of the call's part: owned or what it was
      have fromIn : ∀ x s1, H1.get C x = some s1 → isG x = false → s1.held = true → ∀ b ∈ (E1' x).blks, (∃ (k : Nat) (i : Id) (s : Slot), x = .o k ∧ σ0[k]? = some i ∧ H.get C i = some s ∧ s.held = true ∧ s.owned = s1.owned ∧ b ∈ (E i).blks) ∨ (s1.owned = true ∧ Owned C E1' H1 b ∧ ¬ x.ok O1.length 0) := by
        intro x s1 hx hxg ht b hb
        by_cases hok : x.ok O1.length 0
        · left
          cases x with
          | o k =>
            have hk : k < O1.length := hok
            have hkσ : k < σ0.length := by omega
            obtain ⟨s2, h1, h2, h3⟩ := hst.keep (.o k) s1 hok hx ht
            obtain ⟨s, s3, g1, g2, g3⟩ := hat k σ0[k] (List.getElem?_eq_getElem hkσ)
            have : s3 = s2 := by
              have hi' : O1[k]? = some s2 := h1
              rw [g2] at hi'; exact Option.some.inj hi'
            subst this
            have hfl := slot_ren_flags g3
            refine ⟨k, σ0[k], s, rfl, List.getElem?_eq_getElem hkσ, g1, by rw [← hfl.2]; exact h2, by rw [← hfl.1]; exact h3, ?_⟩
            rw [hst.agree (.o k) hok] at hb
            simpa only [inEnv, List.getElem?_eq_getElem hkσ] using hb
          | n k => simp [Id.ok] at hok
          | g k => simp [isG] at hxg
        · right
          have := hst.newown x s1 hok hx ht
          exact ⟨this, ⟨x, s1, hx, this, hb⟩, hok⟩
      refine ⟨outEnv E E1' τ H.n.length, ⟨⟨?_, ?_, ?_, ?_, hR.gown, ?_⟩, hagree, hlo, by rw [hln]; omega, ?_, ?_, ?_, ?_⟩, ?_, ?_⟩
      · -- slots
        intro i s' hi
        rcases parts i s' hi with ⟨x, s1, hx, hxg, hren, henv, _⟩ | ⟨hni, hok, hs, henv⟩
        · rw [henv]
          exact slot_ren hm hren (hst.real.slot x s1 hx)
        · rw [henv]
          by_cases ht : s'.held = true
          · exact Slot.real_keep (hR.slot i s' hs) (touchRest i s' hni hs ht) (hR.wf i s' hs) hagree
          · exact not_held_real (by simpa using ht)
      · intro i s' hi
        rw [hlo, hln]
        rcases parts i s' hi with ⟨x, s1, hx, hxg, hren, henv, _⟩ | ⟨hni, hok, hs, henv⟩
        · exact slot_ren_wf hmok (hst.real.wf x s1 hx) hren
        · exact Slot.wf_mono (hR.wf i s' hs) (Nat.le_refl _) (by omega)
      · intro i s' hi ht b hb
        rcases parts i s' hi with ⟨x, s1, hx, hxg, hren, henv, _⟩ | ⟨hni, hok, hs, henv⟩
        · rw [henv] at hb
          exact hst.real.own x s1 hx (by rw [← (slot_ren_flags hren).2]; exact ht) b hb
        · rw [henv] at hb
          exact Nat.lt_of_lt_of_le (hR.own i s' hs ht b hb) hst.touch.size
      · intro i j s' t' hi hj ho hne ht b hb hb'
        rcases parts i s' hi with ⟨x, s1, hx, hxg, hren, henv, hpos⟩ | ⟨hni, hok, hs, henv⟩
        · rw [henv] at hb
          have ho1 : s1.owned = true := by rw [← (slot_ren_flags hren).1]; exact ho
          rcases parts j t' hj with ⟨y, t1, hy, hyg, hrent, henvt, hpost⟩ | ⟨hnj, hokj, hsj, henvj⟩
          · rw [henvt] at hb'
            refine hst.real.apart x y s1 t1 hx hy ho1 (fun e => hne (inj i j x hpos (e ▸ hpost))) (by rw [← (slot_ren_flags hrent).2]; exact ht) b hb hb'
          · rw [henvj] at hb'
            have hlt := hR.own j t' hsj ht b hb'
            rcases fromIn x s1 hx hxg (owned_held ho1) b hb with ⟨k, i0, s, rfl, hk, hsk, hsh, hso, hbk⟩ | ⟨_, how, hnok⟩
            · exact hR.apart i0 j s t' hsk hsj (by rw [hso]; exact ho1) (fun e => hnj (by rw [← e]; exact List.mem_of_getElem? hk)) ht b hbk hb'
            · rcases hst.fresh b how with h1 | h1
              · obtain ⟨k, i0, s, hk, hsk, hso, hbk⟩ := ownIn b h1
                exact hR.apart i0 j s t' hsk hsj hso (fun e => hnj (by rw [← e]; exact List.mem_of_getElem? hk)) ht b hbk hb'
              · omega
        · rw [henv] at hb
          have hlt := hR.own i s' hs (owned_held ho) b hb
          rcases parts j t' hj with ⟨y, t1, hy, hyg, hrent, henvt, hpost⟩ | ⟨hnj, hokj, hsj, henvj⟩
          · rw [henvt] at hb'
            have ht1 : t1.held = true := by rw [← (slot_ren_flags hrent).2]; exact ht
            rcases fromIn y t1 hy hyg ht1 b hb' with ⟨k, i0, s, rfl, hk, hsk, hsh, hso, hbk⟩ | ⟨hto, how, hnok⟩
            · exact hR.apart i i0 s' s hs hsk ho (fun e => hni (by rw [e]; exact List.mem_of_getElem? hk)) hsh b hb hbk
            · rcases hst.fresh b how with h1 | h1
              · obtain ⟨k, i0, s, hk, hsk, hso, hbk⟩ := ownIn b h1
                exact hR.apart i i0 s' s hs hsk ho (fun e => hni (by rw [e]; exact List.mem_of_getElem? hk)) (owned_held hso) b hb hbk
              · omega
          · rw [henvj] at hb'
            exact hR.apart i j s' t' hs hsj ho hne ht b hb hb'
      · intro k
        rw [hagree (.g k) trivial]
        exact hR.glob k
      · -- touch
        refine ⟨hst.touch.os, hst.touch.tape, hst.touch.output, hst.touch.size, fun b hb hF => hst.touch.block b hb (fun ho => hF ?_)⟩
        obtain ⟨k, i0, s, hk, hsk, hso, hbk⟩ := ownIn b ho
        exact ⟨i0, s, hsk, hso, hbk⟩
      · -- fresh
        rintro b ⟨i, s', hi, ho, hb⟩
        rcases parts i s' hi with ⟨x, s1, hx, hxg, hren, henv, hpos⟩ | ⟨hni, hok, hs, henv⟩
        · rw [henv] at hb
          rcases hst.fresh b ⟨x, s1, hx, by rw [← (slot_ren_flags hren).1]; exact ho, hb⟩ with h1 | h1
          · obtain ⟨k, i0, s, hk, hsk, hso, hbk⟩ := ownIn b h1
            exact .inl ⟨i0, s, hsk, hso, hbk⟩
          · exact .inr h1
        · rw [henv] at hb
          exact .inl ⟨i, s', hs, ho, hb⟩
      · -- keep
        intro i s' hok hi ht
        rcases parts i s' hi with ⟨x, s1, hx, hxg, hren, henv, hpos⟩ | ⟨hni, hok', hs, henv⟩
        · rcases hpos with ⟨hmem, k, rfl, hk⟩ | ⟨hnok, _⟩
          · have hk1 : k < O1.length := by rw [hlen]; exact (List.getElem?_eq_some_iff.1 hk).1
            have hfl := slot_ren_flags hren
            obtain ⟨s2, h1, h2, h3⟩ := hst.keep (.o k) s1 hk1 hx (by rw [← hfl.2]; exact ht)
            obtain ⟨s, s3, g1, g2, g3⟩ := hat k i hk
            have : s3 = s2 := by
              have hi' : O1[k]? = some s2 := h1
              rw [g2] at hi'; exact Option.some.inj hi'
            subst this
            have hfl2 := slot_ren_flags g3
            exact ⟨s, g1, by rw [← hfl2.2]; exact h2, by rw [← hfl2.1, h3, hfl.1]⟩
          · exact absurd hok hnok
        · exact ⟨s', hs, ht, rfl⟩
      · -- new ones are owned
        intro i s' hnok hi ht
        rcases parts i s' hi with ⟨x, s1, hx, hxg, hren, henv, hpos⟩ | ⟨hni, hok', hs, henv⟩
        · have hfl := slot_ren_flags hren
          rcases hpos with ⟨hmem, _⟩ | ⟨_, q, rfl, hq⟩
          · exact absurd (hσok i hmem).2 hnok
          · rw [hfl.1]
            have hN := hτN x (List.mem_of_getElem? hq)
            refine hst.newown x s1 ?_ hx (by rw [← hfl.2]; exact ht)
            cases x <;> simp [isN] at hN
            simp [Id.ok]
        · exact absurd hok' hnok
      · rw [hlo, hln]
        exact ren_wf hmok r1 r hrw hr
      · rw [ren_conc hm r1 r hr]
    · cases h'
  · cases h

end Eng

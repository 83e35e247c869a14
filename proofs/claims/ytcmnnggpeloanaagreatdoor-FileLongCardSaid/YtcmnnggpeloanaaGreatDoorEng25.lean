/- The engine, part 25: code, bodies, functions. -/
import Derived.Test.YtcmnnggpeloanaaGreatDoorEng24
import Derived.Scope
namespace Eng
open Go

def exitOf : X → Exit
  | .normal => .normal
  | .exit id => .exit id
  | .goto l => .goto l
  | .ret => .ret

section
variable {C : Ctx} {F : Fns} {K : Nat → Option Live}

theorem eval_rel {E : Env} {H : Heap} {w : World} {fr : List AV} {a : Act} (hR : Real C w E H) (hrel : Rel E H fr a) (q : Operand) (hj : ev fr q ≠ .junk) : a.eval q = conc E (ev fr q) := by
  cases q with
  | tmp t =>
    show a.tmps.getD t undef = conc E (fr.getD t U)
    by_cases hlt : t < fr.length
    · have h2 := (hrel.tmps t hlt).2.resolve_left hj
      simp only [Array.getD_eq_getD_getElem?, h2, Option.getD_some]
    · have h1 : fr[t]? = none := List.getElem?_eq_none (Nat.not_lt.1 hlt)
      have h2 : a.tmps[t]? = none := Array.getElem?_eq_none (by rw [hrel.size]; exact Nat.not_lt.1 hlt)
      simp only [List.getD_eq_getElem?_getD, h1, Option.getD_none, Array.getD_eq_getD_getElem?, h2, conc]
  | const v => rfl
  | global g =>
    show Value.pointer (some ⟨g, 0, none⟩) = conc E (.ptr (.g g) 0)
    have := hR.glob g
    simp [conc, Env.blk, this]
  | func f => rfl

theorem step_drawn {E : Env} {H : Heap} {w : World} {n : Nat} (hR : Real C w E H) : Step C E H w E H { w with drawn := n } :=
  ⟨hR.drawn, fun _ _ => rfl, rfl, Nat.le_refl _, ⟨rfl, rfl, rfl, Nat.le_refl _, fun _ _ _ => rfl⟩, fun _ hb => .inl hb, fun _ s' _ h1 h2 => ⟨s', h1, h2, rfl⟩, fun i s' h1 h2 _ => absurd (get_ok h2) h1⟩

/-! ### what is known may be forgotten -/
mutual
theorem fg_conc (E : Env) : ∀ a : AV, conc E a.fg = conc E a
  | .v _ _ => rfl
  | .arr _ _ _ => rfl
  | .agg cs => by simp only [AV.fg, conc, fgL_conc E cs]
  | .tup vs => by simp only [AV.fg, conc, fgL_conc E vs]
  | .ptr _ _ => rfl
  | .ap _ _ _ => rfl
  | .sl _ _ _ _ => rfl
  | .ep _ _ _ _ => rfl
  | .fn f caps => by simp only [AV.fg, conc, fgL_conc E caps]
  | .bm f caps => by simp only [AV.fg, conc, fgL_conc E caps]
  | .junk => rfl
  | .ifc t x => by simp only [AV.fg, conc, fg_conc E x]
theorem fgL_conc (E : Env) : ∀ l : List AV, concL E (fgL l) = concL E l
  | [] => rfl
  | a :: l => by simp only [fgL, concL, fg_conc E a, fgL_conc E l]
end
mutual
theorem fg_wf {no nn : Nat} : ∀ a : AV, a.fg.wf no nn ↔ a.wf no nn
  | .v _ _ => Iff.rfl
  | .arr _ _ _ => Iff.rfl
  | .agg cs => by simp only [AV.fg, AV.wf, fgL_wf cs]
  | .tup vs => by simp only [AV.fg, AV.wf, fgL_wf vs]
  | .ptr _ _ => Iff.rfl
  | .ap _ _ _ => Iff.rfl
  | .sl _ _ _ _ => Iff.rfl
  | .ep _ _ _ _ => Iff.rfl
  | .fn f caps => by simp only [AV.fg, AV.wf, fgL_wf caps]
  | .bm f caps => by simp only [AV.fg, AV.wf, fgL_wf caps]
  | .junk => Iff.rfl
  | .ifc t x => by simp only [AV.fg, AV.wf, fg_wf x]
theorem fgL_wf {no nn : Nat} : ∀ l : List AV, AV.wfL no nn (fgL l) ↔ AV.wfL no nn l
  | [] => Iff.rfl
  | a :: l => by simp only [fgL, AV.wfL, fg_wf a, fgL_wf l]
end
theorem fg_okCell (a : AV) : okCell a.fg = okCell a := by
  cases a with
  | v x c => cases x <;> rfl
  | _ => rfl
theorem fgL_okCells : ∀ l : List AV, okCells (fgL l) = okCells l
  | [] => rfl
  | a :: l => by
    have := fgL_okCells l
    simp only [okCells] at this
    simp only [okCells, fgL, List.all_cons, fg_okCell a, this]
theorem fgL_map : ∀ l : List AV, fgL l = l.map AV.fg
  | [] => rfl
  | a :: l => by simp only [fgL, List.map_cons, fgL_map l]

theorem get_fg {H : Heap} {i : Id} {s : Slot} (h : H.fg.get C i = some s) : ∃ s0, H.get C i = some s0 ∧ (s = s0.fg ∨ s = s0) := by
  cases i with
  | o k => simp only [Heap.get, Heap.fg, List.getElem?_map, Option.map_eq_some_iff] at h ⊢; obtain ⟨s0, h1, h2⟩ := h; exact ⟨s0, h1, .inl h2.symm⟩
  | n k => simp only [Heap.get, Heap.fg, List.getElem?_map, Option.map_eq_some_iff] at h ⊢; obtain ⟨s0, h1, h2⟩ := h; exact ⟨s0, h1, .inl h2.symm⟩
  | g k => exact ⟨s, h, .inr rfl⟩
theorem get_fg_iff {H : Heap} {i : Id} {s0 : Slot} (h : H.get C i = some s0) : ∃ s, H.fg.get C i = some s := by
  cases i with
  | o k => simp only [Heap.get] at h; simp [Heap.get, Heap.fg, h]
  | n k => simp only [Heap.get] at h; simp [Heap.get, Heap.fg, h]
  | g k => exact ⟨s0, h⟩
theorem fg_slot {s0 s : Slot} (h : s = s0.fg ∨ s = s0) : s.owned = s0.owned ∧ s.held = s0.held ∧ (∀ w E en, s0.real w E en → s.real w E en) ∧ ∀ no nn, s0.wf no nn → s.wf no nn := by
  rcases h with rfl | rfl
  · cases s0 <;> simp only [Slot.fg, Slot.owned, Slot.held, true_and] <;> try exact ⟨fun _ _ _ h => h, fun _ _ h => h⟩
    refine ⟨fun w E en h => ?_, fun no nn h => ?_⟩
    · simp only [Slot.real] at h ⊢
      rw [fgL_conc]; exact h
    · exact ⟨(fgL_wf _).2 h.1, by rw [fgL_okCells]; exact h.2⟩
  · exact ⟨rfl, rfl, fun _ _ _ h => h, fun _ _ h => h⟩

theorem fg_len (H : Heap) : H.fg.o.length = H.o.length ∧ H.fg.n.length = H.n.length := by simp [Heap.fg]

theorem Real.fg {E : Env} {H : Heap} {w : World} (hR : Real C w E H) : Real C w E H.fg := by
  refine ⟨fun i s h => ?_, fun i s h => ?_, fun i s h ht b hb => ?_, fun i j s t hi hj ho hne ht b hb => ?_, hR.gown, hR.glob⟩
  · obtain ⟨s0, h0, hs⟩ := get_fg h
    exact (fg_slot hs).2.2.1 _ _ _ (hR.slot i s0 h0)
  · obtain ⟨s0, h0, hs⟩ := get_fg h
    rw [(fg_len H).1, (fg_len H).2]
    exact (fg_slot hs).2.2.2 _ _ (hR.wf i s0 h0)
  · obtain ⟨s0, h0, hs⟩ := get_fg h
    exact hR.own i s0 h0 (by rw [← (fg_slot hs).2.1]; exact ht) b hb
  · obtain ⟨s0, h0, hs⟩ := get_fg hi
    obtain ⟨t0, g0, gs⟩ := get_fg hj
    exact hR.apart i j s0 t0 h0 g0 (by rw [← (fg_slot hs).1]; exact ho) hne (by rw [← (fg_slot gs).2.1]; exact ht) b hb

theorem step_fg {E : Env} {H : Heap} {w : World} (hR : Real C w E H) : Step C E H w E H.fg w := by
  refine ⟨hR.fg, fun _ _ => rfl, (fg_len H).1, by rw [(fg_len H).2]; exact Nat.le_refl _, Touch.refl _ _, ?_, ?_, ?_⟩
  · rintro b ⟨i, s, h, ho, hb⟩
    obtain ⟨s0, h0, hs⟩ := get_fg h
    exact .inl ⟨i, s0, h0, by rw [← (fg_slot hs).1]; exact ho, hb⟩
  · intro i s' _ h ht
    obtain ⟨s0, h0, hs⟩ := get_fg h
    exact ⟨s0, h0, by rw [← (fg_slot hs).2.1]; exact ht, (fg_slot hs).1.symm⟩
  · intro i s' hn h _
    obtain ⟨s0, h0, _⟩ := get_fg h
    exact absurd (get_ok h0) hn

/-! ### loops are cleaned -/
theorem lookup_mem' {α : Type} {i : Nat} {v : α} : ∀ {l : List (Nat × α)}, l.lookup i = some v → (i, v) ∈ l
  | [], h => by simp at h
  | (k, u) :: l, h => by
    rw [List.lookup_cons] at h
    split at h
    · rename_i hk
      have : i = k := by simpa using hk
      cases h
      subst this
      exact List.mem_cons_self ..
    · exact List.mem_cons_of_mem _ (lookup_mem' h)

theorem mkF_get {N t : Nat} {l : List (Nat × AV)} (h : t < N) : (mkF N l).getD t U = .junk ∨ ∃ v, (t, v) ∈ l ∧ (mkF N l).getD t U = v := by
  have e : (mkF N l).getD t U = pickF l t := by
    simp [mkF, List.getD_eq_getElem?_getD, h]
  rw [e]
  unfold pickF
  split
  · rename_i v hv
    exact .inr ⟨v, lookup_mem' hv, rfl⟩
  · exact .inl rfl

theorem ren_junk {m : Id → Option Id} {a b : AV} (h : AV.ren m a = some b) : a = .junk → b = .junk := by
  rintro rfl
  simp only [AV.ren, Option.some.injEq] at h
  exact h.symm
theorem fg_junk {a : AV} : a = .junk → a.fg = .junk := by rintro rfl; rfl

/-- what is renamed, place by place -/
theorem renL_zip {m : Id → Option Id} {f : Nat → AV} : ∀ (live : List Nat) (vs : List AV), renL m (fgL (live.map f)) = some vs → ∀ t v, (t, v) ∈ live.zip vs → AV.ren m (f t).fg = some v
  | [], vs, h, t, v, hm => by simp at hm
  | a :: live, vs, h, t, v, hm => by
    simp only [List.map_cons, fgL] at h
    unfold renL at h
    split at h
    · rename_i x xs hx hxs
      cases h
      simp only [List.zip_cons_cons, List.mem_cons, Prod.mk.injEq] at hm
      rcases hm with ⟨rfl, rfl⟩ | hm
      · exact hx
      · exact renL_zip live xs hxs t v hm
    · cases h

def backE (τ : List Id) : Id → Option Id
  | .n k => τ[k]?
  | i => some i

def gcEnv (E : Env) (τ : List Id) : Env := fun i =>
  match i with
  | .n k => match τ[k]? with
    | some t => E t
    | none => ⟨[], 0, 0⟩
  | i => E i

set_option maxHeartbeats 4000000 in
theorem clean0_sound (hG : C.Good) {E0 E : Env} {H0 H H' : Heap} {w0 w : World} {live : List Nat} {fr fr' : List AV} {a : Act} (hn : H0.n = []) (hO : Step C E0 H0 w0 E H w) (hrel : Rel E H fr a)
    (h : (clean0 C live fr H).run = some (fr', H')) : ∃ E', Step C E0 H0 w0 E' H' w ∧ Rel E' H' fr' a := by
  have hO1 := hO.trans (step_fg hO.real)
  have hR1 := hO1.real
  unfold clean0 at h
  obtain ⟨⟨vs', H2⟩, hc, h⟩ := T.bind_some h
  have := leaf_some h
  simp only [Prod.mk.injEq] at this
  obtain ⟨rfl, rfl⟩ := this
  clear h
  unfold cleanL0 at hc
  simp only at hc
  generalize hHf : H.fg = H1 at hc hO1 hR1
  have hl1 : H1.o.length = H.o.length ∧ H1.n.length = H.n.length := by rw [← hHf]; exact fg_len H
  generalize hτ : (reach C H1 fuelR (idsL (fgL (live.map fun t => fr.getD t (.v undef true))) ++ (H1.o.map Slot.ids).flatten) []).filter isN = τ at hc
  have hτn : τ.Nodup := by
    rw [← hτ]
    exact (reach_inv fuelR _ [] List.nodup_nil (fun i hi => by simp at hi)).1.filter _
  have hτN : ∀ i ∈ τ, isN i = true := by intro i hi; rw [← hτ] at hi; exact (List.mem_filter.1 hi).2
  split at hc
  · rename_i vs Os Ns hvs hOs hNs
    have := leaf_some hc
    simp only [Prod.mk.injEq] at this
    obtain ⟨rfl, rfl⟩ := this
    rw [Option.bind_eq_some_iff] at hNs
    obtain ⟨ns, hns, hNs⟩ := hNs
    obtain ⟨q1, q2⟩ := renSlots_some H1.o Os hOs
    obtain ⟨n1, n2⟩ := getAll_some τ ns hns
    obtain ⟨m1, m2⟩ := renSlots_some ns Ns hNs
    have hNlen : Ns.length = τ.length := m1.trans n1
    have hm : ∀ i j, gcM H1.o.length τ i = some j → gcEnv E τ j = E i := by
      intro i j hij
      cases i with
      | o k =>
        simp only [gcM] at hij
        split at hij
        · cases hij; rfl
        · cases hij
      | g k => simp only [gcM, Option.some.injEq] at hij; subst hij; rfl
      | n k =>
        simp only [gcM, Option.map_eq_some_iff] at hij
        obtain ⟨q, hq, rfl⟩ := hij
        simp only [gcEnv, idx_some hq]
    have hmok : ∀ i j, gcM H1.o.length τ i = some j → j.ok Os.length Ns.length := by
      intro i j hij
      cases i with
      | o k =>
        simp only [gcM] at hij
        split at hij
        · rename_i hk _; cases hij; show k < Os.length; rw [q1]; exact hk
        · cases hij
      | g k => simp only [gcM, Option.some.injEq] at hij; subst hij; trivial
      | n k =>
        simp only [gcM, Option.map_eq_some_iff] at hij
        obtain ⟨q, hq, rfl⟩ := hij
        have := (List.getElem?_eq_some_iff.1 (idx_some hq)).1
        show q < Ns.length
        omega
    -- what each name holds
    have parts : ∀ i s', (Heap.mk Os Ns).get C i = some s' → ∃ x s1, H1.get C x = some s1 ∧ s'.owned = s1.owned ∧ s'.held = s1.held ∧ gcEnv E τ i = E x ∧ backE τ i = some x ∧
        s'.real w (gcEnv E τ) (gcEnv E τ i) ∧ s'.wf Os.length Ns.length := by
      intro i s' hi
      cases i with
      | o k =>
        obtain ⟨s1, hs1, hren⟩ := q2 k s' hi
        have hfl := slot_ren_flags hren
        exact ⟨.o k, s1, hs1, hfl.1, hfl.2, rfl, rfl, slot_ren hm hren (hR1.slot (.o k) s1 hs1), slot_ren_wf hmok (hR1.wf (.o k) s1 hs1) hren⟩
      | n k =>
        obtain ⟨s0, hs0, hren⟩ := m2 k s' hi
        have hk : k < τ.length := by rw [← n1]; exact (List.getElem?_eq_some_iff.1 hs0).1
        obtain ⟨s1, hs1, hget⟩ := n2 k τ[k] (List.getElem?_eq_getElem hk)
        rw [hs0] at hs1; cases hs1
        have hfl := slot_ren_flags hren
        have e : gcEnv E τ (.n k) = E τ[k] := by simp only [gcEnv, List.getElem?_eq_getElem hk]
        exact ⟨τ[k], s0, hget, hfl.1, hfl.2, e, List.getElem?_eq_getElem hk, by rw [e]; exact slot_ren hm hren (hR1.slot _ s0 hget), slot_ren_wf hmok (hR1.wf _ s0 hget) hren⟩
      | g k =>
        have hgo := hR1.gown k s' hi
        refine ⟨.g k, s', hi, rfl, rfl, rfl, rfl, ?_, ?_⟩
        · exact Slot.real_keep (no := 0) (nn := 0) (hR1.slot (.g k) s' hi) (fun _ _ => rfl) (hG.glob k s' hi).1 (fun i hi => by cases i <;> first | rfl | (simp [Id.ok] at hi))
        · exact Slot.wf_mono (hG.glob k s' hi).1 (Nat.zero_le _) (Nat.zero_le _)
    have inj : ∀ i j x, backE τ i = some x → backE τ j = some x → i = j := by
      intro i j x hi hj
      have no : ∀ k (y : Id), τ[k]? = some y → isN y = true := fun k y hy => hτN y (List.mem_of_getElem? hy)
      cases i with
      | n k =>
        have hx := no k x hi
        cases j with
        | n l =>
          simp only [backE] at hi hj
          have := (List.getElem?_inj (List.getElem?_eq_some_iff.1 hi).1 hτn).1 (hi.trans hj.symm)
          rw [this]
        | o l => simp only [backE, Option.some.injEq] at hj; rw [← hj] at hx; cases hx
        | g l => simp only [backE, Option.some.injEq] at hj; rw [← hj] at hx; cases hx
      | o k =>
        simp only [backE, Option.some.injEq] at hi
        cases j with
        | n l => have hx := no l x hj; rw [← hi] at hx; cases hx
        | o l => simp only [backE, Option.some.injEq] at hj; rw [hi, hj]
        | g l => simp only [backE, Option.some.injEq] at hj; rw [hi, hj]
      | g k =>
        simp only [backE, Option.some.injEq] at hi
        cases j with
        | n l => have hx := no l x hj; rw [← hi] at hx; cases hx
        | o l => simp only [backE, Option.some.injEq] at hj; rw [hi, hj]
        | g l => simp only [backE, Option.some.injEq] at hj; rw [hi, hj]
    refine ⟨gcEnv E τ, ⟨⟨?_, ?_, ?_, ?_, hR1.gown, ?_⟩, ?_, ?_, ?_, hO1.touch, ?_, ?_, ?_⟩, ⟨?_, hrel.defers, ?_⟩⟩
    · intro i s' hi
      obtain ⟨x, s1, _, _, _, _, _, h6, _⟩ := parts i s' hi
      exact h6
    · intro i s' hi
      obtain ⟨x, s1, _, _, _, _, _, _, h7⟩ := parts i s' hi
      exact h7
    · intro i s' hi ht b hb
      obtain ⟨x, s1, h1, h2, h3, h4, _⟩ := parts i s' hi
      rw [h4] at hb
      exact hR1.own x s1 h1 (by rw [← h3]; exact ht) b hb
    · intro i j s' t' hi hj ho hne ht b hb hb'
      obtain ⟨x, s1, h1, h2, h3, h4, h5, _⟩ := parts i s' hi
      obtain ⟨y, t1, g1, g2, g3, g4, g5, _⟩ := parts j t' hj
      rw [h4] at hb
      rw [g4] at hb'
      exact hR1.apart x y s1 t1 h1 g1 (by rw [← h2]; exact ho) (fun e => hne (inj i j x h5 (e ▸ g5))) (by rw [← g3]; exact ht) b hb hb'
    · intro k; exact hR1.glob k
    · intro i hi
      cases i with
      | n k => rw [hn] at hi; simp [Id.ok] at hi
      | o k => exact hO1.agree (.o k) hi
      | g k => exact hO1.agree (.g k) trivial
    · show Os.length = H0.o.length
      rw [q1]; exact hO1.olen
    · rw [hn]; exact Nat.zero_le _
    · rintro b ⟨i, s', hi, ho, hb⟩
      obtain ⟨x, s1, h1, h2, h3, h4, _⟩ := parts i s' hi
      rw [h4] at hb
      exact hO1.fresh b ⟨x, s1, h1, by rw [← h2]; exact ho, hb⟩
    · intro i s' hok hi ht
      obtain ⟨x, s1, h1, h2, h3, h4, h5, _⟩ := parts i s' hi
      cases i with
      | n k => rw [hn] at hok; simp [Id.ok] at hok
      | o k =>
        simp only [backE, Option.some.injEq] at h5
        subst h5
        obtain ⟨s2, a1, a2, a3⟩ := hO1.keep (.o k) s1 hok h1 (by rw [← h3]; exact ht)
        exact ⟨s2, a1, a2, by rw [h2]; exact a3⟩
      | g k =>
        simp only [backE, Option.some.injEq] at h5
        subst h5
        obtain ⟨s2, a1, a2, a3⟩ := hO1.keep (.g k) s1 trivial h1 (by rw [← h3]; exact ht)
        exact ⟨s2, a1, a2, by rw [h2]; exact a3⟩
    · intro i s' hok hi ht
      obtain ⟨x, s1, h1, h2, h3, h4, h5, _⟩ := parts i s' hi
      rw [h2]
      refine hO1.newown x s1 ?_ h1 (by rw [← h3]; exact ht)
      cases i with
      | n k =>
        have := hτN x (List.mem_of_getElem? h5)
        cases x with
        | n l => rw [hn]; simp [Id.ok]
        | o l => cases this
        | g l => cases this
      | o k =>
        simp only [backE, Option.some.injEq] at h5
        subst h5
        exact hok
      | g k => exact absurd trivial hok
    · rw [hrel.size]; simp [mkF]
    · intro t ht
      have htN : t < fr.length := by simpa [mkF] using ht
      rcases mkF_get (l := live.zip vs') htN with e | ⟨v, hv, e⟩
      · rw [e]; exact ⟨trivial, .inl rfl⟩
      · rw [e]
        have hren := renL_zip (f := fun t => fr.getD t U) live vs' hvs t v hv
        have hold := hrel.tmps t htN
        refine ⟨ren_wf hmok _ _ ((fg_wf _).2 hold.1) hren, hold.2.imp (fun hj => ren_junk hren (fg_junk hj)) (fun hc => ?_)⟩
        rw [ren_conc hm _ _ hren, fg_conc]; exact hc
  · cases hc

theorem set_getD {l : List AV} {t k : Nat} {v : AV} (hk : k < l.length) : (l.set t v).getD k U = if t = k then v else l.getD k U := by
  rw [List.getD_eq_getElem?_getD, List.getElem?_set]
  split
  · rename_i h; subst h
    simp only [List.getD_eq_getElem?_getD, hk, if_true, Option.getD_some]
  · rw [List.getD_eq_getElem?_getD]

theorem weakF_sound {E0 : Env} {H0 : Heap} {w0 w : World} {a : Act} : ∀ (nils : List (Nat × TypeId)) {E : Env} {H : Heap} {fr : List AV}, Step C E0 H0 w0 E H w → Rel E H fr a →
    ∃ E', Step C E0 H0 w0 E' (weakF C.P nils fr H).2 w ∧ Rel E' (weakF C.P nils fr H).2 (weakF C.P nils fr H).1 a
  | [], E, H, fr, hO, hrel => ⟨E, hO, hrel⟩
  | (t, e) :: nils, E, H, fr, hO, hrel => by
    unfold weakF
    split
    · rename_i c r hv hr
      obtain ⟨E1, hs, hcn⟩ := step_nil0 hO.real (r := r) (t := e) (emptyRow_len hr)
      refine weakF_sound nils (hO.trans hs) ⟨by rw [hrel.size, List.length_set], hrel.defers, fun k hk => ?_⟩
      rw [List.length_set] at hk
      have hold := hrel.tmps k hk
      rw [set_getD hk]
      split
      · rename_i htk; subst htk
        have h2 := hold.2
        rw [hv] at h2
        refine ⟨by simp [AV.wf, newSlot, Id.ok, Heap.add], .inr ?_⟩
        rw [hcn]
        exact h2.resolve_left (by simp)
      · obtain ⟨h1, h2⟩ := wf_step hs hold.1
        exact ⟨h1, hold.2.imp id (fun h => by rw [h2]; exact h)⟩
    · exact weakF_sound nils hO hrel

theorem clean_sound (hG : C.Good) {E0 E : Env} {H0 H H' : Heap} {w0 w : World} {live : Live} {fr fr' : List AV} {a : Act} (hn : H0.n = []) (hO : Step C E0 H0 w0 E H w) (hrel : Rel E H fr a)
    (h : (clean C live fr H).run = some (fr', H')) : ∃ E', Step C E0 H0 w0 E' H' w ∧ Rel E' H' fr' a := by
  obtain ⟨E1, h1, h2⟩ := weakF_sound (C := C) live.nils hO hrel
  exact clean0_sound hG hn h1 h2 h

/-- what is left to do once the code of an item is done -/
def ExecOk (C : Ctx) (F : Fns) (K : Nat → Option Live) (n : Nat) : Prop :=
  ∀ (E0 : Env) (H0 : Heap) (w0 : World), H0.n = [] → ∀ (c : Code) (E : Env) (H : Heap) (w : World) (fr : List AV) (a : Act) (x : X) (fr' : List AV) (H' : Heap) (Q : Exit → Act → World → Prop), Step C E0 H0 w0 E H w → Rel E H fr a →
    (exec C F K n c fr H).run = some (x, fr', H') → (∀ E' a' w', Step C E0 H0 w0 E' H' w' → Rel E' H' fr' a' → Q (exitOf x) a' w') → c.wp C.P Q a w

theorem loop_arrives (hG : C.Good) (n : Nat) (hx : ∀ m, m < n → ExecOk C F K m) (E0 : Env) (H0 : Heap) (w0 : World) (hn : H0.n = []) : ∀ m, m ≤ n → ∀ (c : Code) (E : Env) (H : Heap) (w : World) (fr : List AV) (a : Act) (x : X) (fr' : List AV) (H' : Heap) (Q : Exit → Act → World → Prop), Step C E0 H0 w0 E H w → Rel E H fr a →
    (exec C F K m (.loop c) fr H).run = some (x, fr', H') → (∀ E' a' w', Step C E0 H0 w0 E' H' w' → Rel E' H' fr' a' → Q (exitOf x) a' w') →
    ∀ (b : Frame) (k : List Item) (cs : List Frame), ∃ e a' w', Q e a' w' ∧ Arrives C.P (lone (b.at a (.code c :: .inLoop c :: k)) cs w) b k cs e a' w' := by
  intro m
  induction m with
  | zero => intro hm c E H w fr a x fr' H' Q hO hrel h; cases h
  | succ m ih =>
    intro hm c E H w fr a x fr' H' Q hO hrel h hQ b k cs
    -- a round, and what is done with its end
    have fin : ∀ (x1 : X) (fr1 : List AV) (H1 : Heap), c.wp C.P (fun e a' w' => ∃ E', e = exitOf x1 ∧ Step C E0 H0 w0 E' H1 w' ∧ Rel E' H1 fr1 a') a w →
        (x1 = .normal → (exec C F K m (.loop c) fr1 H1).run = some (x, fr', H')) → (x1 ≠ .normal → x = x1 ∧ ∀ E' a' w', Step C E0 H0 w0 E' H1 w' → Rel E' H1 fr1 a' → Q (exitOf x1) a' w') →
        ∃ e a' w', Q e a' w' ∧ Arrives C.P (lone (b.at a (.code c :: .inLoop c :: k)) cs w) b k cs e a' w' := by
      intro x1 fr1 H1 round hnorm hother
      obtain ⟨e, a1, w1, ⟨E1, he, hst, hr⟩, harr⟩ := round b (.inLoop c :: k) cs
      subst he
      cases x1 with
      | normal =>
        obtain ⟨e2, a2, w2, hq2, harr2⟩ := ih (by omega) c E1 H1 w1 fr1 a1 x fr' H' Q hst hr (hnorm rfl) hQ b k cs
        exact ⟨e2, a2, w2, hq2, .of_steps (Steps.trans harr (.one step_inLoop)) harr2⟩
      | exit id => exact ⟨_, a1, w1, (hother (by simp)).2 _ _ _ hst hr, .pass (x := .inLoop c) rfl (fun _ _ => .inl (by simp [exitOf])) harr⟩
      | goto l => exact ⟨_, a1, w1, (hother (by simp)).2 _ _ _ hst hr, .pass (x := .inLoop c) rfl (fun _ _ => .inl (by simp [exitOf])) harr⟩
      | ret => exact ⟨_, a1, w1, (hother (by simp)).2 _ _ _ hst hr, .pass (x := .inLoop c) rfl (fun _ _ => .inl (by simp [exitOf])) harr⟩
    unfold exec at h
    simp only at h
    split at h
    · obtain ⟨⟨x1, fr1, H1⟩, h1, h⟩ := T.bind_some h
      refine fin x1 fr1 H1 (hx m (by omega) E0 H0 w0 hn c E H w fr a x1 fr1 H1 _ hO hrel h1 (fun E' a' w' s r => ⟨E', rfl, s, r⟩)) ?_ ?_
      · rintro rfl; exact h
      · intro hne
        cases x1 with
        | normal => exact absurd rfl hne
        | _ => have := leaf_some h; simp only [Prod.mk.injEq] at this; obtain ⟨rfl, rfl, rfl⟩ := this; exact ⟨rfl, hQ⟩
    · rename_i live hk
      obtain ⟨⟨frc, Hc⟩, hc, h⟩ := T.bind_some h
      obtain ⟨Ec, hOc, hrelc⟩ := clean_sound hG hn hO hrel hc
      obtain ⟨⟨x1, fr1, H1⟩, h1, h⟩ := T.bind_some h
      refine fin x1 fr1 H1 (hx m (by omega) E0 H0 w0 hn c Ec Hc w frc a x1 fr1 H1 _ hOc hrelc h1 (fun E' a' w' s r => ⟨E', rfl, s, r⟩)) ?_ ?_
      · rintro rfl; exact h
      · intro hne
        have out : ∀ (e : X), ((clean C live fr1 H1).bind fun z => .leaf (e, z.1, z.2)).run = some (x, fr', H') → e = x1 → x = x1 ∧ ∀ E' a' w', Step C E0 H0 w0 E' H1 w' → Rel E' H1 fr1 a' → Q (exitOf x1) a' w' := by
          intro e h5 he5
          subst he5
          obtain ⟨⟨f2, G2⟩, h2, h6⟩ := T.bind_some h5
          have := leaf_some h6; simp only [Prod.mk.injEq] at this; obtain ⟨rfl, rfl, rfl⟩ := this
          refine ⟨rfl, fun E' a' w' s r => ?_⟩
          obtain ⟨E2, s2, r2⟩ := clean_sound hG hn s r h2
          exact hQ _ _ _ s2 r2
        cases x1 with
        | normal => exact absurd rfl hne
        | exit id => exact out _ h rfl
        | goto l => exact out _ h rfl
        | ret => exact out _ h rfl

/-- the jumps of a scope -/
theorem scope_jumps (E0 : Env) (H0 : Heap) (w0 : World) (hn : H0.n = []) (n : Nat) (hx : ExecOk C F K n) {c : Code} {b : Frame} {k : List Item} {cs : List Frame} : ∀ m (E : Env) (H : Heap) (w : World) (m0 : Machine) (a : Act) (x1 : X) (fr1 : List AV) (x : X) (fr' : List AV) (H' : Heap) (Q : Exit → Act → World → Prop),
    Step C E0 H0 w0 E H w → Rel E H fr1 a → (jumpN (exec C F K n) m c (x1, fr1, H)).run = some (x, fr', H') → Arrives C.P m0 b (.inScope c :: k) cs (exitOf x1) a w →
    (∀ E' a' w', Step C E0 H0 w0 E' H' w' → Rel E' H' fr' a' → Q (exitOf x) a' w') → ∃ e a' w', Q e a' w' ∧ Arrives C.P m0 b k cs e a' w' := by
  intro m
  induction m with
  | zero => intro E H w m0 a x1 fr1 x fr' H' Q hO hrel h; cases h
  | succ m ih =>
    intro E H w m0 a x1 fr1 x fr' H' Q hO hrel h harr hQ
    unfold jumpN at h
    simp only at h
    cases x1 with
    | normal =>
      have := leaf_some h; simp only [Prod.mk.injEq] at this; obtain ⟨rfl, rfl, rfl⟩ := this
      exact ⟨_, a, w, hQ _ _ _ hO hrel, Steps.trans harr (.one step_inScope)⟩
    | exit id =>
      have := leaf_some h; simp only [Prod.mk.injEq] at this; obtain ⟨rfl, rfl, rfl⟩ := this
      exact ⟨_, a, w, hQ _ _ _ hO hrel, fun k' hk => harr k' (by simp [exitTo, hk])⟩
    | ret =>
      have := leaf_some h; simp only [Prod.mk.injEq] at this; obtain ⟨rfl, rfl, rfl⟩ := this
      exact ⟨_, a, w, hQ _ _ _ hO hrel, harr⟩
    | goto l =>
      simp only at h
      split at h
      · rename_i rest hf
        have hg : gotoIn l (.inScope c :: k) = some (.code rest :: .inScope c :: k) := by simp [gotoIn, hf]
        obtain ⟨⟨x2, fr2, H2⟩, h1, h⟩ := T.bind_some h
        have pass := hx E0 H0 w0 hn rest E H w fr1 a x2 fr2 H2 (fun e a' w' => ∃ E', e = exitOf x2 ∧ Step C E0 H0 w0 E' H2 w' ∧ Rel E' H2 fr2 a') hO hrel h1 (fun E' a' w' s r => ⟨E', rfl, s, r⟩)
        obtain ⟨e, a2, w2, ⟨E2, he, hst, hr⟩, harr2⟩ := pass b (.inScope c :: k) cs
        subst he
        exact ih E2 H2 w2 m0 a2 x2 fr2 x fr' H' Q hst hr h (.of_steps (harr _ hg) harr2) hQ
      · cases h

theorem exec_sound (hG : C.Good) (hF : ∀ f, FnOk C f (F f)) (hm : C.P.follows .mixedOrders = true) : ∀ n, ExecOk C F K n := by
  intro n
  induction n using Nat.strongRecOn with
  | _ n ih =>
  intro E0 H0 w0 hn c E H w fr a x fr' H' Q hO hrel h hQ
  have hR := hO.real
  cases n with
  | zero => cases h
  | succ n =>
    have ihn := ih n (by omega) E0 H0 w0 hn
    unfold exec at h
    cases c <;> simp only at h
    case skip =>
      have := leaf_some h; simp only [Prod.mk.injEq] at this; obtain ⟨rfl, rfl, rfl⟩ := this
      exact wp_skip (hQ _ _ _ hO hrel)
    case label l =>
      have := leaf_some h; simp only [Prod.mk.injEq] at this; obtain ⟨rfl, rfl, rfl⟩ := this
      exact wp_label (hQ _ _ _ hO hrel)
    case exit id =>
      have := leaf_some h; simp only [Prod.mk.injEq] at this; obtain ⟨rfl, rfl, rfl⟩ := this
      exact wp_exit (hQ _ _ _ hO hrel)
    case goto l =>
      have := leaf_some h; simp only [Prod.mk.injEq] at this; obtain ⟨rfl, rfl, rfl⟩ := this
      exact wp_goto (hQ _ _ _ hO hrel)
    case ret =>
      have := leaf_some h; simp only [Prod.mk.injEq] at this; obtain ⟨rfl, rfl, rfl⟩ := this
      exact wp_ret (hQ _ _ _ hO hrel)
    case region id ops draw =>
      obtain ⟨⟨fr1, H1, notes⟩, h1, h⟩ := T.bind_some h
      obtain ⟨hd, h⟩ := must_some h
      have := leaf_some h; simp only [Prod.mk.injEq] at this; obtain ⟨rfl, rfl, rfl⟩ := this
      cases draw with
      | false => exact wp_region (seq_sound hG hF hR hrel h1 fun E' a' w' s r => hQ E' a' w' (hO.trans s) r)
      | true =>
        simp only [Bool.not_true, Bool.false_or] at hd
        refine wp_region_any hm (any_sound hG hF (hR.drawn) hrel h1 hd fun E' a' w' s r => hQ E' a' w' (hO.trans ((step_drawn hR).trans s)) r)
    case seq p q =>
      obtain ⟨⟨x1, fr1, H1⟩, h1, h⟩ := T.bind_some h
      refine wp_seq (ihn p E H w fr a x1 fr1 H1 _ hO hrel h1 fun E' a' w' s r => ?_)
      cases x1 with
      | normal => exact ihn q E' H1 w' fr1 a' x fr' H' Q s r h hQ
      | exit id => have := leaf_some h; simp only [Prod.mk.injEq] at this; obtain ⟨rfl, rfl, rfl⟩ := this; exact hQ _ _ _ s r
      | goto l => have := leaf_some h; simp only [Prod.mk.injEq] at this; obtain ⟨rfl, rfl, rfl⟩ := this; exact hQ _ _ _ s r
      | ret => have := leaf_some h; simp only [Prod.mk.injEq] at this; obtain ⟨rfl, rfl, rfl⟩ := this; exact hQ _ _ _ s r
    case cond q p r =>
      split at h
      · rename_i t k hq
        rw [T.run_cond] at h
        have he := eval_rel hR hrel q (by rw [hq]; simp)
        rw [hq] at he
        refine wp_cond (t := t) he ?_
        cases t with
        | true => exact ihn p E H w fr a x fr' H' Q hO hrel (by simpa using h) hQ
        | false => exact ihn r E H w fr a x fr' H' Q hO hrel (by simpa using h) hQ
      · cases h
    case block id p =>
      obtain ⟨⟨x1, fr1, H1⟩, h1, h⟩ := T.bind_some h
      refine wp_block (ihn p E H w fr a x1 fr1 H1 _ hO hrel h1 fun E' a' w' s r => ?_)
      cases x1 with
      | exit id' =>
        simp only at h
        simp only [exitOf, Exit.inBlock]
        split at h
        · rename_i hid
          rw [if_pos hid]
          have := leaf_some h; simp only [Prod.mk.injEq] at this; obtain ⟨rfl, rfl, rfl⟩ := this; exact hQ _ _ _ s r
        · rename_i hid
          rw [if_neg hid]
          have := leaf_some h; simp only [Prod.mk.injEq] at this; obtain ⟨rfl, rfl, rfl⟩ := this; exact hQ _ _ _ s r
      | normal => have := leaf_some h; simp only [Prod.mk.injEq] at this; obtain ⟨rfl, rfl, rfl⟩ := this; exact hQ _ _ _ s r
      | goto l => have := leaf_some h; simp only [Prod.mk.injEq] at this; obtain ⟨rfl, rfl, rfl⟩ := this; exact hQ _ _ _ s r
      | ret => have := leaf_some h; simp only [Prod.mk.injEq] at this; obtain ⟨rfl, rfl, rfl⟩ := this; exact hQ _ _ _ s r
    case loop p =>
      intro b k cs
      obtain ⟨e, a', w', hq, harr⟩ := loop_arrives (C := C) (F := F) (K := K) hG (n + 1) (fun m hm => ih m hm) E0 H0 w0 hn (n + 1) (Nat.le_refl _) p E H w fr a x fr' H' Q hO hrel (by unfold exec; simp only; exact h) hQ b k cs
      exact ⟨e, a', w', hq, .of_steps (.one step_loop) harr⟩
    case scope p =>
      obtain ⟨⟨x1, fr1, H1⟩, h1, h⟩ := T.bind_some h
      intro b k cs
      have first := ihn p E H w fr a x1 fr1 H1 (fun e a' w' => ∃ E', e = exitOf x1 ∧ Step C E0 H0 w0 E' H1 w' ∧ Rel E' H1 fr1 a') hO hrel h1 (fun E' a' w' s r => ⟨E', rfl, s, r⟩)
      obtain ⟨e, a1, w1, ⟨E1, he, hst, hr⟩, harr⟩ := first b (.inScope p :: k) cs
      subst he
      obtain ⟨e2, a2, w2, hq2, harr2⟩ := scope_jumps E0 H0 w0 hn n (ih n (by omega)) n E1 H1 w1 _ a1 x1 fr1 x fr' H' Q hst hr h harr hQ
      exact ⟨e2, a2, w2, hq2, .of_steps (.one step_scope) harr2⟩
    all_goals cases h

/-! ### bodies -/
def resSem (a : Act) : ResultVar → Sem Value
  | .tmp t => pure (a.tmps.getD t undef)
  | .cell b t => do Go.loadVar t (← Go.asAddr (a.tmps.getD b undef))
theorem results_eq (fn : Func) (a : Act) : results fn a.tmps = (do
    let vs ← fn.results.mapM (resSem a)
    pure (if h : vs.size = 1 then vs[0] else .tuple vs)) := by
  unfold results
  congr 1
theorem frame_val {E : Env} {H : Heap} {fr : List AV} {a : Act} (hrel : Rel E H fr a) (t : Tmp) (hj : fr.getD t U ≠ .junk) : a.tmps.getD t undef = conc E (fr.getD t U) ∧ (fr.getD t U).wf H.o.length H.n.length := by
  by_cases hlt : t < fr.length
  · have h2 := hrel.tmps t hlt
    exact ⟨by simp only [Array.getD_eq_getD_getElem?, h2.2.resolve_left hj, Option.getD_some], h2.1⟩
  · have h1 : fr[t]? = none := List.getElem?_eq_none (Nat.not_lt.1 hlt)
    have h2 : a.tmps[t]? = none := Array.getElem?_eq_none (by rw [hrel.size]; exact Nat.not_lt.1 hlt)
    simp only [List.getD_eq_getElem?_getD, h1, Option.getD_none, Array.getD_eq_getD_getElem?, h2, conc, AV.wf, and_self]

theorem loadVar_of {P : Program} {t : TypeId} {v x : Value} {w : World} (h : (do pure (Next.value (← Instr.loadAt t v)) : Sem Next).run P w = .ok (.value x) w) :
    (do Go.loadVar t (← Go.asAddr v) : Sem Value).run P w = .ok x w := by
  have no : ∀ (m : Sem Value), (do pure (Next.value (← m)) : Sem Next).run P w = .ok (.value x) w → m.run P w = .ok x w := by
    intro m h
    rw [Sem.run_bind] at h
    cases hm : m.run P w with
    | ok y w' =>
      rw [hm] at h
      simp only [Result.andThen_ok, Sem.run_pure, Result.ok.injEq, Next.value.injEq] at h
      rw [h.1, h.2]
    | halt y w' => rw [hm] at h; cases h
  have h := no _ h
  match v, h with
  | .pointer (some A), h => exact h
  | .pointer none, h => cases h
  | .bool _, h => cases h
  | .int _ _, h => cases h
  | .string _, h => cases h
  | .nilIface, h => cases h
  | .nilFunc, h => cases h
  | .float _ _, h => cases h
  | .complex _ _ _, h => cases h
  | .slice _ _ _, h => cases h
  | .map _, h => cases h
  | .chan _, h => cases h
  | .iface _ _, h => cases h
  | .func _ _ _, h => cases h
  | .agg _, h => cases h
  | .tuple _, h => cases h

theorem resVars_sound {E : Env} {H : Heap} {w : World} {fr : List AV} {a : Act} (hR : Real C w E H) (hrel : Rel E H fr a) : ∀ (l : List ResultVar) (vs : List AV), (resVars C fr H l).run = some vs →
    AV.wfL H.o.length H.n.length vs ∧ (l.mapM (m := Sem) (resSem a)).run C.P w = .ok (concL E vs) w
  | [], vs, h => by
    have := leaf_some h
    subst this
    exact ⟨trivial, by simp only [List.mapM_nil]; rfl⟩
  | r :: l, vs, h => by
    unfold resVars at h
    obtain ⟨x, hx, h⟩ := T.bind_some h
    obtain ⟨xs, hxs, h⟩ := T.bind_some h
    have := leaf_some h
    subst this
    obtain ⟨i1, i2⟩ := resVars_sound hR hrel l xs hxs
    have one : x.wf H.o.length H.n.length ∧ (resSem a r).run C.P w = .ok (conc E x) w := by
      cases r with
      | tmp t =>
        obtain ⟨hj, hx⟩ := must_some hx
        have := leaf_some hx
        subst this
        have hv := frame_val hrel t (by intro h0; rw [h0] at hj; cases hj)
        exact ⟨hv.2, by simp only [resSem, hv.1, Sem.run_pure]⟩
      | cell b t =>
        unfold resVar at hx
        simp only at hx
        have hbj : fr.getD b U ≠ .junk := by
          intro h0
          have e : loadRule C.P t AV.junk = .pure .stuck := rfl
          rw [h0, e] at hx
          cases hx
        have hv := frame_val hrel b hbj
        have hs := load_sound (m := do pure (.value (← Instr.loadAt t (conc E (fr.getD b U))))) hR t (fr.getD b U) rfl
        split at hx
        · rename_i i f hl
          rw [hl] at hs
          split at hx
          · rename_i s hsl
            obtain ⟨h1, h2⟩ := hs s x hsl hx
            refine ⟨h1, ?_⟩
            simp only [resSem, hv.1]
            exact loadVar_of h2
          · cases hx
        · cases hx
    refine ⟨⟨one.1, i1⟩, ?_⟩
    simp only [List.mapM_cons, Sem.run_bind, Sem.run_pure]
    rw [one.2]
    simp only [Result.andThen_ok]
    rw [i2]
    simp only [Result.andThen_ok, concL]

theorem body_sound (hG : C.Good) (hF : ∀ f, FnOk C f (F f)) (hm : C.P.follows .mixedOrders = true) {f : FuncId} {fn : Func} (hf : C.P.funcs[f]? = some fn) (n : Nat) (nils : List (Nat × TypeId)) : FnOk C f (body C F K n nils fn) := by
  intro args H E w r H' hHn hR hw h
  unfold body at h
  split at h
  · rename_i c hc
    obtain ⟨⟨x, fr', H1⟩, hx, h⟩ := T.bind_some h
    refine calls_of_wp hf hc ?_
    have hrel : Rel E H (args ++ List.replicate (fn.ntmps - args.length) (.v undef true)) { tmps := (concL E args).toArray ++ Array.replicate (fn.ntmps - (concL E args).toArray.size) undef, defers := [] } := by
      have hlen : (concL E args).length = args.length := by rw [concL_map]; simp
      refine ⟨by simp [hlen], rfl, fun t ht => ?_⟩
      by_cases hlt : t < args.length
      · refine ⟨?_, ?_⟩
        · rw [List.getD_eq_getElem?_getD, List.getElem?_append_left hlt, List.getElem?_eq_getElem hlt, Option.getD_some]
          exact AV.wfL_iff.1 hw _ (List.getElem_mem hlt)
        · right
          rw [Array.getElem?_append_left (by simpa [hlen] using hlt), List.getD_eq_getElem?_getD, List.getElem?_append_left hlt, List.getElem?_eq_getElem hlt]
          simp [concL_map, hlt]
      · have hge := Nat.not_lt.1 hlt
        have ht' : t - args.length < fn.ntmps - args.length := by
          simp only [List.length_append, List.length_replicate] at ht
          omega
        have e1 : (args ++ List.replicate (fn.ntmps - args.length) U).getD t U = U := by
          rw [List.getD_eq_getElem?_getD, List.getElem?_append_right hge, List.getElem?_replicate]
          split <;> rfl
        refine ⟨by rw [e1]; trivial, .inr ?_⟩
        rw [e1, Array.getElem?_append_right (by simpa [hlen] using hge)]
        simp only [List.size_toArray, hlen, conc]
        rw [Array.getElem?_replicate, if_pos ht']
    obtain ⟨E1, hO1, hrel1⟩ := weakF_sound (C := C) nils (Step.refl hR) hrel
    refine exec_sound hG hF hm n E H w hHn c E1 _ w _ _ x fr' H1 _ hO1 hrel1 hx fun E' a' w' s rel => ?_
    have fin : ∀ (r : AV) (H' : Heap), ((resVars C fr' H1 fn.results.toList).bind fun vs => .leaf (results1 vs, H1)).run = some (r, H') →
        a'.defers = [] ∧ ∃ v, (results fn a'.tmps).run C.P w' = .ok v w' ∧ ∃ E', Step C E H w E' H' w' ∧ r.wf H'.o.length H'.n.length ∧ Ending.returned v = .returned (conc E' r) := by
      intro r H' h
      obtain ⟨vs, hvs, h⟩ := T.bind_some h
      have := leaf_some h
      simp only [Prod.mk.injEq] at this
      obtain ⟨rfl, rfl⟩ := this
      obtain ⟨i1, i2⟩ := resVars_sound (C := C) s.real rel fn.results.toList vs hvs
      refine ⟨rel.defers, conc E' (results1 vs), ?_, E', s, ?_, rfl⟩
      · rw [results_eq, Sem.run_bind, Array.mapM_eq_mapM_toList, Sem.run_map, i2]
        simp only [Result.andThen_ok, Sem.run_pure]
        congr 1
        have hlen : (concL E' vs).length = vs.length := by rw [concL_map]; simp
        match vs, hlen with
        | [x], _ => simp [concL, results1]
        | [], _ => simp [concL, results1, conc]
        | x :: y :: l, _ => simp [concL, results1, conc]
      · unfold results1
        split
        · exact i1.1
        · exact i1
    cases x with
    | normal => exact fin r H' h
    | ret => exact fin r H' h
    | exit id => cases h
    | goto l => cases h
  · cases h

theorem lookup_mem {α : Type} {f : FuncId} {g : α} : ∀ (G : List (FuncId × α)), G.lookup f = some g → (f, g) ∈ G
  | [], h => by simp at h
  | (k, v) :: G, h => by
    rw [List.lookup_cons] at h
    split at h
    · rename_i hk
      cases h
      have : f = k := by simpa using hk
      subst this
      exact List.mem_cons_self ..
    · exact List.mem_cons_of_mem _ (lookup_mem G h)

theorem fns_sound (hG : C.Good) (hm : C.P.follows .mixedOrders = true) {G : List (FuncId × (List AV → Heap → T (AV × Heap)))} {tx : FuncId → Option Func} (hg : ∀ p ∈ G, FnOk C p.1 p.2)
    (ht : ∀ f fn, tx f = some fn → C.P.funcs[f]? = some fn) : ∀ n f, FnOk C f (fns C G tx n f)
  | 0, f => fun args H E w r H' _ _ _ h => by cases h
  | n + 1, f => by
    have ih := fns_sound hG hm hg ht n
    intro args H E w r H' hHn hR hw h
    unfold fns at h
    split at h
    · rename_i g hl
      exact hg (f, g) (lookup_mem G hl) args H E w r H' hHn hR hw h
    · split at h
      · rename_i fn hfn
        exact body_sound (K := fun _ => none) hG ih hm (ht f fn hfn) 1000 [] args H E w r H' hHn hR hw h
      · cases h
end

end Eng

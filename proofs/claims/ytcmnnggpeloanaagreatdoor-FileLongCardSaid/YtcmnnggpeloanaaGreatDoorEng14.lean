/- The engine, part 14: append, make, slice and struct literals, calls: the rules are sound. -/
import Derived.Test.YtcmnnggpeloanaaGreatDoorEng13
namespace Eng
open Go

variable {C : Ctx} {E : Env} {H : Heap} {w : World}

/-- a new row -/
theorem step_row (hR : Real C w E H) {r : Row} {t : TypeId} {w' : World} {cap : Nat} {xs : Array Value} {spare : List Value} (hx : xs.toList = r.cells ++ spare) (hcap : r.length ≤ cap) (hl : xs.size = cap * r.sz)
    (hw' : w'.heap = w.heap.push (.cells xs t)) (hos : w'.os = w.os) (htp : w'.tape = w.tape) (hou : w'.output = w.output) :
    ∃ E', Step C E H w E' (H.add (.row r t)) w' ∧ conc E' (.sl (newSlot H) r.sz [] r.length) = .slice (some ⟨w.heap.size, 0, none⟩) r.length cap := by
  have h1 : w'.heap[w.heap.size]? = some (.cells xs t) := by rw [hw']; simp
  refine ⟨_, step_add hR ⟨[w.heap.size], 0, cap⟩ trivial rfl ⟨rfl, .inr ⟨w.heap.size, spare, rfl, ?_, hcap, ?_⟩⟩ (fun b hb => by simp at hb; subst hb; rw [hw']; simp) (by rw [hw']; simp) (fun b hb => by rw [hw', Array.getElem?_push, if_neg (by omega)]) hos htp hou, ?_⟩
  · unfold Thawed
    rw [h1, ← hx]
  · rw [← hx]; simpa using hl
  · simp [conc, Env.blk, Env.upd, cut]

theorem srcOf_some {P : Program} (hR : Real C w E H) {ty : TypeId} {x : AV} {o : Option Row} (h : (srcOf C H P ty none x).run = some o) :
    (o = none ∧ ∃ c, conc E x = .slice none 0 c) ∨ ∃ r, o = some r ∧ SrcIn C.P w (conc E x) r.sz r.length r.cells := by
  unfold srcOf at h
  split at h
  · have := leaf_some h; subst this
    exact .inl ⟨rfl, _, rfl⟩
  · rename_i j sz path len
    split at h
    · rename_i r hr
      obtain ⟨h1, h⟩ := must_some h
      obtain ⟨h2, h⟩ := req_some h
      have := leaf_some h; subst this
      rw [Option.bind_eq_some_iff] at hr
      obtain ⟨s, hs, hr⟩ := hr
      simp only [beq_iff_eq] at h1
      simp only [decide_eq_true_eq] at h2
      subst h1
      obtain ⟨l1, l2⟩ := Row.sub_len h2
      refine .inr ⟨_, rfl, ?_⟩
      rw [l1, l2]
      exact row_read hR hs hr h2
    · cases h
  · cases h

theorem step_nil (hR : Real C w E H) {r : Row} {t : TypeId} (h0 : r.length = 0) :
    ∃ E', Step C E H w E' (H.add (.row r t)) w ∧ conc E' (.sl (newSlot H) r.sz [] r.length) = .slice none 0 0 := by
  refine ⟨_, step_add hR ⟨[], 0, 0⟩ trivial rfl ⟨rfl, .inl ⟨rfl, h0, rfl⟩⟩ (fun b hb => by simp at hb) (Nat.le_refl _) (fun b _ => rfl) rfl rfl rfl, ?_⟩
  simp [conc, Env.blk, Env.upd, cut, h0]

theorem zeroCells_size (z : Array Value) (n : Nat) : (Builtin.zeroCells z n).size = n * z.size := by simp [Builtin.zeroCells]

theorem append_sound (hR : Real C w E H) (t t' : TypeId) (s x : AV) (ty : TypeId) :
    Snd C E H w (do pure (.value (← Builtin.append_ #[t, t'] ty #[conc E s, conc E x]))) (appendRule C t t' s x) := by
  intro y h
  simp only [] at h
  split at h
  · rename_i e hu htt
    simp only [decide_eq_true_eq] at htt
    subst htt
    split at h
    · rename_i inf hinf
      obtain ⟨src, hsrc, h'⟩ := T.bind_some h
      clear h
      have hs := srcOf_some hR hsrc
      clear hsrc
      split at h'
      · -- nil onto nil
        have := leaf_some h'; subst this
        rcases hs with ⟨_, cx, hx⟩ | ⟨r, hr, _⟩
        · refine ⟨E, w, Step.refl hR, trivial, vrun ?_⟩
          rw [hx]
          exact run_append_none' w t ty e inf hu hinf none cx (by simp [Builtin.firstCells])
        · cases hr
      · -- onto nil
        rename_i c r
        obtain ⟨hm, h⟩ := must_some h'
        obtain ⟨hb, h⟩ := req_some h
        have := leaf_some h; subst this
        simp only [Bool.and_eq_true, beq_iff_eq, decide_eq_true_eq] at hm hb
        rcases hs with ⟨h0, _⟩ | ⟨r', hr', hin⟩
        · cases h0
        · simp only [Option.some.injEq] at hr'
          subst hr'
          obtain ⟨⟨ao, cc, hx, hnone, hf⟩, hlen, hone⟩ := hin
          obtain ⟨⟨hsz, hpos⟩, hz⟩ := hm
          rw [Option.map_eq_some_iff] at hz
          obtain ⟨z, hz, hzs⟩ := hz
          rw [hx]
          by_cases h0 : r.length = 0
          · obtain ⟨E', hst, hc⟩ := step_nil hR (t := e) h0
            refine ⟨E', w, hst, by simp [AV.wf, newSlot, Id.ok, Heap.add], vrun ?_⟩
            rw [hc]
            have hnil : r.cells = [] := by apply List.eq_nil_of_length_eq_zero; rw [Row.cells_length, h0]; simp
            have hf' := hf w rfl
            rw [h0, hnil] at hf'
            rw [h0]
            exact run_append_none' w t ty e inf hu hinf ao cc (by rw [hsz]; exact hf')
          · have hf' := hf
            rw [← hsz] at hf'
            have hrun := run_append_grow' (P := C.P) w t ty e inf z hu hinf hz none ao 0 0 r.length cc [] r.cells (fun w' _ => by simp [Builtin.firstCells]) hf' (by omega) (by omega)
              (by rw [Nat.zero_add, nextslicecap_zero (by omega)]; omega)
            simp only [Nat.zero_add] at hrun
            have hge := grownCap_ge w r.length 0 e
            obtain ⟨E', hst, hc⟩ := step_row hR (r := r) (t := e) (cap := grownCap w r.length 0 e) (xs := [].toArray ++ r.cells.toArray ++ Builtin.zeroCells z.cells (grownCap w r.length 0 e - r.length))
              (spare := (Builtin.zeroCells z.cells (grownCap w r.length 0 e - r.length)).toList) (w' := w.drew.alloc (.cells ([].toArray ++ r.cells.toArray ++ Builtin.zeroCells z.cells (grownCap w r.length 0 e - r.length)) e))
              (by simp) hge (by simp only [Array.size_append, zeroCells_size, hzs, List.size_toArray, Row.cells_length, List.length_nil, Nat.zero_add, ← Nat.add_mul]; congr 1; omega) rfl rfl rfl rfl
            refine ⟨E', _, hst, by simp [AV.wf, newSlot, Id.ok, Heap.add], vrun ?_⟩
            rw [hc]
            exact hrun
      · -- onto a row
        rename_i i sz len
        split at h'
        · rename_i r0 ty0 hi
          split at h'
          · rename_i r' hr'
            obtain ⟨hm, h⟩ := must_some h'
            obtain ⟨hb, h⟩ := req_some h
            have := leaf_some h; subst this
            clear h h'
            simp only [Bool.and_eq_true, beq_iff_eq, decide_eq_true_eq] at hm hb
            obtain ⟨⟨⟨⟨⟨⟨hty, hsz⟩, hsz2⟩, hsz3⟩, hpos⟩, hz⟩, hsr⟩ := hm
            obtain ⟨hle, hby, h63⟩ := hb
            rw [Option.map_eq_some_iff] at hz
            obtain ⟨z, hz, hzs⟩ := hz
            subst hty
            obtain ⟨l1, l2⟩ := Row.sub_len (r := r0) (a := 0) (n := len) (by omega)
            -- what is appended
            have hsrc : ∃ (m : Nat) (news : List Value), SrcIn C.P w (conc E x) r0.sz m news ∧ r'.length = len + m ∧ r'.cells = (r0.sub 0 len).cells ++ news := by
              rcases hs with ⟨h0, cx, hx⟩ | ⟨r, hr, hin⟩
              · subst h0
                simp only [Option.some.injEq] at hr'
                subst hr'
                exact ⟨0, [], ⟨⟨none, cx, hx, fun _ => ⟨rfl, rfl⟩, fun w' _ => by simp [Builtin.firstCells]⟩, by simp, by simp⟩, by omega, by simp⟩
              · subst hr
                simp only at hr' hsr
                obtain ⟨a1, a2, a3, a4⟩ := Row.app_cells hr'
                rw [← beq_iff_eq.1 hsr]
                exact ⟨r.length, r.cells, hin, by omega, a4⟩
            obtain ⟨m, news, ⟨⟨ao, cc, hx, hnone, hf⟩, hlen, hone⟩, hrl, hrc⟩ := hsrc
            have hf' := hf
            rw [← hsz] at hf'
            have hold : (r0.sub 0 len).cells = r0.cells.take (len * r0.sz) := by rw [Row.sub_cells (by omega)]; simp
            obtain ⟨horg, hreal⟩ := hR.slot i _ hi
            rw [hx]
            have hread := row_read (P := C.P) hR hi (r := r0) rfl (path := []) (len := len) (by simp [sumL]; omega)
            obtain ⟨⟨bo, bc, hv, _, hfo⟩, _, _⟩ := hread
            rw [hsz2]
            have hns : newSlot (H.set i .dead) = newSlot H := by simp [newSlot, set_len.2]
            have hwfr : (AV.sl (newSlot (H.set i .dead)) r0.sz [] r'.length).wf ((H.set i .dead).add (.row r' ty0)).o.length ((H.set i .dead).add (.row r' ty0)).n.length := by
              simp [AV.wf, newSlot, Id.ok, Heap.add]
            -- the value of the slice
            have hval : conc E (.sl i r0.sz [] len) = .slice ((E.blk i).map fun b => ⟨b, 0, none⟩) len (E i).cap := by simp [conc, cut, horg]
            have hfo' : ∀ w' : World, w'.heap = w.heap → (Builtin.firstCells inf.size len (.slice ((E.blk i).map fun b => (⟨b, 0, none⟩ : Addr)) len (E i).cap)).run C.P w' = .ok (r0.sub 0 len).cells.toArray w' := by
              intro w' hw'
              have h1 := hfo w' hw'
              rw [← hv, hval] at h1
              rw [hsz]; simpa [sumL] using h1
            rw [hval]
            by_cases hroom : len + m ≤ (E i).cap
            · rcases hreal with ⟨hb0, hr0, hc0⟩ | ⟨b, sp, hb, ht, hlc, hcap⟩
              · -- nil
                have hE : E.blk i = none := by unfold Env.blk; rw [hb0]; rfl
                have hm0 : m = 0 := by omega
                have hl0 : len = 0 := by omega
                have hnews : news = [] := by apply List.eq_nil_of_length_eq_zero; rw [hlen, hm0]; simp
                subst hm0 hl0 hnews
                refine ⟨_, w, step_move hR hi rfl ⟨[], 0, 0⟩ trivial rfl (fun E' => ⟨rfl, .inl ⟨rfl, by omega, rfl⟩⟩) (fun b hb => by simp at hb) (Nat.le_refl _) (fun b _ _ => rfl) rfl rfl rfl, hwfr, vrun ?_⟩
                rw [hE, hc0]
                have : conc (E.upd (newSlot H) ⟨[], 0, 0⟩) (.sl (newSlot (H.set i .dead)) r0.sz [] r'.length) = .slice none 0 0 := by
                  rw [hns]; simp [conc, Env.blk, Env.upd, cut]; omega
                rw [this]
                exact run_append_none' w t ty ty0 inf hu hinf ao cc (hf' w rfl)
              · -- room
                rw [blk_one hb]
                simp only [Option.map_some]
                have hfit : len * inf.size + news.length ≤ (r0.cells ++ sp).length := by
                  rw [hcap, hsz, hlen, ← Nat.add_mul]; exact Nat.mul_le_mul_right _ hroom
                have hrun := run_append_room' (P := C.P) w t ty ty0 inf hu hinf b ao len (E i).cap m cc (r0.cells ++ sp) news ht hf' hone hroom hfit
                have hlt : len * r0.sz ≤ r0.cells.length := by rw [Row.cells_length]; exact Nat.mul_le_mul_right _ hle
                have hov : over (r0.cells ++ sp) (len * inf.size) news = r'.cells ++ (r0.cells ++ sp).drop (len * r0.sz + news.length) := by
                  unfold over
                  rw [hsz, hrc, hold, List.take_append_of_le_length hlt]
                refine ⟨_, w.setRow b (over (r0.cells ++ sp) (len * inf.size) news).toArray, step_move hR hi rfl ⟨[b], 0, (E i).cap⟩ trivial rfl (fun E' => ⟨rfl, .inr ⟨b, (r0.cells ++ sp).drop (len * r0.sz + news.length), rfl, ?_, by show r'.length ≤ (E i).cap; omega, ?_⟩⟩)
                  (fun k hk => by simp at hk; subst hk; refine ⟨.inl (by rw [hb]; simp), ?_⟩; rw [setRow_size]; exact hR.own i _ hi rfl _ (by rw [hb]; simp)) (by rw [setRow_size]; exact Nat.le_refl _)
                  (fun k _ hk => setRow_other _ _ _ _ (fun e => hk (by rw [hb]; simp [e]))) rfl rfl rfl, hwfr, vrun ?_⟩
                · unfold Thawed at ht ⊢
                  rw [← hov]
                  exact setRow_heap w b _ _ ty0 (0, 0) ht
                · rw [← hov, over_length hfit, hcap, hsz3]
                · rw [hrun]
                  congr 1
                  rw [hns]; simp [conc, Env.blk, Env.upd, cut, hrl]
            · -- grown
              have hrun := run_append_grow' (P := C.P) w t ty ty0 inf z hu hinf hz ((E.blk i).map fun b => (⟨b, 0, none⟩ : Addr)) ao len (E i).cap m cc (r0.sub 0 len).cells news hfo' hf' (by omega) (by omega)
                (growslice_fits (by omega) (by rw [← hrl]; exact hby))
              have hge := grownCap_ge w (len + m) (E i).cap ty0
              refine ⟨_, w.drew.alloc (.cells ((r0.sub 0 len).cells.toArray ++ news.toArray ++ Builtin.zeroCells z.cells (grownCap w (len + m) (E i).cap ty0 - (len + m))) ty0), step_move hR hi rfl ⟨[w.heap.size], 0, grownCap w (len + m) (E i).cap ty0⟩ trivial rfl (fun E' => ⟨rfl, .inr ⟨w.heap.size, (Builtin.zeroCells z.cells (grownCap w (len + m) (E i).cap ty0 - (len + m))).toList, rfl, ?_, by show r'.length ≤ grownCap w (len + m) (E i).cap ty0; omega, ?_⟩⟩)
                  (fun k hk => by simp at hk; subst hk; exact ⟨.inr (Nat.le_refl _), by show _ < (w.heap.push _).size; simp⟩) (by show _ ≤ (w.heap.push _).size; simp)
                  (fun k hk _ => (alloc_heap w.drew _).2.2 k hk) rfl rfl rfl, hwfr, vrun ?_⟩
              · unfold Thawed
                have := (alloc_heap w.drew (.cells ((r0.sub 0 len).cells.toArray ++ news.toArray ++ Builtin.zeroCells z.cells (grownCap w (len + m) (E i).cap ty0 - (len + m))) ty0)).1
                rw [show w.drew.heap.size = w.heap.size from rfl] at this
                rw [this, hrc]
                congr 2
                apply Array.ext'
                simp
              · rw [List.length_append, Row.cells_length, hrl, Array.length_toList, zeroCells_size, hzs, hsz3, ← Nat.add_mul]
                show (len + m + (grownCap w (len + m) (E i).cap ty0 - (len + m))) * r0.sz = grownCap w (len + m) (E i).cap ty0 * r0.sz
                congr 1; omega
              · rw [hrun]
                congr 1
                rw [hns]; simp [conc, Env.blk, Env.upd, cut, hrl]
          · cases h'
        · cases h'
      · cases h'
    · cases h
  · cases h

end Eng

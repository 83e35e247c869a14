/- The engine, part 15: literals, make, calls; every rule is sound. -/
import Derived.Test.YtcmnnggpeloanaaGreatDoorEng14
namespace Eng
open Go

variable {C : Ctx} {E : Env} {H : Heap} {w : World}

theorem over_cons {l : List Value} {o : Nat} {v : Value} {vs : List Value} (h : o < l.length) : over (l.set o v) (o + 1) vs = over l o (v :: vs) := by
  have hs : l.set o v = l.take o ++ v :: l.drop (o + 1) := by rw [List.set_eq_take_append_cons_drop, if_pos h]
  have hl : (l.take o).length = o := by rw [List.length_take]; omega
  have h1 : ∀ (A B : List Value), (A ++ v :: B).take (A.length + 1) = A ++ [v] := fun A B => by rw [List.take_length_add_append]; rfl
  have h2 : ∀ (A B : List Value) (n : Nat), (A ++ v :: B).drop (A.length + 1 + n) = B.drop n := fun A B n => by rw [Nat.add_assoc, List.drop_length_add_append, Nat.add_comm 1 n]; rfl
  have h1' := h1 (l.take o) (l.drop (o + 1))
  have h2' := h2 (l.take o) (l.drop (o + 1)) vs.length
  rw [hl, ← hs] at h1' h2'
  unfold over
  rw [h1', h2', List.drop_drop]
  simp only [List.length_cons, List.append_assoc, List.singleton_append]
  congr 3
  omega

theorem fold_over : ∀ (vs : List Value) (cs : Array Value) (off k : Nat), off + k + vs.length ≤ cs.size →
    (vs.zipIdx k).foldl (fun cs x => cs.setIfInBounds (off + x.2) x.1) cs = (over cs.toList (off + k) vs).toArray
  | [], cs, off, k, _ => by simp [over]
  | v :: vs, cs, off, k, h => by
    simp only [List.length_cons] at h
    rw [List.zipIdx_cons, List.foldl_cons, fold_over vs _ off (k + 1) (by simp; omega)]
    congr 1
    rw [Array.toList_setIfInBounds, show off + (k + 1) = off + k + 1 from by omega]
    exact over_cons (by simp; omega)

theorem run_fill_one {place : Nat → Option (Nat × Nat)} {cells : Array Value} {i off size : Nat} {v : Value} {rest : List (Nat × Value)} (hp : place i = some (off, size)) (hs : v.cells.size = size) (hf : off + size ≤ cells.size) :
    Instr.fill place cells ((i, v) :: rest) = Instr.fill place (over cells.toList off v.cells.toList).toArray rest := by
  rw [Instr.fill]
  simp only [hp]
  rw [if_neg (by simp only [Bool.or_eq_true, decide_eq_true_eq]; omega)]
  congr 1
  have := fold_over v.cells.toList cells off 0 (by simp; omega)
  rw [Nat.add_zero] at this
  rw [← this]
  rw [← Array.foldl_toList, Array.toList_zipIdx]

/-- the elements of a slice literal, one by one -/
theorem fill_slice {size : Nat} : ∀ (vs : List Value) (k : Nat) (pre cells : List Value), cells.length = (k + vs.length) * size → cells.take (k * size) = pre → (∀ v ∈ vs, v.cells.size = size) →
    Instr.fill (fun i => some (i * size, size)) cells.toArray ((vs.zipIdx k).map fun x => (x.2, x.1)) = some (pre ++ vs.flatMap fun v => v.cells.toList).toArray
  | [], k, pre, cells, hl, hp, _ => by
    rw [← hp, List.take_of_length_le (by simp at hl; omega)]
    simp [Instr.fill]
  | v :: vs, k, pre, cells, hl, hp, hv => by
    simp only [List.length_cons] at hl
    have hv0 := hv v List.mem_cons_self
    have hmul : (k + (vs.length + 1)) * size = k * size + size + vs.length * size := by rw [Nat.add_mul, Nat.add_mul, Nat.one_mul]; omega
    rw [List.zipIdx_cons, List.map_cons, run_fill_one rfl hv0 (by simp; omega)]
    have hvl : v.cells.toList.length = size := by simpa using hv0
    have := fill_slice vs (k + 1) (pre ++ v.cells.toList) (over cells (k * size) v.cells.toList) (by rw [over_length (by omega), hl]; congr 1; omega)
      (by
        unfold over
        rw [hp, show (k + 1) * size = pre.length + v.cells.toList.length from by
          rw [← hp, List.length_take, hvl, Nat.add_mul, Nat.one_mul]; omega]
        rw [← List.length_append, List.take_left]) (fun u hu => hv u (List.mem_cons_of_mem _ hu))
    rw [this]
    simp [List.append_assoc]

theorem makeSlice_sound (hR : Real C w E H) (t : TypeId) (l c : AV) : Snd C E H w (do pure (.value (← Instr.makeSlice t (conc E l) (conc E c)))) (makeSliceRule C.P t l c) := by
  intro y h
  simp only [] at h
  split at h
  · rename_i e k1 n c1 k2 m c2 hu
    split at h
    · rename_i i hi
      have key : ∀ (r : Row) (z v : Value), i.size = 1 → i.zero = some z → z = v → v.cells = #[v] → r.sz = 1 → r.length = n.toNat → (∀ j, j < n.toNat → r.elem j = [v]) → 0 ≤ n ∧ n ≤ m ∧ (i.bytes : Int) * m ≤ 281474976710656 ∧ m ≤ 9223372036854775807 →
          ∃ E' w', Step C E H w E' (H.add (.row r e)) w' ∧ (do pure (.value (← Instr.makeSlice t (.int k1 n) (.int k2 m))) : Sem Next).run C.P w = .ok (.value (conc E' (.sl (newSlot H) 1 [] n.toNat))) w' := by
        intro r z v hsz hz hzv hvc hrs hrl hel hb
        subst hzv
        have hrun := run_make w t e i z hu hi hz k1 k2 n m hb.1 hb.2.1 hb.2.2.1 hb.2.2.2
        have hmade : (madeCells z.cells (m.toNat * i.size)).toList = List.replicate m.toNat z := by
          rw [hsz, Nat.mul_one, hvc]
          unfold madeCells
          simp
          apply List.ext_getElem?
          intro j
          by_cases hj : j < m.toNat
          · simp [hj, Nat.mod_one]
          · simp [hj]
        have hcells : r.cells = List.replicate n.toNat z := by
          symm
          refine Row.cells_ext (n := n.toNat) (by rw [hrs]; simp) hrl (fun j k' hj hk' => ?_)
          rw [hrs] at hk' ⊢
          have : k' = 0 := by omega
          subst this
          rw [hel j hj]
          simp [hj]
        obtain ⟨E', hst, hc⟩ := step_row hR (r := r) (t := e) (cap := m.toNat) (xs := madeCells z.cells (m.toNat * i.size)) (spare := List.replicate (m.toNat - n.toNat) z) (w' := w.alloc (.cells (madeCells z.cells (m.toNat * i.size)) e))
          (by rw [hmade, hcells, List.replicate_append_replicate]; congr 1; omega) (by rw [hrl]; omega) (by rw [size_madeCells, hsz, hrs]) rfl rfl rfl rfl
        refine ⟨E', _, hst, vrun ?_⟩
        rw [hrs, hrl] at hc
        rw [hc]
        exact hrun
      split at h
      · rename_i k hk
        obtain ⟨hm, h⟩ := must_some h
        obtain ⟨hb, h⟩ := req_some h
        have := leaf_some h; subst this
        simp only [Bool.and_eq_true, beq_iff_eq] at hm
        simp only [decide_eq_true_eq] at hb
        cases hz : i.zero with
        | none => rw [hz] at hm; simp at hm
        | some z =>
          rw [hz] at hm
          obtain ⟨E', w', hst, hrun⟩ := key (.ints k (List.replicate n.toNat 0)) z (.int k 0) hm.1 hz (sameV_eq hm.2) rfl rfl (by simp [Row.length]) (fun j hj => by simp [Row.elem, hj]) hb
          exact ⟨E', w', hst, by simp [AV.wf, newSlot, Id.ok, Heap.add], hrun⟩
      · obtain ⟨hm, h⟩ := must_some h
        obtain ⟨hb, h⟩ := req_some h
        have := leaf_some h; subst this
        simp only [Bool.and_eq_true, beq_iff_eq] at hm
        simp only [decide_eq_true_eq] at hb
        cases hz : i.zero with
        | none => rw [hz] at hm; simp at hm
        | some z =>
          rw [hz] at hm
          obtain ⟨E', w', hst, hrun⟩ := key (.strs (List.replicate n.toNat ByteArray.empty)) z (.string ByteArray.empty) hm.1 hz (sameV_eq hm.2) rfl rfl (by simp [Row.length]) (fun j hj => by simp [Row.elem, hj]) hb
          exact ⟨E', w', hst, by simp [AV.wf, newSlot, Id.ok, Heap.add], hrun⟩
      · cases h
    · cases h
  · cases h

end Eng

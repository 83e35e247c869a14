/- The engine, part 13: append. -/
import Derived.Test.YtcmnnggpeloanaaGreatDoorEng12
namespace Eng
open Go

variable {C : Ctx} {E : Env} {H : Heap} {w : World}

theorem run_append_grow' {P : Program} (w : World) (t ty e : TypeId) (i : TypeInfo) (z : Value) (ht : P.underlying t = some (.slice e)) (hi : P.info? e = some i) (hz : i.zero = some z)
    (bo ao : Option Addr) (n cap m c : Nat) (olds news : List Value) (hfo : ∀ w' : World, w'.heap = w.heap → (Builtin.firstCells i.size n (.slice bo n cap)).run P w' = .ok olds.toArray w')
    (hf : ∀ w' : World, w'.heap = w.heap → (Builtin.firstCells i.size m (.slice ao m c)).run P w' = .ok news.toArray w')
    (hg : cap < n + m) (h63 : n + m ≤ 9223372036854775807) (hfit : Builtin.nextslicecap (n + m) cap * i.bytes ≤ 281474976710656) :
    (Builtin.append_ #[t, t] ty #[.slice bo n cap, .slice ao m c]).run P w =
      .ok (.slice (some ⟨w.heap.size, 0, none⟩) (n + m) (grownCap w (n + m) cap e))
        (w.drew.alloc (.cells (olds.toArray ++ news.toArray ++ Builtin.zeroCells z.cells (grownCap w (n + m) cap e - (n + m))) e)) := by
  have hn : ¬ (n + m ≤ cap) := by omega
  have h63' : ¬ (9223372036854775807 < ((n : Int) + (m : Int))) := by omega
  have h48' : ¬ (281474976710656 < Builtin.nextslicecap (n + m) cap * i.bytes) := by omega
  have h1 := hf w.drew rfl
  have h2 := hfo w.drew rfl
  simp [Builtin.append_, run_underlying ht, Go.sizeOf, typeInfo, zeroValue, hi, hz, Builtin.lenOf, hn, h63', h48', Question.forced, h1, h2, newRow, grownCap]
  congr 2
  apply Array.ext'
  simp [List.append_assoc]

theorem run_append_room' {P : Program} (w : World) (t ty e : TypeId) (i : TypeInfo) (ht : P.underlying t = some (.slice e)) (hi : P.info? e = some i)
    (b : Nat) (ao : Option Addr) (n cap m c : Nat) (cur news : List Value) {ety : TypeId} (hb : Thawed w b cur ety)
    (hf : ∀ w' : World, w'.heap = w.heap → (Builtin.firstCells i.size m (.slice ao m c)).run P w' = .ok news.toArray w') (h1 : ∀ v ∈ news, v.oneCell' = true)
    (hg : n + m ≤ cap) (hfit : n * i.size + news.length ≤ cur.length) :
    (Builtin.append_ #[t, t] ty #[.slice (some ⟨b, 0, none⟩) n cap, .slice ao m c]).run P w =
      .ok (.slice (some ⟨b, 0, none⟩) (n + m) cap) (w.setRow b (over cur (n * i.size) news).toArray) := by
  unfold Thawed at hb
  have hs := run_storeCells_at P b (n * i.size) ety news 0 cur.toArray w hb (by simpa using hfit) h1
  have h2 := hf w rfl
  simp only [Nat.add_zero] at hs
  simp [Builtin.append_, run_underlying ht, Go.sizeOf, typeInfo, hi, Builtin.lenOf, hg, h2, add_at, hs, over]

theorem run_append_none' {P : Program} (w : World) (t ty e : TypeId) (i : TypeInfo) (ht : P.underlying t = some (.slice e)) (hi : P.info? e = some i)
    (ao : Option Addr) (c : Nat) (hf : (Builtin.firstCells i.size 0 (.slice ao 0 c)).run P w = .ok #[] w) :
    (Builtin.append_ #[t, t] ty #[.slice none 0 0, .slice ao 0 c]).run P w = .ok (.slice none 0 0) w := by
  simp [Builtin.append_, run_underlying ht, Go.sizeOf, typeInfo, hi, Builtin.lenOf, hf]

theorem row_vals_one (r : Row) : ∀ v ∈ r.cells, v.oneCell' = true := by
  intro v hv
  unfold Row.cells at hv
  rw [List.mem_flatMap] at hv
  obtain ⟨j, _, hv⟩ := hv
  cases r with
  | ints k l => simp [Row.elem] at hv; subst hv; rfl
  | strs l => simp [Row.elem] at hv; subst hv; rfl
  | recs ks l =>
    simp only [Row.elem] at hv
    have : ∀ (ks : List Kind) (as : List Atom), v ∈ recVals ks as → v.oneCell' = true := by
      intro ks
      induction ks with
      | nil => intro as h; simp [recVals] at h
      | cons k ks ih =>
        intro as h
        simp only [recVals, List.mem_cons] at h
        rcases h with h | h
        · subst h; exact (atom_one _ _).2
        · exact ih _ h
    exact this ks _ hv

/-- elements out of the middle -/
theorem Row.sub_len {r : Row} {a n : Nat} (h : a + n ≤ r.length) : (r.sub a n).length = n ∧ (r.sub a n).sz = r.sz := by
  cases r <;> simp [Row.sub, Row.length, Row.sz] at * <;> omega
theorem Row.sub_elem {r : Row} {a n j : Nat} (hj : j < n) : (r.sub a n).elem j = r.elem (a + j) := by
  cases r <;> simp [Row.sub, Row.elem, List.getD_eq_getElem?_getD, hj]

theorem Row.cells_ext {r : Row} {l : List Value} {n : Nat} (hl : l.length = n * r.sz) (hn : r.length = n) (h : ∀ j k, j < n → k < r.sz → l[j * r.sz + k]? = (r.elem j)[k]?) : l = r.cells := by
  apply List.ext_getElem?
  intro i
  by_cases hi : i < n * r.sz
  · have hsz : 0 < r.sz := by
      rcases Nat.eq_zero_or_pos r.sz with h0 | h0
      · rw [h0] at hi; simp at hi
      · exact h0
    have hd := Nat.div_add_mod i r.sz
    have hlt : i / r.sz < n := Nat.div_lt_of_lt_mul (by rw [Nat.mul_comm]; exact hi)
    have hm := Nat.mod_lt i hsz
    have e : i / r.sz * r.sz + i % r.sz = i := by rw [Nat.mul_comm]; exact hd
    have h1 := h (i / r.sz) (i % r.sz) hlt hm
    have h2 := Row.cells_get r (i / r.sz) (i % r.sz) (by omega) hm
    rw [e] at h1 h2
    rw [h1, h2]
  · rw [List.getElem?_eq_none (by omega), List.getElem?_eq_none (by rw [Row.cells_length, hn]; omega)]

theorem Row.sub_cells {r : Row} {a n : Nat} (h : a + n ≤ r.length) : (r.sub a n).cells = (r.cells.drop (a * r.sz)).take (n * r.sz) := by
  obtain ⟨h1, h2⟩ := Row.sub_len h
  symm
  refine Row.cells_ext (n := n) ?_ h1 (fun j k hj hk => ?_)
  · rw [List.length_take, List.length_drop, Row.cells_length, h2, ← Nat.sub_mul]
    exact Nat.min_eq_left (Nat.mul_le_mul_right _ (by omega))
  · rw [h2] at hk ⊢
    have hlt : j * r.sz + k < n * r.sz := by
      have : (j + 1) * r.sz ≤ n * r.sz := Nat.mul_le_mul_right _ hj
      rw [Nat.add_mul, Nat.one_mul] at this; omega
    rw [List.getElem?_take, if_pos hlt, List.getElem?_drop, Row.sub_elem hj, show a * r.sz + (j * r.sz + k) = (a + j) * r.sz + k from by rw [Nat.add_mul]; omega]
    exact Row.cells_get r (a + j) k (by omega) hk

theorem range_add_flatMap {α : Type} (f : Nat → List α) : ∀ (m n : Nat), (List.range (n + m)).flatMap f = (List.range n).flatMap f ++ (List.range m).flatMap (fun j => f (n + j))
  | 0, n => by simp
  | m + 1, n => by
    rw [show n + (m + 1) = (n + m) + 1 from by omega, List.range_succ, List.flatMap_append, range_add_flatMap f m n, List.range_succ (n := m), List.flatMap_append]
    simp [List.append_assoc]

theorem Row.app_cells {r s q : Row} (h : r.app s = some q) : q.length = r.length + s.length ∧ q.sz = r.sz ∧ s.sz = r.sz ∧ q.cells = r.cells ++ s.cells := by
  have key : q.length = r.length + s.length → (∀ j, j < r.length → q.elem j = r.elem j) → (∀ j, q.elem (r.length + j) = s.elem j) → q.cells = r.cells ++ s.cells := by
    intro h1 h2 h3
    unfold Row.cells
    rw [h1, range_add_flatMap]
    congr 1
    · rw [List.flatMap_def, List.flatMap_def]
      congr 1
      exact List.map_congr_left fun j hj => h2 j (List.mem_range.1 hj)
    · rw [List.flatMap_def, List.flatMap_def]
      congr 1
      exact List.map_congr_left fun j _ => h3 j
  cases r <;> cases s <;> simp only [Row.app] at h <;> try (cases h; done)
  · split at h
    · rename_i hk
      simp only [Option.some.injEq] at h
      subst hk; subst h
      refine ⟨by simp [Row.length], rfl, rfl, key (by simp [Row.length]) (fun j hj => ?_) (fun j => ?_)⟩
      · simp only [Row.length] at hj; simp [Row.elem, List.getD_eq_getElem?_getD, List.getElem?_append_left hj]
      · simp [Row.elem, Row.length, List.getD_eq_getElem?_getD, List.getElem?_append_right]
    · cases h
  · simp only [Option.some.injEq] at h
    subst h
    refine ⟨by simp [Row.length], rfl, rfl, key (by simp [Row.length]) (fun j hj => ?_) (fun j => ?_)⟩
    · simp only [Row.length] at hj; simp [Row.elem, List.getD_eq_getElem?_getD, List.getElem?_append_left hj]
    · simp [Row.elem, Row.length, List.getD_eq_getElem?_getD, List.getElem?_append_right]
  · split at h
    · rename_i hk
      simp only [Option.some.injEq] at h
      subst hk; subst h
      refine ⟨by simp [Row.length], rfl, rfl, key (by simp [Row.length]) (fun j hj => ?_) (fun j => ?_)⟩
      · simp only [Row.length] at hj; simp [Row.elem, List.getD_eq_getElem?_getD, List.getElem?_append_left hj]
      · simp [Row.elem, Row.length, List.getD_eq_getElem?_getD, List.getElem?_append_right]
    · cases h

/-- the source of an append: its cells can be read -/
structure SrcIn (P : Program) (w : World) (v : Value) (sz m : Nat) (news : List Value) : Prop where
  form : ∃ ao c, v = .slice ao m c ∧ (ao = none → m = 0 ∧ news = []) ∧ ∀ w' : World, w'.heap = w.heap → (Builtin.firstCells sz m (.slice ao m c)).run P w' = .ok news.toArray w'
  len : news.length = m * sz
  one : ∀ v ∈ news, v.oneCell' = true

theorem row_read {P : Program} (hR : Real C w E H) {i : Id} {s : Slot} {r : Row} (hi : H.get C i = some s) (hr : rowIn s = some r) {path : List Nat} {len : Nat} (hle : sumL path + len ≤ r.length) :
    SrcIn P w (conc E (.sl i r.sz path len)) r.sz len (r.sub (sumL path) len).cells := by
  obtain ⟨l1, l2⟩ := Row.sub_len hle
  refine ⟨?_, by rw [Row.cells_length, l1, l2], row_vals_one _⟩
  rcases rowIn_real hr (hR.slot i s hi) with ⟨hb, h0, _⟩ | ⟨b, hb, hlc, hcell⟩
  · have hE : E.blk i = none := by unfold Env.blk; rw [hb]; rfl
    have hlen : len = 0 := by omega
    refine ⟨none, _, (by simp only [conc, hE, Option.map_none]; rfl), fun _ => ⟨hlen, ?_⟩, fun w' _ => ?_⟩
    · apply List.eq_nil_of_length_eq_zero; rw [Row.cells_length, l1, hlen]; simp
    · have : (r.sub (sumL path) len).cells = [] := by apply List.eq_nil_of_length_eq_zero; rw [Row.cells_length, l1, hlen]; simp
      rw [this]; simp [Builtin.firstCells]
  · refine ⟨some ⟨b, (E i).org + (cut path 0 (E i).cap).1 * r.sz, none⟩, _, (by simp only [conc, blk_one hb, Option.map_some]; rfl), fun h => (by cases h), fun w' hw' => ?_⟩
    have hc : ∀ j v, (r.sub (sumL path) len).cells[j]? = some v → w'.cell? ((⟨b, (E i).org + (cut path 0 (E i).cap).1 * r.sz, none⟩ : Addr).add j) = some v := by
      intro j v hv
      have hj : j < len * r.sz := by
        have := (List.getElem?_eq_some_iff.1 hv).1
        rwa [Row.cells_length, l1, l2] at this
      have hlen : 0 < len := by
        rcases Nat.eq_zero_or_pos len with h0 | h0
        · rw [h0] at hj; simp at hj
        · exact h0
      have hcut := (sumL_cut path 0 (E i).cap (by omega)).2 (by omega)
      rw [add_at, hcut, Nat.zero_add, cell_of_heap (w := w) (w' := w') (b := b) (by rw [hw']), Nat.add_assoc]
      refine hcell _ _ ?_
      rw [Row.sub_cells hle, List.getElem?_take, if_pos hj, List.getElem?_drop] at hv
      exact hv
    have hl : (r.sub (sumL path) len).cells.length = len * r.sz := by rw [Row.cells_length, l1, l2]
    exact run_firstCells_some (P := P) w' r.sz len _ len _ _ hl hc

end Eng

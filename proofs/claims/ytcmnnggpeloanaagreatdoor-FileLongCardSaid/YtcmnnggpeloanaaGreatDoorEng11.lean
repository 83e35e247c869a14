/- The engine, part 11: stores. -/
import Derived.Test.YtcmnnggpeloanaaGreatDoorEng10
namespace Eng
open Go

variable {C : Ctx} {E : Env} {H : Heap} {w : World}

/-- a list written over from o on -/
def over {α : Type} (l : List α) (o : Nat) (vs : List α) : List α := l.take o ++ vs ++ l.drop (o + vs.length)

theorem over_length {α : Type} {l : List α} {o : Nat} {vs : List α} (h : o + vs.length ≤ l.length) : (over l o vs).length = l.length := by
  simp [over]; omega
theorem over_append {α : Type} {a b : List α} {o : Nat} {vs : List α} (h : o + vs.length ≤ a.length) : over (a ++ b) o vs = over a o vs ++ b := by
  unfold over
  rw [List.take_append_of_le_length (by omega), List.drop_append_of_le_length h]
  simp
theorem over_skip {α : Type} {a b : List α} {o : Nat} {vs : List α} (h : a.length ≤ o) : over (a ++ b) o vs = a ++ over b (o - a.length) vs := by
  unfold over
  rw [List.take_append, List.take_of_length_le h, List.drop_append, List.drop_eq_nil_of_le (by omega)]
  simp
  congr 2
  omega
theorem over_set {α : Type} : ∀ {l : List α} {o : Nat} {v : α}, o < l.length → over l o [v] = l.set o v
  | a :: l, 0, v, _ => by simp [over]
  | a :: l, o + 1, v, h => by
    have := over_set (l := l) (o := o) (v := v) (by simpa using h)
    simp only [over, List.length_singleton] at this ⊢
    simpa using this

theorem arrVals_set {k : IntKind} {n : Nat} {l : List Int} {j : Nat} {y : Int} (hl : l.length = n) (hj : j < n) : arrVals k n (l.set j y) = over (arrVals k n l) j [.int k y] := by
  rw [over_set (by rw [arrVals_length]; exact hj)]
  apply List.ext_getElem?
  intro i
  by_cases hi : i < n
  · rw [arrVals_get _ _ _ _ hi, List.getElem?_set]
    by_cases e : j = i
    · subst e
      simp [arrVals_length, hj, hl]
    · rw [if_neg e, arrVals_get _ _ _ _ hi]
      simp [List.getD_eq_getElem?_getD, e]
  · rw [List.getElem?_eq_none (by rw [arrVals_length]; omega), List.getElem?_eq_none (by rw [List.length_set, arrVals_length]; omega)]

theorem okCells_cons {a : AV} {l : List AV} : okCells (a :: l) = true ↔ okCell a = true ∧ okCells l = true := by simp [okCells]
theorem isOne_ok {a : AV} (h : isOne a = true) : okCell a = true := by cases a <;> first | exact h | rfl

theorem cellSet_sound {E : Env} {no nn : Nat} {x : AV} (hx : isOne x = true) (hxw : x.wf no nn) : ∀ (l : List AV) (n : Nat) (r : List AV), AV.wfL no nn l → okCells l = true → cellSet l n x = some r →
    cellsOf (concL E r) = over (cellsOf (concL E l)) n [conc E x] ∧ n < (cellsOf (concL E l)).length ∧ AV.wfL no nn r ∧ okCells r = true
  | [], n, r, _, _, h => by simp [cellSet] at h
  | b :: l, n, r, hw, ho, h => by
    have hc : ∀ m : List AV, concL E (b :: m) = conc E b :: concL E m := fun _ => rfl
    rw [okCells_cons] at ho
    have hxc := (isOne_conc (E := E) hx).2
    unfold cellSet at h
    cases hb : isOne b with
    | true =>
      have hbc := (isOne_conc (E := E) hb).2
      rw [hb] at h
      cases n with
      | zero =>
        simp only [Option.some.injEq] at h; subst h
        refine ⟨?_, ?_, ⟨hxw, hw.2⟩, okCells_cons.2 ⟨isOne_ok hx, ho.2⟩⟩
        · rw [hc, cellsOf_cons, hbc, show concL E (x :: l) = conc E x :: concL E l from rfl, cellsOf_cons, hxc]
          simp [over]
        · rw [hc, cellsOf_cons, hbc]; simp
      | succ n =>
        simp only [Option.map_eq_some_iff] at h
        obtain ⟨r', hr', rfl⟩ := h
        obtain ⟨h1, h2, h3, h4⟩ := cellSet_sound hx hxw l n r' hw.2 ho.2 hr'
        refine ⟨?_, ?_, ⟨hw.1, h3⟩, okCells_cons.2 ⟨ho.1, h4⟩⟩
        · rw [hc, hc, cellsOf_cons, cellsOf_cons, h1, hbc, over_skip (by simp)]
          simp
        · rw [hc, cellsOf_cons, hbc]; simp; omega
    | false =>
      rw [hb] at h
      cases b with
      | arr k m xs =>
        simp only at h
        have hlen : (conc E (.arr k m xs)).cells.toList = arrVals k m xs := by simp [conc, Value.cells]
        by_cases hn : n < m
        · rw [if_pos hn] at h
          cases x with
          | v y c =>
            cases y with
            | int k' y =>
              simp only at h
              split at h
              · rename_i hk
                subst hk
                simp only [Option.some.injEq] at h; subst h
                refine ⟨?_, ?_, ⟨by simp [AV.wf]; exact hw.1, hw.2⟩, okCells_cons.2 ⟨rfl, ho.2⟩⟩
                · rw [hc, cellsOf_cons, hlen, show concL E (.arr k m (xs.set n y) :: l) = conc E (.arr k m (xs.set n y)) :: concL E l from rfl, cellsOf_cons, over_append (by rw [arrVals_length]; simp; omega)]
                  rw [show (conc E (.arr k m (xs.set n y))).cells.toList = arrVals k m (xs.set n y) from by simp [conc, Value.cells], arrVals_set hw.1 hn]
                  rfl
                · rw [hc, cellsOf_cons, hlen, List.length_append, arrVals_length]; omega
              · cases h
            | _ => cases h
          | _ => cases h
        · rw [if_neg hn] at h
          simp only [Option.map_eq_some_iff] at h
          obtain ⟨r', hr', rfl⟩ := h
          obtain ⟨h1, h2, h3, h4⟩ := cellSet_sound hx hxw l (n - m) r' hw.2 ho.2 hr'
          refine ⟨?_, ?_, ⟨hw.1, h3⟩, okCells_cons.2 ⟨ho.1, h4⟩⟩
          · rw [hc, hc, cellsOf_cons, cellsOf_cons, h1, hlen, over_skip (by rw [arrVals_length]; omega), arrVals_length]
          · rw [hc, cellsOf_cons, hlen, List.length_append, arrVals_length]; omega
      | _ => cases h

theorem wfL_append {no nn : Nat} {l m : List AV} (h : AV.wfL no nn l) (h' : AV.wfL no nn m) : AV.wfL no nn (l ++ m) := by
  rw [AV.wfL_iff] at *
  intro a ha
  rcases List.mem_append.1 ha with ha | ha
  · exact h a ha
  · exact h' a ha
theorem okCells_append {l m : List AV} (h : okCells l = true) (h' : okCells m = true) : okCells (l ++ m) = true := by
  unfold okCells at *; rw [List.all_append, h, h']; rfl

theorem splice_sound {E : Env} {no nn : Nat} {l new r : List AV} {off n : Nat} (hw : AV.wfL no nn l) (ho : okCells l = true) (hnw : AV.wfL no nn new) (hno : okCells new = true)
    (hn : (cellsOf (concL E new)).length = n) (h : splice l off new n = some r) :
    cellsOf (concL E r) = over (cellsOf (concL E l)) off (cellsOf (concL E new)) ∧ off + n ≤ (cellsOf (concL E l)).length ∧ AV.wfL no nn r ∧ okCells r = true := by
  unfold splice at h
  split at h
  · rename_i a b ha hb
    simp only [Option.some.injEq] at h; subst h
    obtain ⟨a1, a2, a3, a4⟩ := takeW_sound (E := E) l off a hw ho ha
    obtain ⟨b1, b2, b3⟩ := dropW_sound (E := E) l (off + n) b hw ho hb
    refine ⟨?_, ?_, wfL_append (wfL_append a3 hnw) b2, okCells_append (okCells_append a4 hno) b3⟩
    · rw [concL_append, concL_append, cellsOf_append, cellsOf_append, a1, b1]
      unfold over
      rw [hn]
    · have hk : ∀ (m : List AV) (k : Nat) (q : List AV), okCells m = true → dropW m k = some q → k ≤ (cellsOf (concL E m)).length := by
        intro m
        induction m with
        | nil =>
          intro k q _ hq
          cases k with
          | zero => exact Nat.zero_le _
          | succ k => simp [dropW] at hq
        | cons c m ih =>
          intro k q hm hq
          cases k with
          | zero => exact Nat.zero_le _
          | succ k =>
            have hq : (if width c ≤ k + 1 then dropW m (k + 1 - width c) else none) = some q := hq
            rw [okCells_cons] at hm
            split at hq
            · have := ih _ q hm.2 hq
              rw [show concL E (c :: m) = conc E c :: concL E m from rfl, cellsOf_cons, List.length_append, width_cells hm.1]
              omega
            · cases hq
      exact hk l _ b ho hb
  · cases h

theorem arrPut_sound {E : Env} {no nn : Nat} {k : IntKind} {n j : Nat} {xs : List Int} {y : Int} (hj : j < n) : ∀ (l : List AV) (off : Nat) (r : List AV), AV.wfL no nn l → okCells l = true → arrAt l off = some (k, n, xs) →
    arrPut l off (xs.set j y) = some r → cellsOf (concL E r) = over (cellsOf (concL E l)) (off + j) [.int k y] ∧ off + j < (cellsOf (concL E l)).length ∧ AV.wfL no nn r ∧ okCells r = true
  | [], off, r, _, _, h, _ => by cases off <;> simp [arrAt] at h
  | a :: l, off, r, hw, ho, h, hp => by
    rw [okCells_cons] at ho
    have hc : ∀ m : List AV, concL E (a :: m) = conc E a :: concL E m := fun _ => rfl
    have hwid := width_cells (E := E) ho.1
    have far : (if width a ≤ off then (if width a = 0 then none else arrAt l (off - width a)) else none) = some (k, n, xs) →
        (if width a ≤ off then (if width a = 0 then none else (arrPut l (off - width a) (xs.set j y)).map (a :: ·)) else none) = some r →
        cellsOf (concL E r) = over (cellsOf (concL E (a :: l))) (off + j) [.int k y] ∧ off + j < (cellsOf (concL E (a :: l))).length ∧ AV.wfL no nn r ∧ okCells r = true := by
      intro h hp
      split at h
      · rename_i hle
        rw [if_pos hle] at hp
        split at h
        · cases h
        · rename_i hz
          rw [if_neg hz, Option.map_eq_some_iff] at hp
          obtain ⟨r', hr', rfl⟩ := hp
          obtain ⟨h1, h2, h3, h4⟩ := arrPut_sound hj l _ r' hw.2 ho.2 h hr'
          refine ⟨?_, ?_, ⟨hw.1, h3⟩, okCells_cons.2 ⟨ho.1, h4⟩⟩
          · rw [hc, hc, cellsOf_cons, cellsOf_cons, h1, over_skip (by omega), hwid, show off + j - width a = off - width a + j from by omega]
          · rw [hc, cellsOf_cons, List.length_append, hwid]; omega
      · cases h
    cases off with
    | succ off =>
      cases a <;> exact far h hp
    | zero =>
      cases a with
      | arr k' n' xs' =>
        simp only [arrAt, Option.some.injEq, Prod.mk.injEq] at h
        obtain ⟨rfl, rfl, rfl⟩ := h
        simp only [arrPut, Option.some.injEq] at hp
        subst hp
        have hlen : ∀ zs, (conc E (.arr k' n' zs)).cells.toList = arrVals k' n' zs := fun zs => by simp [conc, Value.cells]
        refine ⟨?_, ?_, ⟨by simp [AV.wf]; exact hw.1, hw.2⟩, okCells_cons.2 ⟨rfl, ho.2⟩⟩
        · rw [hc, cellsOf_cons, hlen, show concL E (.arr k' n' (xs'.set j y) :: l) = conc E (.arr k' n' (xs'.set j y)) :: concL E l from rfl, cellsOf_cons, hlen, over_append (by rw [arrVals_length]; simp; omega), arrVals_set hw.1 hj, Nat.zero_add]
        · rw [hc, cellsOf_cons, hlen, List.length_append, arrVals_length]; omega
      | _ => exact far h hp

theorem flatMap_over {f f' : Nat → List Value} {sz : Nat} (hf : ∀ i, (f i).length = sz) (hf' : ∀ i, (f' i).length = sz) {j : Nat} (hne : ∀ i, i ≠ j → f' i = f i) : ∀ n, j < n →
    (List.range n).flatMap f' = over ((List.range n).flatMap f) (j * sz) (f' j) := by
  have same : ∀ n, n ≤ j → (List.range n).flatMap f' = (List.range n).flatMap f := by
    intro n
    induction n with
    | zero => intro _; rfl
    | succ n ih =>
      intro h
      rw [List.range_succ, List.flatMap_append, List.flatMap_append, ih (by omega)]
      simp [hne n (by omega)]
  intro n
  induction n with
  | zero => intro h; omega
  | succ n ih =>
    intro h
    rw [List.range_succ, List.flatMap_append, List.flatMap_append]
    have hl := flatMap_len f sz hf n
    by_cases e : j = n
    · subst e
      rw [same j (Nat.le_refl _), over_skip (by omega), hl]
      have : over (f j) 0 (f' j) = f' j := by
        unfold over
        rw [List.drop_eq_nil_of_le (by rw [hf, hf']; omega)]; simp
      simp [this]
    · have hlt : j * sz + sz ≤ n * sz := by
        have : (j + 1) * sz ≤ n * sz := Nat.mul_le_mul_right _ (by omega)
        rw [Nat.add_mul, Nat.one_mul] at this
        exact this
      rw [ih (by omega), over_append (by rw [hf', hl]; exact hlt)]
      simp [hne n (fun h => e h.symm)]

end Eng

/- The engine, part 5: the rules that turn nothing are sound. -/
import Derived.Test.YtcmnnggpeloanaaGreatDoorEng4
import Derived.Laws.Sem
import Derived.Laws.Cells
import Derived.Laws.CopyRow
import Derived.Laws.Entries
namespace Eng
open Go

section trees
variable {α β : Type}
theorem req_some {b : Bool} {t : T α} {a : α} (h : (req b t).run = some a) : b = true ∧ t.run = some a := by
  cases b
  · cases h
  · exact ⟨rfl, h⟩
theorem must_some {b : Bool} {t : T α} {a : α} (h : (must b t).run = some a) : b = true ∧ t.run = some a := by
  cases b
  · cases h
  · exact ⟨rfl, h⟩
theorem cond_stuck {c b : Bool} {t : T α} {a : α} (h : (T.cond c b t .stuck).run = some a) : b = true ∧ t.run = some a := by
  rw [T.run_cond] at h
  cases b
  · cases h
  · exact ⟨rfl, h⟩
theorem fromO_some {o : Option α} {a : α} (h : (fromO o).run = some a) : o = some a := by
  cases o with
  | none => cases h
  | some x => exact h
theorem pv_some {c : Bool} {o : Option Value} {a : AV} (h : (pv c o).run = some a) : ∃ x, o = some x ∧ a = .v x c := by
  cases o with
  | none => cases h
  | some x => exact ⟨x, rfl, by cases h; rfl⟩
theorem leaf_some {a b : α} (h : (T.leaf a).run = some b) : b = a := by cases h; rfl
end trees

theorem pureRun_sound {α : Type} (P : Program) : ∀ (m : Sem α) (a : α) (w : World), pureRun P m = some a → m.run P w = .ok a w := by
  intro m
  induction m with
  | pure x => intro a w h; cases h; rfl
  | program k ih => intro a w h; exact ih P a w h
  | mark m k ih => intro a w h; exact ih a w h
  | _ => intros; rename_i h; cases h

theorem vrun {P : Program} {s : Sem Value} {v : Value} {w w' : World} (h : s.run P w = .ok v w') : (do pure (Next.value (← s)) : Sem Next).run P w = .ok (.value v) w' := by
  simp only [Sem.run_bind, h, Result.andThen_ok, Sem.run_pure]

theorem isOne_conc {E : Env} {a : AV} (h : isOne a = true) : (conc E a).oneCell' = true ∧ (conc E a).cells = #[conc E a] := by
  cases a with
  | v x c => cases x <;> simp_all [isOne, conc, Value.oneCell', Value.cells]
  | _ => first | (simp [isOne] at h; done) | (simp [conc, Value.oneCell', Value.cells])

theorem cellsOf_cons (v : Value) (l : List Value) : cellsOf (v :: l) = v.cells.toList ++ cellsOf l := rfl
theorem cellsOf_append (l m : List Value) : cellsOf (l ++ m) = cellsOf l ++ cellsOf m := by simp [cellsOf]
theorem concL_append (E : Env) (l m : List AV) : concL E (l ++ m) = concL E l ++ concL E m := by simp [concL_map]

theorem arrVals_length (k : IntKind) (n : Nat) (l : List Int) : (arrVals k n l).length = n := by simp [arrVals]
theorem arrVals_get (k : IntKind) (n : Nat) (l : List Int) (j : Nat) (h : j < n) : (arrVals k n l)[j]? = some (.int k (l.getD j 0)) := by
  simp [arrVals, h]

/-- one cell, read off -/
theorem cellAt_sound {E : Env} {no nn : Nat} : ∀ (l : List AV) (n : Nat) (a : AV), AV.wfL no nn l → cellAt l n = some a →
    (cellsOf (concL E l))[n]? = some (conc E a) ∧ a.wf no nn ∧ isOne a = true
  | [], n, a, _, h => by simp [cellAt] at h
  | b :: l, n, a, hw, h => by
    unfold cellAt at h
    rw [show concL E (b :: l) = conc E b :: concL E l from rfl, cellsOf_cons]
    cases hb : isOne b with
    | true =>
      have hc := (isOne_conc (E := E) hb).2
      rw [hb] at h
      rw [hc]
      cases n with
      | zero => simp only [Option.some.injEq] at h; subst h; exact ⟨by simp, hw.1, hb⟩
      | succ n =>
        obtain ⟨h1, h2⟩ := cellAt_sound l n a hw.2 h
        exact ⟨by simpa using h1, h2⟩
    | false =>
      rw [hb] at h
      cases b with
      | arr k m xs =>
        simp only at h
        have hlen : (conc E (.arr k m xs)).cells.toList = arrVals k m xs := by simp [conc, Value.cells]
        rw [hlen]
        by_cases hn : n < m
        · rw [if_pos hn] at h
          simp only [Option.some.injEq] at h
          subst h
          refine ⟨?_, trivial, rfl⟩
          rw [List.getElem?_append_left (by rw [arrVals_length]; exact hn), arrVals_get _ _ _ _ hn]
          rfl
        · rw [if_neg hn] at h
          obtain ⟨h1, h2⟩ := cellAt_sound l (n - m) a hw.2 h
          refine ⟨?_, h2⟩
          rw [List.getElem?_append_right (by rw [arrVals_length]; omega), arrVals_length]
          exact h1
      | _ => cases h

theorem width_cells {E : Env} {a : AV} (h : okCell a = true) : (conc E a).cells.toList.length = width a := by
  cases a with
  | v x c => cases x <;> simp_all [okCell, isOne, conc, Value.cells, width]
  | arr k n l => simp [conc, Value.cells, width, arrVals_length]
  | _ => first | (simp [okCell, isOne] at h; done) | (simp [conc, Value.cells, width])

theorem dropW_sound {E : Env} {no nn : Nat} : ∀ (l : List AV) (n : Nat) (r : List AV), AV.wfL no nn l → okCells l = true → dropW l n = some r →
    cellsOf (concL E r) = (cellsOf (concL E l)).drop n ∧ AV.wfL no nn r ∧ okCells r = true
  | [], n, r, _, _, h => by
    cases n with
    | zero => simp [dropW] at h; subst h; exact ⟨by simp, trivial, rfl⟩
    | succ n => simp [dropW] at h
  | a :: l, n, r, hw, ho, h => by
    cases n with
    | zero => simp [dropW] at h; subst h; exact ⟨by simp, hw, ho⟩
    | succ n =>
      have h : (if width a ≤ n + 1 then dropW l (n + 1 - width a) else none) = some r := h
      have ho' : okCell a = true ∧ okCells l = true := by
        simpa only [okCells, List.all_cons, Bool.and_eq_true] using ho
      have hwid := width_cells (E := E) ho'.1
      split at h
      · rename_i hle
        obtain ⟨h1, h2, h3⟩ := dropW_sound l _ r hw.2 ho'.2 h
        refine ⟨?_, h2, h3⟩
        rw [h1, show concL E (a :: l) = conc E a :: concL E l from rfl, cellsOf_cons, List.drop_append, hwid, List.drop_eq_nil_of_le (as := (conc E a).cells.toList) (by omega), List.nil_append]
      · cases h

theorem takeW_sound {E : Env} {no nn : Nat} : ∀ (l : List AV) (n : Nat) (r : List AV), AV.wfL no nn l → okCells l = true → takeW l n = some r →
    cellsOf (concL E r) = (cellsOf (concL E l)).take n ∧ (cellsOf (concL E r)).length = n ∧ AV.wfL no nn r ∧ okCells r = true
  | [], n, r, _, _, h => by
    cases n with
    | zero => simp [takeW] at h; subst h; exact ⟨by simp [cellsOf, concL], by simp [cellsOf, concL], trivial, rfl⟩
    | succ n => simp [takeW] at h
  | a :: l, n, r, hw, ho, h => by
    cases n with
    | zero => simp [takeW] at h; subst h; exact ⟨by simp [cellsOf, concL], by simp [cellsOf, concL], trivial, rfl⟩
    | succ n =>
      have h : (if width a ≤ n + 1 then (takeW l (n + 1 - width a)).map (a :: ·) else none) = some r := h
      have ho' : okCell a = true ∧ okCells l = true := by
        simpa only [okCells, List.all_cons, Bool.and_eq_true] using ho
      have hwid := width_cells (E := E) ho'.1
      split at h
      · rename_i hle
        rw [Option.map_eq_some_iff] at h
        obtain ⟨r', hr', rfl⟩ := h
        obtain ⟨h1, h2, h3, h4⟩ := takeW_sound l _ r' hw.2 ho'.2 hr'
        have hc : ∀ m : List AV, concL E (a :: m) = conc E a :: concL E m := fun _ => rfl
        refine ⟨?_, ?_, ⟨hw.1, h3⟩, ?_⟩
        · rw [hc, hc, cellsOf_cons, cellsOf_cons, h1, List.take_append, List.take_of_length_le (l := (conc E a).cells.toList) (by omega), hwid]
        · rw [hc, cellsOf_cons, List.length_append, h2, hwid]; omega
        · simp only [okCells, List.all_cons, Bool.and_eq_true]
          exact ⟨ho'.1, h4⟩
      · cases h

theorem arrAt_sound {E : Env} {no nn : Nat} : ∀ (l : List AV) (off : Nat) (k : IntKind) (n : Nat) (xs : List Int), AV.wfL no nn l → okCells l = true → arrAt l off = some (k, n, xs) →
    xs.length = n ∧ ∀ j, j < n → (cellsOf (concL E l))[off + j]? = some (.int k (xs.getD j 0))
  | [], off, k, n, xs, _, _, h => by cases off <;> simp [arrAt] at h
  | a :: l, off, k, n, xs, hw, ho, h => by
    have ho' : okCell a = true ∧ okCells l = true := by
      simpa only [okCells, List.all_cons, Bool.and_eq_true] using ho
    have hwid := width_cells (E := E) ho'.1
    have hc : concL E (a :: l) = conc E a :: concL E l := rfl
    have far : (if width a ≤ off then (if width a = 0 then none else arrAt l (off - width a)) else none) = some (k, n, xs) →
        xs.length = n ∧ ∀ j, j < n → (cellsOf (concL E (a :: l)))[off + j]? = some (.int k (xs.getD j 0)) := by
      intro h
      split at h
      · split at h
        · cases h
        · obtain ⟨h1, h2⟩ := arrAt_sound l _ k n xs hw.2 ho'.2 h
          refine ⟨h1, fun j hj => ?_⟩
          rw [hc, cellsOf_cons, List.getElem?_append_right (by omega), hwid, show off + j - width a = off - width a + j from by omega]
          exact h2 j hj
      · cases h
    cases off with
    | succ off => unfold arrAt at h; cases a <;> exact far h
    | zero =>
      cases a with
      | arr k' n' xs' =>
        simp only [arrAt, Option.some.injEq, Prod.mk.injEq] at h
        obtain ⟨rfl, rfl, rfl⟩ := h
        refine ⟨hw.1, fun j hj => ?_⟩
        have hlen : (conc E (.arr k' n' xs')).cells.toList = arrVals k' n' xs' := by simp [conc, Value.cells]
        rw [hc, cellsOf_cons, hlen, List.getElem?_append_left (by rw [arrVals_length]; omega), Nat.zero_add, arrVals_get _ _ _ _ hj]
      | _ => unfold arrAt at h; exact far h

end Eng

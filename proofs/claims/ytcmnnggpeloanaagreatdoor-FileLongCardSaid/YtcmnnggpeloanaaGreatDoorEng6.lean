/- The engine, part 6: the rules that turn nothing are sound: loads, tests, arithmetic, conversions, addresses. -/
import Derived.Test.YtcmnnggpeloanaaGreatDoorEng5
namespace Eng
open Go

/-- what a rule says of an operation -/
def Snd (C : Ctx) (E : Env) (H : Heap) (w : World) (m : Sem Next) : Rule → Prop
  | .pure t => ∀ a, t.run = some a → a.wf H.o.length H.n.length ∧ m.run C.P w = .ok (.value (conc E a)) w
  | .read i f => ∀ s a, H.get C i = some s → (f s).run = some a → a.wf H.o.length H.n.length ∧ m.run C.P w = .ok (.value (conc E a)) w
  | .eff f => ∀ x, (f H).run = some x →
    match x.1 with
    | .val a => ∃ E' w', Step C E H w E' x.2 w' ∧ a.wf x.2.o.length x.2.n.length ∧ m.run C.P w = .ok (.value (conc E' a)) w'
    | .skip => ∃ E' w', Step C E H w E' x.2 w' ∧ m.run C.P w = .ok .skip w'
    | .call g args => x.2 = H ∧ AV.wfL H.o.length H.n.length args ∧ m.run C.P w = .ok (.enter g (concL E args).toArray) w

theorem Snd.stuck {C : Ctx} {E : Env} {H : Heap} {w : World} {m : Sem Next} : Snd C E H w m (.pure .stuck) := fun _ h => by cases h

theorem isAggT_some {P : Program} {t : TypeId} {b : Bool} (h : isAggT P t = some b) (w : World) : (isAgg t).run P w = .ok b w := by
  unfold isAggT at h
  cases hu : P.underlying t with
  | none => rw [hu] at h; cases h
  | some d =>
    rw [hu] at h
    simp only [isAgg, Sem.run_bind, run_underlying hu, Result.andThen_ok]
    cases d <;> simp_all

theorem sizeT_some {P : Program} {t : TypeId} {n : Nat} (h : sizeT P t = some n) (w : World) : (Go.sizeOf t).run P w = .ok n w := by
  unfold sizeT at h
  cases hi : P.info? t with
  | none => rw [hi] at h; cases h
  | some i =>
    rw [hi] at h
    simp only [Option.map_some, Option.some.injEq] at h
    simp [Go.sizeOf, typeInfo, hi, h]

theorem add_at (b o j : Nat) : (⟨b, o, none⟩ : Addr).add j = ⟨b, o + j, none⟩ := by
  unfold Addr.add
  split
  · rename_i h; subst h; rfl
  · rfl

/-- loading a variable whose cells are known -/
theorem run_loadVar_one {P : Program} {t : TypeId} {w : World} {b o : Nat} {v : Value} (h1 : isAggT P t = some false) (hc : w.cell? ⟨b, o, none⟩ = some v) :
    (Instr.loadAt t (.pointer (some ⟨b, o, none⟩))).run P w = .ok v w := by
  simp only [Instr.loadAt, Instr.sureAddr, Sem.run_bind, Sem.run_pure, Result.andThen_ok, loadVar, isAggT_some h1]
  simp [hc]

theorem run_loadVar_agg {P : Program} {t : TypeId} {w : World} {b o n : Nat} {cs : List Value} (h1 : isAggT P t = some true) (h2 : sizeT P t = some n) (hl : cs.length = n)
    (hc : ∀ j v, cs[j]? = some v → w.cell? ⟨b, o + j, none⟩ = some v) :
    (Instr.loadAt t (.pointer (some ⟨b, o, none⟩))).run P w = .ok (.agg cs.toArray) w := by
  have h := run_loadCells_list (P := P) w ⟨b, o, none⟩ cs (fun j v hj => by rw [add_at]; exact hc j v hj)
  subst hl
  simp only [Instr.loadAt, Instr.sureAddr, Sem.run_bind, Sem.run_pure, Result.andThen_ok, loadVar, isAggT_some h1, if_true, sizeT_some h2, h]

/-- the cells of a block that can be read -/
theorem cellsIn_real {s : Slot} {cs : List AV} {w : World} {E : Env} {en : Ent} (h : cellsIn s = some cs) (hr : s.real w E en) :
    ∃ b, en.blks = [b] ∧ ∀ j v, (cellsOf (concL E cs))[j]? = some v → w.cell? ⟨b, en.org + j, none⟩ = some v := by
  cases s with
  | cells c ty =>
    cases h
    obtain ⟨b, h1, h2, h3⟩ := hr
    refine ⟨b, h1, fun j v hv => ?_⟩
    unfold Thawed at h3
    rw [h2, Nat.zero_add]
    simp [World.cell?, h3, hv]
  | ro c => cases h; exact hr
  | _ => cases h

theorem cellsIn_wf {s : Slot} {cs : List AV} {no nn : Nat} (h : cellsIn s = some cs) (hr : s.wf no nn) : AV.wfL no nn cs ∧ okCells cs = true := by
  cases s <;> first | (cases h; done) | (cases h; exact hr)

theorem rowIn_real {s : Slot} {r : Row} {w : World} {E : Env} {en : Ent} (h : rowIn s = some r) (hr : s.real w E en) :
    (en.blks = [] ∧ r.length = 0 ∧ en.cap = 0) ∨ ∃ b, en.blks = [b] ∧ r.length ≤ en.cap ∧ ∀ j v, r.cells[j]? = some v → w.cell? ⟨b, en.org + j, none⟩ = some v := by
  cases s with
  | row r' ty =>
    cases h
    obtain ⟨h0, hr⟩ := hr
    rcases hr with hr | ⟨b, sp, h1, h2, h3, h4⟩
    · exact .inl hr
    · refine .inr ⟨b, h1, h3, fun j v hv => ?_⟩
      unfold Thawed at h2
      rw [h0, Nat.zero_add]
      have hj : j < r.cells.length := (List.getElem?_eq_some_iff.1 hv).1
      simp [World.cell?, h2, List.getElem?_append_left hj, hv]
  | win r' => cases h; exact hr
  | frow r' => cases h; exact hr
  | _ => cases h

theorem flatMap_len {α : Type} (f : Nat → List α) (sz : Nat) (hf : ∀ j, (f j).length = sz) (n : Nat) : ((List.range n).flatMap f).length = n * sz := by
  induction n with
  | zero => simp
  | succ n ih => rw [List.range_succ, List.flatMap_append, List.length_append, ih, Nat.add_mul, Nat.one_mul]; simp [hf]
theorem Row.cells_length (r : Row) : r.cells.length = r.length * r.sz := flatMap_len r.elem r.sz (Row.elem_length r) r.length

theorem flatMap_get {α : Type} (f : Nat → List α) (sz : Nat) (hf : ∀ j, (f j).length = sz) : ∀ (n j k : Nat), j < n → k < sz → ((List.range n).flatMap f)[j * sz + k]? = (f j)[k]? := by
  intro n
  induction n with
  | zero => intro j k h; omega
  | succ n ih =>
    intro j k hj hk
    rw [List.range_succ, List.flatMap_append]
    have hlen : ((List.range n).flatMap f).length = n * sz := flatMap_len f sz hf n
    by_cases e : j < n
    · have hlt : j * sz + k < n * sz := by
        have : (j + 1) * sz ≤ n * sz := Nat.mul_le_mul_right _ e
        rw [Nat.add_mul, Nat.one_mul] at this
        omega
      rw [List.getElem?_append_left (by omega)]
      exact ih j k e hk
    · have : j = n := by omega
      subst this
      rw [List.getElem?_append_right (by omega), hlen, show j * sz + k - j * sz = k from by omega]
      simp

theorem Row.cells_get (r : Row) (j k : Nat) (hj : j < r.length) (hk : k < r.sz) : r.cells[j * r.sz + k]? = (r.elem j)[k]? :=
  flatMap_get r.elem r.sz (Row.elem_length r) r.length j k hj hk

theorem recVals_get : ∀ (ks : List Kind) (as : List Atom) (n : Nat) (k : Kind), ks[n]? = some k → (recVals ks as)[n]? = some (Atom.val k (as.getD n (.i 0)))
  | [], as, n, k, h => by simp at h
  | k' :: ks, as, 0, k, h => by
    simp at h; subst h
    cases as <;> simp [recVals]
  | k' :: ks, as, n + 1, k, h => by
    simp at h
    have := recVals_get ks as.tail n k h
    cases as <;> simp_all [recVals]

theorem recAVs_conc (E : Env) : ∀ (ks : List Kind) (as : List Atom), concL E (recAVs ks as) = recVals ks as
  | [], as => rfl
  | k :: ks, as => by simp only [recAVs, recVals, concL, conc, recAVs_conc E ks]
theorem atom_one (k : Kind) (a : Atom) : (Atom.val k a).cells = #[Atom.val k a] ∧ (Atom.val k a).oneCell' = true := by
  cases k <;> cases a <;> simp [Atom.val, Value.cells, Value.oneCell']
theorem recVals_cells : ∀ (ks : List Kind) (as : List Atom), cellsOf (recVals ks as) = recVals ks as
  | [], as => rfl
  | k :: ks, as => by rw [recVals, cellsOf_cons, recVals_cells ks, (atom_one _ _).1]; rfl
theorem recAVs_wf (no nn : Nat) : ∀ (ks : List Kind) (as : List Atom), AV.wfL no nn (recAVs ks as)
  | [], as => trivial
  | k :: ks, as => ⟨trivial, recAVs_wf no nn ks _⟩

/-- an element of a row, read -/
theorem row_load_sound {P : Program} {t : TypeId} {E : Env} {r : Row} {agg : Bool} {n j fo b org no nn : Nat} {w : World} {a : AV} (h1 : isAggT P t = some agg) (h2 : sizeT P t = some n)
    (hb : ∀ j v, r.cells[j]? = some v → w.cell? ⟨b, org + j, none⟩ = some v) (h : (r.load agg n j fo).run = some a) :
    a.wf no nn ∧ j < r.length ∧ (Instr.loadAt t (.pointer (some ⟨b, org + (j * r.sz + fo), none⟩))).run P w = .ok (conc E a) w := by
  cases r with
  | ints k l =>
    obtain ⟨hm, h⟩ := must_some h
    obtain ⟨hj, h⟩ := req_some h
    have := leaf_some h; subst this
    simp only [Bool.and_eq_true, Bool.not_eq_true', beq_iff_eq, decide_eq_true_eq] at hm hj
    obtain ⟨rfl, rfl⟩ := hm
    refine ⟨trivial, hj, run_loadVar_one h1 (hb _ _ ?_)⟩
    have := Row.cells_get (.ints k l) j 0 hj (by simp [Row.sz])
    simpa [Row.elem, conc] using this
  | strs l =>
    obtain ⟨hm, h⟩ := must_some h
    obtain ⟨hj, h⟩ := req_some h
    have := leaf_some h; subst this
    simp only [Bool.and_eq_true, Bool.not_eq_true', beq_iff_eq, decide_eq_true_eq] at hm hj
    obtain ⟨rfl, rfl⟩ := hm
    refine ⟨trivial, hj, run_loadVar_one h1 (hb _ _ ?_)⟩
    have := Row.cells_get (.strs l) j 0 hj (by simp [Row.sz])
    simpa [Row.elem, conc] using this
  | recs ks l =>
    unfold Row.load at h
    simp only at h
    cases agg with
    | true =>
      simp only [if_true] at h
      obtain ⟨hm, h⟩ := must_some h
      obtain ⟨hj, h⟩ := req_some h
      have := leaf_some h; subst this
      simp only [Bool.and_eq_true, beq_iff_eq, decide_eq_true_eq] at hm hj
      obtain ⟨rfl, rfl⟩ := hm
      refine ⟨recAVs_wf _ _ _ _, hj, ?_⟩
      rw [conc, recAVs_conc, recVals_cells]
      refine run_loadVar_agg h1 h2 (recVals_length _ _) (fun i v hv => ?_)
      have hi : i < ks.length := by have := (List.getElem?_eq_some_iff.1 hv).1; rwa [recVals_length] at this
      have := Row.cells_get (.recs ks l) j i hj hi
      rw [show (Row.recs ks l).elem j = recVals ks (l.getD j []) from rfl, hv] at this
      rw [show org + (j * (Row.recs ks l).sz + 0) + i = org + (j * (Row.recs ks l).sz + i) from by omega]
      exact hb _ _ this
    | false =>
      simp only [Bool.false_eq_true, if_false] at h
      split at h
      · rename_i k hk
        obtain ⟨hj, h⟩ := req_some h
        have := leaf_some h; subst this
        simp only [decide_eq_true_eq] at hj
        refine ⟨trivial, hj, run_loadVar_one h1 (hb _ _ ?_)⟩
        have hi : fo < ks.length := (List.getElem?_eq_some_iff.1 hk).1
        rw [Row.cells_get (.recs ks l) j fo hj hi]
        exact recVals_get ks _ fo k hk
      · cases h

theorem blk_one {E : Env} {i : Id} {b : Nat} (h : (E i).blks = [b]) : E.blk i = some b := by unfold Env.blk; rw [h]; rfl

variable {C : Ctx} {E : Env} {H : Heap} {w : World}

theorem load_sound (hR : Real C w E H) (t : TypeId) (a : AV) {m : Sem Next} (hm : m = (do pure (.value (← Instr.loadAt t (conc E a))))) : Snd C E H w m (loadRule C.P t a) := by
  subst hm
  cases a with
  | ptr i off =>
    intro s a hi h
    have hreal := hR.slot i s hi
    cases hcs : cellsIn s with
    | none => simp only [hcs] at h; cases h
    | some cs =>
    simp only [hcs] at h
    have hcw := cellsIn_wf hcs (hR.wf i s hi)
    obtain ⟨b, hb, hcell⟩ := cellsIn_real hcs hreal
    have hc : conc E (.ptr i off) = .pointer (some ⟨b, (E i).org + off, none⟩) := by simp only [conc, blk_one hb]; rfl
    rw [hc]
    split at h
    · rename_i h1 h2
      have h := fromO_some h
      obtain ⟨hx, hw, _⟩ := cellAt_sound (E := E) cs off a hcw.1 h
      exact ⟨hw, vrun (run_loadVar_one h1 (hcell _ _ hx))⟩
    · rename_i n h1 h2
      obtain ⟨l, hl, h⟩ := T.bind_some h
      have := leaf_some h; subst this
      have hl := fromO_some hl
      rw [Option.bind_eq_some_iff] at hl
      obtain ⟨l1, hl1, hl2⟩ := hl
      obtain ⟨e1, w1, o1⟩ := dropW_sound (E := E) cs off l1 hcw.1 hcw.2 hl1
      obtain ⟨e2, len2, w2, o2⟩ := takeW_sound (E := E) l1 n l w1 o1 hl2
      refine ⟨w2, vrun ?_⟩
      rw [conc]
      refine run_loadVar_agg h1 h2 len2 (fun j v hv => ?_)
      rw [Nat.add_assoc]
      refine hcell _ _ ?_
      rw [e2, List.getElem?_take] at hv
      split at hv
      · rw [e1, List.getElem?_drop] at hv; exact hv
      · cases hv
    · cases h
  | ap i off j =>
    intro s a hi h
    have hreal := hR.slot i s hi
    cases hcs : cellsIn s with
    | none => simp only [hcs] at h; cases h
    | some cs =>
    simp only [hcs] at h
    have hcw := cellsIn_wf hcs (hR.wf i s hi)
    obtain ⟨b, hb, hcell⟩ := cellsIn_real hcs hreal
    have hc : conc E (.ap i off j) = .pointer (some ⟨b, (E i).org + (off + j), none⟩) := by simp only [conc, blk_one hb]; rfl
    rw [hc]
    split at h
    · rename_i k n l h1 h2 h3
      obtain ⟨hj, h⟩ := req_some h
      have := leaf_some h; subst this
      simp only [decide_eq_true_eq] at hj
      obtain ⟨_, hx⟩ := arrAt_sound (E := E) cs off k n l hcw.1 hcw.2 h3
      exact ⟨trivial, vrun (run_loadVar_one h1 (hcell _ _ (hx j hj)))⟩
    · cases h
  | ep i sz j fo =>
    intro s a hi h
    have hreal := hR.slot i s hi
    cases hcs : rowIn s with
    | none => simp only [hcs] at h; cases h
    | some r =>
    simp only [hcs] at h
    split at h
    · rename_i ag n h1 h2
      obtain ⟨hm, h⟩ := must_some h
      simp only [Bool.and_eq_true, beq_iff_eq] at hm
      rcases rowIn_real hcs hreal with ⟨_, h0, _⟩ | ⟨b, hb, hlc, hcell⟩
      · have := row_load_sound (no := 0) (nn := 0) (E := E) (b := 0) (org := 0) (w := w) h1 h2 (fun j v hv => by
          have := (List.getElem?_eq_some_iff.1 hv).1
          rw [Row.cells_length, h0] at this
          omega) h
        omega
      · obtain ⟨hw, _, hrun⟩ := row_load_sound (no := H.o.length) (nn := H.n.length) (E := E) h1 h2 hcell h
        refine ⟨hw, vrun ?_⟩
        rw [conc, blk_one hb, hm.1]
        exact hrun
    · cases h
  | _ => exact Snd.stuck

end Eng

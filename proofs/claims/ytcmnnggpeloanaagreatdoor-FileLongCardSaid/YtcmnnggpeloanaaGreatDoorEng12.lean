/- The engine, part 12: the rule of a store; slice and struct literals; make. -/
import Derived.Test.YtcmnnggpeloanaaGreatDoorEng11b
namespace Eng
open Go

variable {C : Ctx} {E : Env} {H : Heap} {w : World}

theorem run_storeAt {P : Program} {t : TypeId} {w : World} {b o n : Nat} {cur : List Value} {ty : TypeId} {x : Value} (h2 : sizeT P t = some n) (hb : Thawed w b cur ty)
    (hn : x.cells.toList.length = n) (ho : o + n ≤ cur.length) (h1 : ∀ v ∈ x.cells.toList, v.oneCell' = true) :
    (Instr.storeAt t (.pointer (some ⟨b, o, none⟩)) x).run P w = .ok () (w.setRow b (over cur o x.cells.toList).toArray) := by
  unfold Thawed at hb
  have hs := run_storeCells_at P b o ty x.cells.toList 0 cur.toArray w hb (by simp; simp at hn; omega) h1
  simp only [Instr.storeAt, Instr.sureAddr, Sem.run_bind, Sem.run_pure, Result.andThen_ok, storeVar, sizeT_some h2]
  rw [if_neg (by simp at hn; simp [hn])]
  rw [hs]
  simp only [Nat.add_zero, over]

theorem okCell_vals {E : Env} {a : AV} (h : okCell a = true) : ∀ v ∈ (conc E a).cells.toList, v.oneCell' = true := by
  intro v hv
  cases ha : isOne a with
  | true =>
    have := isOne_conc (E := E) ha
    rw [this.2] at hv
    simp at hv; subst hv; exact this.1
  | false =>
    cases a with
    | arr k n l =>
      simp [conc, Value.cells, arrVals] at hv
      obtain ⟨i, _, rfl⟩ := hv; rfl
    | _ => simp [okCell, ha] at h
theorem okCells_vals {E : Env} : ∀ {l : List AV}, okCells l = true → ∀ v ∈ cellsOf (concL E l), v.oneCell' = true
  | [], _, v, hv => by simp [concL, cellsOf] at hv
  | a :: l, h, v, hv => by
    rw [okCells_cons] at h
    rw [show concL E (a :: l) = conc E a :: concL E l from rfl, cellsOf_cons, List.mem_append] at hv
    rcases hv with hv | hv
    · exact okCell_vals h.1 v hv
    · exact okCells_vals h.2 v hv

/-- a block of cells is written over -/
theorem step_cells (hR : Real C w E H) {i : Id} {cs cs' : List AV} {ty : TypeId} (hi : H.get C i = some (.cells cs ty)) {b : Nat} (hb : (E i).blks = [b]) {new : List Value} {o : Nat}
    (hc : cellsOf (concL E cs') = over (cellsOf (concL E cs)) o new) (hw : AV.wfL H.o.length H.n.length cs') (ho : okCells cs' = true) :
    Step C E H w E (H.set i (.cells cs' ty)) (w.setRow b (over (cellsOf (concL E cs)) o new).toArray) := by
  obtain ⟨b', hb', horg, ht⟩ := hR.slot i _ hi
  have : b' = b := by rw [hb] at hb'; simpa using hb'.symm
  subst this
  unfold Thawed at ht
  refine step_set hR hi rfl rfl ⟨hw, ho⟩ ⟨b', hb', horg, ?_⟩ (setRow_size _ _ _) (fun k hk => setRow_other _ _ _ _ (fun e => hk (by rw [hb]; simp [e]))) rfl rfl rfl
  unfold Thawed
  rw [hc]
  exact setRow_heap w b' _ _ ty (0, 0) ht

theorem row_set_cells {r r' : Row} {j : Nat} {new : List Value} (hj : j < r.length) (hl : r'.length = r.length) (hs : r'.sz = r.sz) (he : r'.elem j = new) (hne : ∀ i, i ≠ j → r'.elem i = r.elem i) :
    r'.cells = over r.cells (j * r.sz) new := by
  unfold Row.cells
  rw [hl, ← he]
  exact flatMap_over (Row.elem_length r) (fun i => by rw [Row.elem_length, hs]) hne r.length hj

theorem recOf_cells {E : Env} : ∀ (ks : List Kind) (l : List AV) (as : List Atom), recOf ks l = some as → recVals ks as = cellsOf (concL E l)
  | [], [], as, h => by simp [recOf] at h; subst h; rfl
  | k :: ks, a :: l, as, h => by
    unfold recOf at h
    split at h
    · rename_i x xs hx hxs
      simp only [Option.some.injEq] at h; subst h
      have hv : conc E a = Atom.val k x ∧ isOne a = true := by
        unfold atomOf at hx
        split at hx
        · split at hx
          · rename_i hk; subst hk; simp only [Option.some.injEq] at hx; subst hx; exact ⟨rfl, rfl⟩
          · cases hx
        · simp only [Option.some.injEq] at hx; subst hx; exact ⟨rfl, rfl⟩
        · simp only [Option.some.injEq] at hx; subst hx; exact ⟨rfl, rfl⟩
        · cases hx
      rw [show concL E (a :: l) = conc E a :: concL E l from rfl, cellsOf_cons, (isOne_conc hv.2).2, hv.1, ← recOf_cells ks l xs hxs]
      rfl
    · cases h
  | [], _ :: _, as, h => by simp [recOf] at h
  | _ :: _, [], as, h => by simp [recOf] at h

theorem recOf_ok : ∀ (ks : List Kind) (l : List AV) (as : List Atom), recOf ks l = some as → okCells l = true
  | [], [], as, h => rfl
  | k :: ks, a :: l, as, h => by
    unfold recOf at h
    split at h
    · rename_i x xs hx hxs
      refine okCells_cons.2 ⟨?_, recOf_ok ks l xs hxs⟩
      unfold atomOf at hx
      split at hx <;> first | rfl | (cases hx; done) | (split at hx <;> first | rfl | (cases hx; done))
    · cases h
  | [], _ :: _, as, h => by simp [recOf] at h
  | _ :: _, [], as, h => by simp [recOf] at h

/-- an element of a row, written -/
theorem row_store_sound {E : Env} {r r' : Row} {agg : Bool} {j fo : Nat} {x : AV} (h : (r.store agg j fo x).run = some r') :
    j < r.length ∧ fo = 0 ∧ r'.length = r.length ∧ r'.sz = r.sz ∧ r'.cells = over r.cells (j * r.sz) (conc E x).cells.toList ∧ (conc E x).cells.toList.length = r.sz ∧ (∀ v ∈ (conc E x).cells.toList, v.oneCell' = true) ∧ (agg = false → r.sz = 1) := by
  cases r with
  | ints k l =>
    unfold Row.store at h
    cases x with
    | v y c =>
      cases y with
      | int k' y =>
        simp only at h
        obtain ⟨hm, h⟩ := must_some h
        obtain ⟨hj, h⟩ := req_some h
        have := leaf_some h; subst this
        simp only [Bool.and_eq_true, Bool.not_eq_true', beq_iff_eq, decide_eq_true_eq] at hm hj
        obtain ⟨⟨rfl, rfl⟩, rfl⟩ := hm
        refine ⟨hj, rfl, by simp [Row.length], rfl, row_set_cells hj (by simp [Row.length]) rfl ?_ ?_, rfl, ?_, fun _ => rfl⟩
        · simp [Row.elem, conc, Value.cells, hj]
        · intro i hi
          simp [Row.elem, List.getD_eq_getElem?_getD, Ne.symm hi]
        · intro v hv; simp [conc, Value.cells] at hv; subst hv; rfl
      | _ => cases h
    | _ => cases h
  | strs l =>
    unfold Row.store at h
    cases x with
    | v y c =>
      cases y with
      | string y =>
        simp only at h
        obtain ⟨hm, h⟩ := must_some h
        obtain ⟨hj, h⟩ := req_some h
        have := leaf_some h; subst this
        simp only [Bool.and_eq_true, Bool.not_eq_true', beq_iff_eq, decide_eq_true_eq] at hm hj
        obtain ⟨rfl, rfl⟩ := hm
        refine ⟨hj, rfl, by simp [Row.length], rfl, row_set_cells hj (by simp [Row.length]) rfl ?_ ?_, rfl, ?_, fun _ => rfl⟩
        · simp [Row.elem, conc, Value.cells, hj]
        · intro i hi
          simp [Row.elem, List.getD_eq_getElem?_getD, Ne.symm hi]
        · intro v hv; simp [conc, Value.cells] at hv; subst hv; rfl
      | _ => cases h
    | _ => cases h
  | recs ks l =>
    unfold Row.store at h
    simp only at h
    cases agg with
    | false => simp at h; cases h
    | true =>
      simp only [if_true] at h
      split at h
      · rename_i a ha
        obtain ⟨hm, h⟩ := must_some h
        obtain ⟨hj, h⟩ := req_some h
        have := leaf_some h; subst this
        simp only [beq_iff_eq, decide_eq_true_eq] at hm hj
        have hok := recOf_ok ks _ a ha
        have hce := explode_cells E x hok
        have hrv := recOf_cells (E := E) ks _ a ha
        rw [hce] at hrv
        refine ⟨hj, hm, by simp [Row.length], rfl, row_set_cells hj (by simp [Row.length]) rfl ?_ ?_, ?_, ?_, fun h => by cases h⟩
        · rw [← hrv]; simp only [Row.elem]; rw [show (l.set j a).getD j [] = a from by simp [show j < l.length from hj]]
        · intro i hi
          simp [Row.elem, List.getD_eq_getElem?_getD, Ne.symm hi]
        · rw [← hrv, recVals_length]; rfl
        · intro v hv; rw [← hce] at hv; exact okCells_vals hok v hv
      · cases h

theorem store_sound (hR : Real C w E H) (t : TypeId) (a x : AV) (hxw : x.wf H.o.length H.n.length) :
    Snd C E H w (do Instr.storeAt t (conc E a) (conc E x); pure .skip) (storeRule C t a x) := by
  have fin : ∀ {w' : World}, (Instr.storeAt t (conc E a) (conc E x)).run C.P w = .ok () w' → (do Instr.storeAt t (conc E a) (conc E x); pure .skip : Sem Next).run C.P w = .ok .skip w' := by
    intro w' h; simp only [Sem.run_bind, h, Result.andThen_ok, Sem.run_pure]
  cases a with
  | ptr i off =>
    intro y h
    simp only [] at h
    split at h
    · rename_i cs ty hi h1 h2
      obtain ⟨hone, h⟩ := must_some h
      obtain ⟨cs', hcs', h⟩ := T.bind_some h
      have := leaf_some h; subst this
      have hcs' := fromO_some hcs'
      have hwf := hR.wf i _ hi
      obtain ⟨b, hb, horg, ht⟩ := hR.slot i _ hi
      obtain ⟨e1, e2, e3, e4⟩ := cellSet_sound (E := E) hone hxw cs off cs' hwf.1 hwf.2 hcs'
      have hone' := isOne_conc (E := E) hone
      have hst := step_cells hR hi hb e1 e3 e4
      obtain ⟨E2, hs2⟩ := fixL_step i (sliceOffs C.P 20 t off) hst.real
      refine ⟨E2, _, hst.trans hs2, fin ?_⟩
      have hrun := run_storeAt (t := t) (o := off) (x := conc E x) (n := 1) h2 ht (by rw [hone'.2]; rfl) (by omega) (by rw [hone'.2]; intro v hv; simp at hv; subst hv; exact hone'.1)
      rw [hone'.2] at hrun
      simp only [conc, blk_one hb, Option.map_some, horg, Nat.zero_add] at hrun ⊢
      exact hrun
    · rename_i cs ty n hi h1 h2
      obtain ⟨hone, h⟩ := must_some h
      obtain ⟨cs', hcs', h⟩ := T.bind_some h
      have := leaf_some h; subst this
      have hcs' := fromO_some hcs'
      rw [Bool.and_eq_true, beq_iff_eq] at hone
      have hwf := hR.wf i _ hi
      obtain ⟨b, hb, horg, ht⟩ := hR.slot i _ hi
      have hce := explode_cells E x hone.2
      have hlen : (cellsOf (concL E (explode x))).length = n := by rw [widthL_cells _ hone.2, hone.1]
      obtain ⟨e1, e2, e3, e4⟩ := splice_sound (E := E) hwf.1 hwf.2 (explode_wf hxw) hone.2 hlen hcs'
      have hst := step_cells hR hi hb e1 e3 e4
      obtain ⟨E2, hs2⟩ := fixL_step i (sliceOffs C.P 20 t off) hst.real
      refine ⟨E2, _, hst.trans hs2, fin ?_⟩
      have hrun := run_storeAt (t := t) (o := off) (x := conc E x) (n := n) h2 ht (by rw [← hce]; exact hlen) e2 (by rw [← hce]; exact okCells_vals hone.2)
      rw [← hce] at hrun
      simp only [conc, blk_one hb, Option.map_some, horg, Nat.zero_add] at hrun ⊢
      exact hrun
    · cases h
  | ap i off j =>
    intro y h
    simp only [] at h
    split at h
    · rename_i cs ty k' yv c hi h1 h2
      split at h
      · rename_i k n l hat
        obtain ⟨hk, h⟩ := must_some h
        obtain ⟨hj, h⟩ := req_some h
        obtain ⟨cs', hcs', h⟩ := T.bind_some h
        have := leaf_some h; subst this
        have hcs' := fromO_some hcs'
        simp only [decide_eq_true_eq] at hk hj
        subst hk
        have hwf := hR.wf i _ hi
        obtain ⟨b, hb, horg, ht⟩ := hR.slot i _ hi
        obtain ⟨e1, e2, e3, e4⟩ := arrPut_sound (E := E) (y := yv) hj cs off cs' hwf.1 hwf.2 hat hcs'
        refine ⟨E, _, step_cells hR hi hb e1 e3 e4, fin ?_⟩
        have hrun := run_storeAt (t := t) (o := off + j) (x := .int k yv) (n := 1) h2 ht rfl (by omega) (by intro v hv; simp [Value.cells] at hv; subst hv; rfl)
        simp only [conc, blk_one hb, Option.map_some, horg, Nat.zero_add]
        exact hrun
      · cases h
    · cases h
  | ep i sz j fo =>
    intro y h
    simp only [] at h
    split at h
    · rename_i r ty ag n hi h1 h2
      obtain ⟨hm, h⟩ := must_some h
      obtain ⟨r', hr', h⟩ := T.bind_some h
      have := leaf_some h; subst this
      rw [Bool.and_eq_true, beq_iff_eq] at hm
      obtain ⟨hj, rfl, hl, hs, hc, hcl, hone, hsz⟩ := row_store_sound (E := E) hr'
      have hn : n = r.sz := by
        have := hm.2
        split at this
        · simpa using this
        · rename_i hag
          have := hsz (by simpa using hag)
          simp_all
      obtain ⟨horg, hreal⟩ := hR.slot i _ hi
      rcases hreal with ⟨_, h0, _⟩ | ⟨b, sp, hb, ht, hlc, hcap⟩
      · omega
      · have hfit : j * r.sz + r.sz ≤ r.cells.length := by
          rw [Row.cells_length]
          have : (j + 1) * r.sz ≤ r.length * r.sz := Nat.mul_le_mul_right _ hj
          rw [Nat.add_mul, Nat.one_mul] at this
          exact this
        have hover : over (r.cells ++ sp) (j * r.sz) (conc E x).cells.toList = r'.cells ++ sp := by
          rw [over_append (by rw [hcl]; exact hfit), hc]
        refine ⟨E, w.setRow b (over (r.cells ++ sp) (j * r.sz) (conc E x).cells.toList).toArray, ?_, fin ?_⟩
        · refine step_set hR hi rfl rfl trivial ⟨horg, .inr ⟨b, sp, hb, ?_, by rw [hl]; exact hlc, ?_⟩⟩ (setRow_size _ _ _) (fun k hk => setRow_other _ _ _ _ (fun e => hk (by rw [hb]; simp [e]))) rfl rfl rfl
          · unfold Thawed at ht ⊢
            rw [hover]
            exact setRow_heap w b _ _ ty (0, 0) ht
          · rw [← hover, over_length (by rw [hcl, List.length_append]; omega), hs]; exact hcap
        · have hrun := run_storeAt (t := t) (o := j * r.sz) (x := conc E x) (n := n) h2 ht (by rw [hcl, hn]) (by rw [hn, List.length_append]; omega) hone
          simp only [conc, blk_one hb, Option.map_some, horg, Nat.zero_add, Nat.add_zero, hm.1] at hrun ⊢
          exact hrun
    · cases h
  | _ => exact Snd.stuck

end Eng

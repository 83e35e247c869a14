/- The engine, part 16: slice and struct literals, calls; every rule is sound. -/
import Derived.Test.YtcmnnggpeloanaaGreatDoorEng15
namespace Eng
open Go

variable {C : Ctx} {E : Env} {H : Heap} {w : World}

theorem inOrder_some {E : Env} : ∀ (l : List (Nat × AV)) (n : Nat) (r : List AV), inOrder n l = some r → l = (r.zipIdx n).map fun x => (x.2, x.1)
  | [], n, r, h => by simp [inOrder] at h; subst h; rfl
  | (i, a) :: l, n, r, h => by
    unfold inOrder at h
    split at h
    · rename_i hi
      rw [Option.map_eq_some_iff] at h
      obtain ⟨r', hr', rfl⟩ := h
      rw [inOrder_some (E := E) l (n + 1) r' hr', List.zipIdx_cons, List.map_cons, hi]
    · cases h

theorem map_zip (f : AV → Value) : ∀ (l : List AV) (n : Nat), ((l.zipIdx n).map fun x => (x.2, x.1)).map (fun p => (p.1, f p.2)) = ((l.map f).zipIdx n).map fun x => (x.2, x.1)
  | [], n => rfl
  | a :: l, n => by
    simp only [List.zipIdx_cons, List.map_cons]
    rw [map_zip f l (n + 1)]

theorem row_cells_cons {r r' : Row} {v : List Value} (hl : r.length = r'.length + 1) (hs : r.sz = r'.sz) (h0 : r.elem 0 = v) (h : ∀ j, r.elem (j + 1) = r'.elem j) : r.cells = v ++ r'.cells := by
  unfold Row.cells
  rw [hl, List.range_succ_eq_map, List.flatMap_cons, h0, List.flatMap_map]
  congr 1
  rw [List.flatMap_def, List.flatMap_def]
  congr 1
  exact List.map_congr_left fun j _ => h j

/-- a row out of elements: its cells are theirs -/
theorem intsOf_cells {E : Env} {k : IntKind} : ∀ (l : List AV) (xs : List Int), intsOf k l = some xs → xs.length = l.length ∧ (Row.ints k xs).cells = (l.map (conc E)).flatMap (fun v => v.cells.toList) ∧ ∀ v ∈ l.map (conc E), v.cells.size = 1
  | [], xs, h => by simp [intsOf] at h; subst h; exact ⟨rfl, rfl, by simp⟩
  | a :: l, xs, h => by
    unfold intsOf at h
    cases a with
    | v y c =>
      cases y with
      | int k' x =>
        simp only at h
        split at h
        · rename_i hk
          rw [Option.map_eq_some_iff] at h
          obtain ⟨r, hr, rfl⟩ := h
          obtain ⟨h1, h2, h3⟩ := intsOf_cells (E := E) l r hr
          subst hk
          refine ⟨by simp [h1], ?_, ?_⟩
          · rw [row_cells_cons (r := .ints k (x :: r)) (r' := .ints k r) (v := [.int k x]) (by simp [Row.length]) rfl (by simp [Row.elem]) (fun j => by simp [Row.elem]), h2]; simp [conc, Value.cells]
          · intro v hv
            rw [List.map_cons, List.mem_cons] at hv
            rcases hv with hv | hv
            · subst hv; rfl
            · exact h3 v hv
        · cases h
      | _ => cases h
    | _ => cases h
theorem strsOf_cells {E : Env} : ∀ (l : List AV) (xs : List ByteArray), strsOf l = some xs → xs.length = l.length ∧ (Row.strs xs).cells = (l.map (conc E)).flatMap (fun v => v.cells.toList) ∧ ∀ v ∈ l.map (conc E), v.cells.size = 1
  | [], xs, h => by simp [strsOf] at h; subst h; exact ⟨rfl, rfl, by simp⟩
  | a :: l, xs, h => by
    unfold strsOf at h
    cases a with
    | v y c =>
      cases y with
      | string x =>
        simp only at h
        rw [Option.map_eq_some_iff] at h
        obtain ⟨r, hr, rfl⟩ := h
        obtain ⟨h1, h2, h3⟩ := strsOf_cells (E := E) l r hr
        refine ⟨by simp [h1], ?_, ?_⟩
        · rw [row_cells_cons (r := .strs (x :: r)) (r' := .strs r) (v := [.string x]) (by simp [Row.length]) rfl (by simp [Row.elem]) (fun j => by simp [Row.elem]), h2]; simp [conc, Value.cells]
        · intro v hv
          rw [List.map_cons, List.mem_cons] at hv
          rcases hv with hv | hv
          · subst hv; rfl
          · exact h3 v hv
      | _ => cases h
    | _ => cases h
theorem recsOf_cells {E : Env} {ks : List Kind} : ∀ (l : List AV) (xs : List (List Atom)), recsOf ks l = some xs → xs.length = l.length ∧ (Row.recs ks xs).cells = (l.map (conc E)).flatMap (fun v => v.cells.toList) ∧ ∀ v ∈ l.map (conc E), v.cells.size = ks.length
  | [], xs, h => by simp [recsOf] at h; subst h; exact ⟨rfl, rfl, by simp⟩
  | a :: l, xs, h => by
    unfold recsOf at h
    split at h
    · rename_i x xs' hx hxs
      simp only [Option.some.injEq] at h; subst h
      obtain ⟨h1, h2, h3⟩ := recsOf_cells (E := E) l xs' hxs
      have hok := recOf_ok ks _ x hx
      have hce := explode_cells E a hok
      have hrv := recOf_cells (E := E) ks _ x hx
      rw [hce] at hrv
      refine ⟨by simp [h1], ?_, ?_⟩
      · rw [row_cells_cons (r := .recs ks (x :: xs')) (r' := .recs ks xs') (v := recVals ks x) (by simp [Row.length]) rfl (by simp [Row.elem]) (fun j => by simp [Row.elem]), h2, hrv]; simp
      · intro v hv
        rw [List.map_cons, List.mem_cons] at hv
        rcases hv with hv | hv
        · subst hv
          have := recVals_length ks x
          rw [hrv] at this
          simpa using this
        · exact h3 v hv
    · cases h
theorem rowOf_cells {E : Env} {P : Program} {e : TypeId} {l : List AV} {r : Row} (h : rowOf P e l = some r) : r.length = l.length ∧ r.cells = (l.map (conc E)).flatMap (fun v => v.cells.toList) ∧ ∀ v ∈ l.map (conc E), v.cells.size = r.sz := by
  unfold rowOf at h
  split at h
  · rw [Option.map_eq_some_iff] at h
    obtain ⟨x, hx, rfl⟩ := h
    exact intsOf_cells l x hx
  · rw [Option.map_eq_some_iff] at h
    obtain ⟨x, hx, rfl⟩ := h
    exact strsOf_cells l x hx
  · rw [Option.bind_eq_some_iff] at h
    obtain ⟨ks, _, h⟩ := h
    rw [Option.map_eq_some_iff] at h
    obtain ⟨x, hx, rfl⟩ := h
    exact recsOf_cells l x hx
  · cases h

theorem buildSlice_sound (hR : Real C w E H) (t : TypeId) (len : Nat) (parts : List (Nat × AV)) (ps : Array (Nat × Value)) (hps : ps.toList = parts.map fun p => (p.1, conc E p.2)) :
    Snd C E H w (do pure (.value (← Instr.buildSlice t len ps))) (buildSliceRule C.P t len parts) := by
  intro y h
  simp only [] at h
  split at h
  · rename_i e hu
    split at h
    · rename_i l hl
      split at h
      · rename_i r sz hr hsz
        obtain ⟨hm, h⟩ := must_some h
        have := leaf_some h; subst this
        simp only [Bool.and_eq_true, beq_iff_eq, decide_eq_true_eq] at hm
        obtain ⟨⟨⟨⟨⟨h1, h2⟩, h3⟩, h4⟩, h5⟩, h6⟩ := hm
        rw [Option.isSome_iff_exists] at h6
        obtain ⟨z, hz⟩ := h6
        rw [Option.bind_eq_some_iff] at hz
        obtain ⟨i, hi, hz⟩ := hz
        obtain ⟨c1, c2, c3⟩ := rowOf_cells (E := E) hr
        have hord := inOrder_some (E := E) parts 0 l hl
        have hlist : ps.toList = ((l.map (conc E)).zipIdx 0).map fun x => (x.2, x.1) := by rw [hps, hord, map_zip]
        have hne : ¬ (len * sz = 0) ∨ len = 0 := by
          rcases Nat.eq_zero_or_pos len with h0 | h0
          · exact .inr h0
          · left; intro h0'
            rcases Nat.mul_eq_zero.1 h0' with h7 | h7 <;> omega
        have hfill : ∀ (zc : Array Value), Instr.fill (fun i => some (i * sz, sz)) ((Array.range (len * sz)).map (fun j => zc[j % zc.size]!)) ps.toList = some r.cells.toArray := by
          intro zc
          rw [hlist]
          have := fill_slice (size := sz) (l.map (conc E)) 0 [] ((Array.range (len * sz)).map (fun j => zc[j % zc.size]!)).toList (by simp [h2]) (by simp) (fun v hv => by rw [h3]; exact c3 v hv)
          rw [c2]
          rw [Array.toArray_toList] at this
          rw [this]
          simp
        obtain ⟨E', hst, hc⟩ := step_row hR (r := r) (t := e) (cap := len) (xs := r.cells.toArray) (spare := []) (w' := w.alloc (.cells r.cells.toArray e)) (by simp) (by omega) (by simp [Row.cells_length, h1]) rfl rfl rfl rfl
        refine ⟨E', _, hst, by simp [AV.wf, newSlot, Id.ok, Heap.add], vrun ?_⟩
        rw [h1] at hc
        rw [hc]
        simp only [Instr.buildSlice, Sem.run_bind, run_underlying hu, Result.andThen_ok, sizeT_some hsz]
        rw [if_neg (by omega)]
        by_cases h0 : len * sz = 0
        · simp only [h0, if_true, Sem.run_bind, Sem.run_pure, Result.andThen_ok]
          have := hfill #[]
          rw [h0] at this
          rw [this]
          simp only [Sem.run_bind, run_newRow, Result.andThen_ok, Sem.run_pure]
        · simp only [h0, if_false, Sem.run_bind, zeroValue, typeInfo, run_program, hi, Sem.run_pure, Result.andThen_ok, hz]
          rw [hfill z.cells]
          simp only [Sem.run_bind, run_newRow, Result.andThen_ok, Sem.run_pure]
      · cases h
    · cases h
  · cases h


theorem fill_struct {E : Env} {P : Program} {fs : Array Field} {no nn : Nat} {places : Array (Nat × Nat)} (hpl : ∀ (i : Nat) (f : Field) (n : Nat), fs[i]? = some f → sizeT P f.type = some n → places[i]? = some (f.offset, n)) :
    ∀ (parts : List (Nat × AV)) (cs r : List AV), AV.wfL no nn cs → okCells cs = true → (∀ p ∈ parts, AV.wf no nn p.2) → fillAV P fs cs parts = some r →
      Instr.fill (places[·]?) (cellsOf (concL E cs)).toArray (parts.map fun p => (p.1, conc E p.2)) = some (cellsOf (concL E r)).toArray ∧ AV.wfL no nn r ∧ okCells r = true
  | [], cs, r, hw, ho, _, h => by simp [fillAV] at h; subst h; exact ⟨rfl, hw, ho⟩
  | (i, a) :: l, cs, r, hw, ho, hp, h => by
    unfold fillAV at h
    split at h
    · rename_i f hf
      split at h
      · rename_i n hn
        split at h
        · rename_i hok
          rw [Option.bind_eq_some_iff] at h
          obtain ⟨cs', hcs', h⟩ := h
          have haw := hp (i, a) List.mem_cons_self
          have hce := explode_cells E a hok.2
          have hlen : (cellsOf (concL E (explode a))).length = n := by rw [widthL_cells _ hok.2, hok.1]
          obtain ⟨e1, e2, e3, e4⟩ := splice_sound (E := E) hw ho (explode_wf haw) hok.2 hlen hcs'
          obtain ⟨f1, f2, f3⟩ := fill_struct hpl l cs' r e3 e4 (fun p hp' => hp p (List.mem_cons_of_mem _ hp')) h
          refine ⟨?_, f2, f3⟩
          rw [List.map_cons, run_fill_one (hpl i f n hf hn) (by rw [hce] at hlen; simpa using hlen) (by simpa using e2)]
          rw [← hce]
          rw [e1] at f1
          exact f1
        · cases h
      · cases h
    · cases h

theorem build_sound (t : TypeId) (parts : List (Nat × AV)) (hpw : ∀ p ∈ parts, AV.wf H.o.length H.n.length p.2) (ps : Array (Nat × Value)) (hps : ps.toList = parts.map fun p => (p.1, conc E p.2)) :
    Snd C E H w (do pure (.value (← Instr.build t ps))) (buildRule C.P t parts) := by
  unfold buildRule
  split
  · rename_i fs zl hu hz
    split
    · rename_i places hpl
      intro a h
      obtain ⟨ho, h⟩ := must_some h
      obtain ⟨r, hr, h⟩ := T.bind_some h
      have := leaf_some h; subst this
      have hr := fromO_some hr
      obtain ⟨i, z, hi, hz', hp, hc⟩ := zeroCellsT_some hz
      have hplace : ∀ (l : List Field) (pl : List (Nat × Nat)), l.mapM (fun f => (C.P.info? f.type).map fun i => (f.offset, i.size)) = some pl → ∀ (i : Nat) (f : Field) (n : Nat), l[i]? = some f → sizeT C.P f.type = some n → pl[i]? = some (f.offset, n) := by
        intro l
        induction l with
        | nil => intro pl _ i f n hf; simp at hf
        | cons g l ih =>
          intro pl hpl i f n hf hn
          simp only [List.mapM_cons, Option.bind_eq_bind, Option.pure_def] at hpl
          rw [Option.bind_eq_some_iff] at hpl
          obtain ⟨x, hx, hpl⟩ := hpl
          rw [Option.bind_eq_some_iff] at hpl
          obtain ⟨xs, hxs, hpl⟩ := hpl
          cases hpl
          cases i with
          | zero =>
            simp at hf
            subst hf
            rw [Option.map_eq_some_iff] at hx
            obtain ⟨inf, hinf, rfl⟩ := hx
            simp only [sizeT, hinf, Option.map_some, Option.some.injEq] at hn
            simp [hn]
          | succ i =>
            simp at hf
            simpa using ih xs hxs i f n hf hn
      obtain ⟨f1, f2, f3⟩ := fill_struct (E := E) (places := places.toArray) (fun i f n hf hn => by simpa using hplace fs.toList places hpl i f n (by simpa using hf) hn) parts zl r (pureL_wf hp) ho hpw hr
      refine ⟨f2, vrun ?_⟩
      rw [hc E] at f1
      rw [← hps] at f1
      have h1 := run_places (P := C.P) w fs.toList places hpl
      simp [Instr.build, run_underlying hu, typeInfo, zeroValue, hi, hz', Array.mapM_eq_mapM_toList, h1]
      have f1' : Instr.fill (fun x => places[x]?) z.cells ps.toList = some (cellsOf (concL E r)).toArray := by
        have e : (fun x : Nat => places.toArray[x]?) = fun x => places[x]? := by funext x; simp
        rw [e] at f1
        simpa using f1
      rw [f1']
      rfl
    · exact Snd.stuck
  · rename_i zz n e hu
    split
    · rename_i l k z hl hsz hk hz
      split
      · rename_i xs hxs
        intro a h
        obtain ⟨hm, h⟩ := must_some h
        have := leaf_some h; subst this
        simp only [Bool.and_eq_true, beq_iff_eq] at hm
        obtain ⟨h1, h2⟩ := hm
        obtain ⟨c1, c2, c3⟩ := intsOf_cells (E := E) l xs hxs
        rw [Option.bind_eq_some_iff] at hz
        obtain ⟨i, hi, hz⟩ := hz
        have hord := inOrder_some (E := E) parts 0 l hl
        have hlist : ps.toList = ((l.map (conc E)).zipIdx 0).map fun x => (x.2, x.1) := by rw [hps, hord, map_zip]
        have hcells : (Row.ints k xs).cells = arrVals k n xs := by
          have : xs.length = n := by omega
          unfold arrVals Row.cells
          simp only [Row.length, this]
          generalize List.range n = q
          induction q with
          | nil => rfl
          | cons a q ih => rw [List.flatMap_cons, ih]; rfl
        have hfill : Instr.fill (fun i => some (i * 1, 1)) z.cells ps.toList = some (arrVals k n xs).toArray := by
          rw [hlist]
          have := fill_slice (size := 1) (l.map (conc E)) 0 [] z.cells.toList (by simp [h1, h2]) (by simp) (fun v hv => c3 v hv)
          rw [← hcells, c2]
          rw [Array.toArray_toList] at this
          rw [this]
          simp
        refine ⟨⟨by show xs.length = n; omega, trivial⟩, vrun ?_⟩
        simp only [Instr.build, Sem.run_bind, run_underlying hu, Result.andThen_ok, sizeT_some hsz, typeInfo, zeroValue, hi, hz, run_program, Sem.run_pure]
        rw [hfill]
        simp [conc, concL, cellsOf, Value.cells]
      · exact Snd.stuck
    · exact Snd.stuck
  · exact Snd.stuck

theorem callF {P : Program} {g : FuncId} {fn : Func} (hf : P.funcs[g]? = some fn) (hb : fn.body.isNone = false) (hn : (fn.name == "runtime.NumGoroutine") = false) (args : Array Value) (w : World) :
    (callFunc g args).run P w = .ok (.enter g args) w := by
  simp only [callFunc, Sem.run_bind, run_program, Result.andThen_ok, hf, hn, hb]
  rfl

/-- the functions that may be called have a text -/
def Ctx.good (C : Ctx) : Prop := ∀ g, C.ents.contains g = true → ∃ fn, C.P.funcs[g]? = some fn ∧ fn.body.isNone = false ∧ (fn.name == "runtime.NumGoroutine") = false

end Eng

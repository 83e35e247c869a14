/- The engine, part 9: conversions, len, min, max, fields of values, struct literals. -/
import Derived.Test.YtcmnnggpeloanaaGreatDoorEng8
import Derived.Laws.BytesString
import Derived.Lib.ConvBytes
import Derived.Laws.AppendOwn
namespace Eng
open Go

variable {C : Ctx} {E : Env} {H : Heap} {w : World}

theorem fold_push : ∀ (l : List Int) (s : ByteArray), l.foldl (fun r n => r.push (UInt8.ofNat n.toNat)) s = ⟨s.data ++ (l.map fun x => UInt8.ofNat x.toNat).toArray⟩
  | [], s => by simp
  | x :: l, s => by
    rw [List.foldl_cons, fold_push l]
    simp [ByteArray.push]

theorem run_bytes {P : Program} {b o len cap : Nat} {l : List Int} (w : World) (hl : l.length = len)
    (hc : ∀ j v, (l.map (Value.int .u8))[j]? = some v → w.cell? ⟨b, o + j, none⟩ = some v) :
    (Conv.bytesToString (.slice (some ⟨b, o, none⟩) len cap)).run P w = .ok (.string (bytesOf l)) w := by
  have h := run_loadCells_list (P := P) w ⟨b, o, none⟩ (l.map (Value.int .u8)) (fun j v hj => by rw [add_at]; exact hc j v hj)
  rw [List.length_map, hl] at h
  rw [run_bytesToString w _ len cap l h, fold_push]
  simp [bytesOf, ByteArray.empty, ByteArray.emptyWithCapacity]
  rfl

theorem ints_cells (k : IntKind) (l : List Int) : (Row.ints k l).cells = l.map (Value.int k) := by
  have h : ∀ j, (Row.ints k l).elem j = [Value.int k (l.getD j 0)] := fun _ => rfl
  unfold Row.cells
  apply List.ext_getElem?
  intro j
  by_cases hj : j < l.length
  · have := Row.cells_get (.ints k l) j 0 hj (by simp [Row.sz])
    simp only [Row.sz, Nat.mul_one, Nat.add_zero, h] at this
    unfold Row.cells at this
    rw [this]
    simp [hj]
  · have h1 : l.length ≤ j := by omega
    rw [List.getElem?_eq_none, List.getElem?_eq_none]
    · simpa using h1
    · have := Row.cells_length (.ints k l)
      unfold Row.cells at this
      rw [this]
      simpa [Row.sz, Row.length] using h1

theorem cap_ge (w : World) (e : TypeId) (s : ByteArray) : s.size ≤ grownCap w s.size 0 e := grownCap_ge w s.size 0 e

theorem conv_sound (hR : Real C w E H) (a : AV) {ρ : Operand → Value} {x : Operand} (hx : ρ x = conc E a) {o : Oper} {src dst : TypeId} (ho : o.op = .convert src dst x) :
    Snd C E H w (execOp ρ o) (convRule C.P src dst a) := by
  have hm : execOp ρ o = (do pure (.value (← convert src dst (conc E a)))) := by unfold execOp; simp only [ho, hx]
  rw [hm]
  unfold convRule
  split
  · rename_i n cap c
    split
    · rename_i e hs hd
      split
      · rename_i he
        intro a h
        have := leaf_some h; subst this
        refine ⟨trivial, vrun ?_⟩
        rw [conc, run_convert_bytes_string w src dst e _ _ _ hs he hd]
        rfl
      · exact Snd.stuck
    · exact Snd.stuck
  · rename_i s c
    split
    · rename_i u e hs hd
      split
      · rename_i he
        intro y h
        obtain ⟨hb, h⟩ := req_some h
        have := leaf_some h; subst this
        have hrun := Lib.run_convert_string_bytes (P := C.P) w src dst e s hs hd he
        obtain ⟨l, hl⟩ : ∃ l, l = s.data.toList.map fun b => (b.toNat : Int) := ⟨_, rfl⟩
        have hlen : l.length = s.size := by rw [hl, List.length_map, Array.length_toList]; rfl
        have hst := step_add hR (s := .frow (.ints .u8 l)) (w' := Lib.bytesWorld w e s) ⟨[w.heap.size], 0, grownCap w s.size 0 e⟩ trivial rfl
          (.inr ⟨w.heap.size, rfl, by show l.length ≤ _; rw [hlen]; exact cap_ge w e s, fun j v hv => by
            rw [Nat.zero_add]
            have hj : j < s.size := by
              have := (List.getElem?_eq_some_iff.1 hv).1
              rw [Row.cells_length] at this
              simpa [Row.length, Row.sz, hlen] using this
            rw [Lib.bytesWorld_cell w e s j hj]
            have he : (Row.ints .u8 l).cells = l.map fun x => Value.int .u8 x := ints_cells .u8 l
            rw [he, hl] at hv
            simp only [List.getElem?_map] at hv
            have hj' : j < s.data.toList.length := by rw [Array.length_toList]; exact hj
            rw [List.getElem?_eq_getElem hj'] at hv
            simp only [Option.map_some, Option.some.injEq] at hv
            rw [← hv]
            simp [List.getD, List.getElem?_eq_getElem hj']⟩)
          (fun b hb => by rw [List.mem_singleton] at hb; subst hb; rw [Lib.bytesWorld_size]; omega) (by rw [Lib.bytesWorld_size]; omega) (fun b hb => Lib.bytesWorld_at_old w e s b hb) rfl rfl rfl
        rw [hl] at hst
        refine ⟨_, _, hst, by simp [AV.wf, newSlot, Id.ok, Heap.add], vrun ?_⟩
        have hc : conc (E.upd (newSlot H) ⟨[w.heap.size], 0, grownCap w s.size 0 e⟩) (.sl (newSlot H) 1 [] s.size) = .slice (some ⟨w.heap.size, 0, none⟩) s.size (grownCap w s.size 0 e) := by
          simp [conc, Env.blk, Env.upd, cut]
        rw [hc]
        simp only [conc]
        exact hrun
      · exact Snd.stuck
    · intro a h
      obtain ⟨z, hz, rfl⟩ := pv_some h
      exact ⟨trivial, vrun (pureRun_sound C.P _ z w hz)⟩
  · rename_i u c _ _
    intro a h
    obtain ⟨z, hz, rfl⟩ := pv_some h
    exact ⟨trivial, vrun (pureRun_sound C.P _ z w hz)⟩
  · rename_i i sz path len
    split
    · rename_i e hs hd
      split
      · rename_i he
        intro sl a hi h
        cases sl with
        | row r ty =>
          cases r with
          | ints k l =>
            cases k <;> first
              | (cases h; done)
              | (
                obtain ⟨h1, h⟩ := must_some h
                obtain ⟨h2, h⟩ := req_some h
                have := leaf_some h; subst this
                simp only [beq_iff_eq] at h1
                simp only [decide_eq_true_eq] at h2
                subst h1
                refine ⟨trivial, vrun ?_⟩
                simp only [conc]
                rw [run_convert_bytes_string w src dst e _ _ _ hs he hd]
                have hreal := rowIn_real (r := .ints .u8 l) rfl (hR.slot i _ hi)
                rcases hreal with ⟨hb, h0, h0'⟩ | ⟨b, hb, hlc, hcell⟩
                · have hl0 : l = [] := List.eq_nil_of_length_eq_zero h0
                  have : E.blk i = none := by unfold Env.blk; rw [hb]; rfl
                  rw [this, hl0]
                  have hlen : len = 0 := by rw [hl0] at h2; simp at h2; omega
                  simp [Conv.bytesToString, bytesOf]
                  rfl
                · rw [blk_one hb]
                  simp only [Option.map_some]
                  refine run_bytes w ?_ (fun j v hv => ?_)
                  · rw [List.length_take, List.length_drop]; omega
                  · have hj : j < len := by
                      have := (List.getElem?_eq_some_iff.1 hv).1
                      rw [List.length_map, List.length_take] at this; omega
                    have hcut := (sumL_cut path 0 (E i).cap (by simp only [Row.length] at hlc; omega)).2 (by simp only [Row.length] at hlc; omega)
                    rw [hcut, Nat.zero_add, Nat.mul_one, Nat.add_assoc]
                    refine hcell _ _ ?_
                    rw [ints_cells]
                    rw [List.getElem?_map, List.getElem?_take, if_pos hj, List.getElem?_drop] at hv
                    rw [List.getElem?_map]; exact hv)
          | _ => cases h
        | _ => cases h
      · exact Snd.stuck
    · exact Snd.stuck
  · exact Snd.stuck

theorem len_sound (hR : Real C w E H) (a : AV) (t : TypeId) : ∀ (ty : TypeId), Snd C E H w (do pure (.value (← Builtin.len_ #[t] ty #[conc E a]))) (lenRule C.P t a) := by
  intro ty
  unfold lenRule
  split
  · rename_i s c hu
    intro a h
    have := leaf_some h; subst this
    exact ⟨trivial, vrun (by simp [Builtin.len_, run_underlying hu, conc, goInt])⟩
  · rename_i e i sz path len hu
    intro a h
    have := leaf_some h; subst this
    exact ⟨trivial, vrun (by simp [Builtin.len_, run_underlying hu, conc, goInt])⟩
  · rename_i e len cap c hu
    intro a h
    have := leaf_some h; subst this
    exact ⟨trivial, vrun (by simp [Builtin.len_, run_underlying hu, conc, goInt])⟩
  · rename_i n e _ hu
    intro b h
    have := leaf_some h; subst this
    exact ⟨trivial, vrun (by simp [Builtin.len_, run_underlying hu, goInt, conc])⟩
  · exact Snd.stuck

theorem mm_sound (isMax : Bool) (l : List AV) (ts : Array TypeId) (ty : TypeId) (s : Sem Value) (hs : s = match isMax with | true => Builtin.max_ ts ty (concL E l).toArray | false => Builtin.min_ ts ty (concL E l).toArray) :
    Snd C E H w (do pure (.value (← s))) (mmRule isMax l) := by
  unfold mmRule
  split
  · rename_i k x c k' y c'
    intro a h
    obtain ⟨h1, h⟩ := must_some h
    have := leaf_some h; subst this
    refine ⟨trivial, vrun ?_⟩
    subst hs
    cases isMax <;> simp [Builtin.max_, Builtin.min_, Builtin.max2, Builtin.min2, concL, conc]
  · exact Snd.stuck

/-- a value's cells -/
theorem explode_cells (E : Env) (a : AV) (ho : okCells (explode a) = true) : cellsOf (concL E (explode a)) = (conc E a).cells.toList := by
  have one : ∀ b : AV, cellsOf (concL E [b]) = (conc E b).cells.toList := by intro b; simp [concL, cellsOf]
  cases a with
  | v x c =>
    cases x with
    | agg xs =>
      simp only [explode, conc, Value.cells]
      have : ∀ l : List Value, okCells (l.map fun x => AV.v x c) = true → cellsOf (concL E (l.map fun x => AV.v x c)) = l := by
        intro l
        induction l with
        | nil => intro _; rfl
        | cons y l ih =>
          intro h
          have h' : okCell (.v y c) = true ∧ okCells (l.map fun x => AV.v x c) = true := by
            simpa only [okCells, List.map_cons, List.all_cons, Bool.and_eq_true] using h
          have hy : isOne (.v y c) = true := h'.1
          have h1 := (isOne_conc (E := E) hy).2
          simp only [List.map_cons, concL, cellsOf_cons, h1, ih h'.2]
          rfl
      exact this _ ho
    | _ => exact one _
  | agg cs => simp [explode, conc, Value.cells]
  | _ => exact one _

theorem explode_wf {no nn : Nat} {a : AV} (h : a.wf no nn) : AV.wfL no nn (explode a) := by
  cases a with
  | v x c =>
    cases x with
    | agg xs => rw [AV.wfL_iff]; intro a ha; simp [explode] at ha; obtain ⟨_, _, rfl⟩ := ha; trivial
    | _ => exact ⟨trivial, trivial⟩
  | agg cs => exact h
  | _ => exact ⟨h, trivial⟩

theorem widthL_cells {E : Env} : ∀ (l : List AV), okCells l = true → (cellsOf (concL E l)).length = widthL l
  | [], _ => rfl
  | a :: l, h => by
    have h' : okCell a = true ∧ okCells l = true := by simpa only [okCells, List.all_cons, Bool.and_eq_true] using h
    rw [show concL E (a :: l) = conc E a :: concL E l from rfl, cellsOf_cons, List.length_append, widthL_cells l h'.2, width_cells h'.1]
    simp [widthL]

theorem agg_of (E : Env) (a : AV) (ho : okCells (explode a) = true) (P : Program) (w : World) (xs : Array Value) (h : conc E a = .agg xs) : (asAgg (conc E a)).run P w = .ok (cellsOf (concL E (explode a))).toArray w := by
  rw [explode_cells E a ho, h]; rfl

theorem fieldOf_sound (a : AV) (hwf : a.wf H.o.length H.n.length) {ρ : Operand → Value} {x : Operand} (hx : ρ x = conc E a) {o : Oper} {s : TypeId} {f : Nat} (ho : o.op = .field s x f) :
    Snd C E H w (execOp ρ o) (fieldOfRule C.P s a f) := by
  have hm : execOp ρ o = (do pure (.value (← Instr.field s (conc E a) f))) := by unfold execOp; simp only [ho, hx]
  rw [hm]
  unfold fieldOfRule
  split
  · rename_i fs hu
    split
    · rename_i fd hf
      have hagg : isAggV a = true → ∃ xs, conc E a = .agg xs := by
        intro h
        cases a with
        | v x c => cases x <;> first | (simp [isAggV] at h; done) | exact ⟨_, rfl⟩
        | agg cs => exact ⟨_, rfl⟩
        | _ => simp [isAggV] at h
      · split
        · rename_i h1 h2
          intro b h
          obtain ⟨hok, h⟩ := must_some h
          rw [Bool.and_eq_true] at hok
          obtain ⟨xs, hxs⟩ := hagg hok.1
          have hok := hok.2
          have h := fromO_some h
          obtain ⟨hc, hw, _⟩ := cellAt_sound (E := E) (explode a) fd.offset b (explode_wf hwf) h
          refine ⟨hw, vrun ?_⟩
          have ha := agg_of E a hok C.P w xs hxs
          simp only [Instr.field, Sem.run_bind, run_underlying hu, Result.andThen_ok, hf, ha, part, isAggT_some h1, Bool.false_eq_true, if_false]
          rw [show (cellsOf (concL E (explode a))).toArray[fd.offset]? = some (conc E b) from by simpa using hc]
          rfl
        · rename_i n h1 h2
          intro b h
          obtain ⟨hok, h⟩ := must_some h
          rw [Bool.and_eq_true] at hok
          obtain ⟨xs, hxs⟩ := hagg hok.1
          have hok := hok.2
          obtain ⟨l, hl, h⟩ := T.bind_some h
          have := leaf_some h; subst this
          have hl := fromO_some hl
          rw [Option.bind_eq_some_iff] at hl
          obtain ⟨l1, hl1, hl2⟩ := hl
          obtain ⟨e1, w1, o1⟩ := dropW_sound (E := E) (explode a) fd.offset l1 (explode_wf hwf) hok hl1
          obtain ⟨e2, len2, w2, o2⟩ := takeW_sound (E := E) l1 n l w1 o1 hl2
          refine ⟨w2, vrun ?_⟩
          have ha := agg_of E a hok C.P w xs hxs
          simp only [Instr.field, Sem.run_bind, run_underlying hu, Result.andThen_ok, hf, ha, part, isAggT_some h1, if_true, sizeT_some h2, Sem.run_pure, conc]
          rw [e2, e1]
          congr 2
          apply Array.ext'
          simp
        · exact Snd.stuck
    · exact Snd.stuck
  · exact Snd.stuck

end Eng

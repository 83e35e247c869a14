/- The engine, part 7: the other rules that turn nothing. -/
import Derived.Test.YtcmnnggpeloanaaGreatDoorEng6
import Derived.Laws.StructEq
import Derived.Laws.Slices
namespace Eng
open Go

variable {C : Ctx} {E : Env} {H : Heap} {w : World}

theorem nilCheck_sound (hR : Real C w E H) (a : AV) (hwf : a.wf H.o.length H.n.length) {ρ : Operand → Value} {x : Operand} (hx : ρ x = conc E a) {o : Oper} (ho : o.op = .nilCheck x) :
    Snd C E H w (execOp ρ o) (nilCheckRule a) := by
  have go : ∀ v : Value, ρ x = v → (∀ w : World, (match v with | .pointer none | .nilIface | .nilFunc => False | .func (.method _) _ _ => False | _ => True) → (execOp ρ o).run C.P w = .ok (.value v) w) := by
    intro v hv w hk
    unfold execOp
    simp only [ho, hv]
    split <;> first | (simp at hk; done) | rfl | (exact hk.elim)
  cases a with
  | ptr i off =>
    intro s a hi h
    cases hcs : cellsIn s with
    | none => simp only [hcs] at h; cases h
    | some cs =>
    simp only [hcs] at h
    have := leaf_some h; subst this
    obtain ⟨b, hb, _⟩ := cellsIn_real hcs (hR.slot i s hi)
    refine ⟨hwf, go _ hx w ?_⟩
    simp only [conc, blk_one hb, Option.map_some]
  | ap i off j =>
    intro s a hi h
    cases hcs : cellsIn s with
    | none => simp only [hcs] at h; cases h
    | some cs =>
    simp only [hcs] at h
    have := leaf_some h; subst this
    obtain ⟨b, hb, _⟩ := cellsIn_real hcs (hR.slot i s hi)
    refine ⟨hwf, go _ hx w ?_⟩
    simp only [conc, blk_one hb, Option.map_some]
  | ep i sz j fo =>
    intro s a hi h
    cases hcs : rowIn s with
    | none => simp only [hcs] at h; cases h
    | some r =>
    simp only [hcs] at h
    obtain ⟨hj, h⟩ := req_some h
    have := leaf_some h; subst this
    simp only [decide_eq_true_eq] at hj
    rcases rowIn_real hcs (hR.slot i s hi) with ⟨_, h0, _⟩ | ⟨b, hb, _⟩
    · omega
    · refine ⟨hwf, go _ hx w ?_⟩
      simp only [conc, blk_one hb, Option.map_some]
  | fn f caps =>
    intro a h
    have := leaf_some h; subst this
    exact ⟨hwf, go _ hx w (by simp only [conc])⟩
  | ifc t x =>
    intro a h
    have := leaf_some h; subst this
    exact ⟨hwf, go _ hx w (by simp only [conc])⟩
  | v x c =>
    cases x <;> first
      | exact Snd.stuck
      | (intro a h; have := leaf_some h; subst this; exact ⟨hwf, go _ hx w (by simp only [conc])⟩)
  | _ => exact Snd.stuck

theorem bin_eq {ρ : Operand → Value} {o : Oper} {op : BinOp} {t t' : TypeId} {x y : Operand} (ho : o.op = .binOp op t x y t') :
    execOp ρ o = (do pure (.value (← (do Go.eqGuard op t x y (ρ x) (ρ y); Go.binOp op t (ρ x) (ρ y))))) := by
  unfold execOp; simp only [ho]

theorem eqGuard_other {P : Program} {op : BinOp} {t : TypeId} {x y : Operand} {a b : Value} (w : World) (h1 : op ≠ .eql) (h2 : op ≠ .neq) : (Go.eqGuard op t x y a b).run P w = .ok () w := by
  cases op <;> simp_all [Go.eqGuard]

theorem equal_ptr_nil {P : Program} {t e : TypeId} {a : Addr} (hu : P.underlying t = some (.pointer e)) (w : World) : (Op.equal t (.pointer (some a)) (.pointer none)).run P w = .ok false w := by
  have h : ∀ d, (Op.equalIn (d + 1) t (.pointer (some a)) (.pointer none)).run P w = .ok false w := by
    intro d; simp [Op.equalIn, run_underlying hu]
  exact h 9999
theorem eqGuard_ptr {P : Program} {op : BinOp} {t : TypeId} {x y : Operand} {a : Option Addr} {b : Value} (w : World) : (Go.eqGuard op t x y (.pointer a) b).run P w = .ok () w := by
  cases op <;> simp [Go.eqGuard]

theorem equal_ifc_nil {P : Program} {t tx : TypeId} {vx : Value} {ms : Array (String × TypeId)} (hu : P.underlying t = some (.interface ms)) (w : World) : (Op.equal t (.iface tx vx) .nilIface).run P w = .ok false w := by
  have h : ∀ d, (Op.equalIn (d + 1) t (.iface tx vx) .nilIface).run P w = .ok false w := by
    intro d; simp [Op.equalIn, run_underlying hu]
  exact h 9999
theorem eqGuard_ifc {P : Program} {op : BinOp} {t tx : TypeId} {vx : Value} {x y : Operand} (w : World) : (Go.eqGuard op t x y (.iface tx vx) .nilIface).run P w = .ok () w := by
  cases op <;> simp [Go.eqGuard]
theorem vals_conc {E : Env} : ∀ (xs : List AV) (us : List Value) (c : Bool), vals xs = some (us, c) → xs.all isOne = true → cellsOf (concL E xs) = us
  | [], us, c, h, _ => by simp only [vals, Option.some.injEq, Prod.mk.injEq] at h; rw [← h.1]; rfl
  | a :: l, us, c, h, ho => by
    rw [List.all_cons, Bool.and_eq_true] at ho
    cases a with
    | v x k =>
      unfold vals at h
      split at h
      · rename_i xs c' hl
        simp only [Option.some.injEq, Prod.mk.injEq] at h
        rw [← h.1]
        simp only [concL, cellsOf_cons, vals_conc l xs c' hl ho.2, (isOne_conc (E := E) ho.1).2]
        rfl
      · cases h
    | _ => cases h

theorem fieldEq_sound {P : Program} {w : World} {t : TypeId} {u v : Value} {b : Bool} (d : Nat) (h : fieldEq P t u v = some b) : (Op.equalIn (d + 1) t u v).run P w = .ok b w := by
  unfold fieldEq at h
  split at h
  · rename_i k0 k a k' b' ht
    split at h
    · rename_i hk; subst hk; cases h; exact run_equalIn_int w d t _ _ a b' ht
    · cases h
  · rename_i a b' ht; cases h; exact run_equalIn_bool' w d t a b' ht
  · rename_i a b' ht; cases h; exact run_equalIn_string w d t a b' ht
  · cases h

theorem fieldsEq_sound {P : Program} {w : World} {us vs : List Value} : ∀ (fs : List Field) (b : Bool), fieldsEq P us vs fs = some b → (Op.eqFields 9999 us.toArray vs.toArray fs).run P w = .ok b w
  | [], b, h => by simp only [fieldsEq, Option.some.injEq] at h; subst h; simp [Op.eqFields]
  | f :: fs, b, h => by
    unfold fieldsEq at h
    split at h
    · rename_i u v hn ha hu hv
      split at h
      · rename_i a b' h1 h2
        cases h
        simp only [decide_eq_false_iff_not] at hn
        have p1 : (part f.type us.toArray f.offset).run P w = .ok u w := by
          simp only [part, Sem.run_bind, isAggT_some ha, Result.andThen_ok, Bool.false_eq_true, if_false]
          rw [List.getElem?_toArray, hu]; rfl
        have p2 : (part f.type vs.toArray f.offset).run P w = .ok v w := by
          simp only [part, Sem.run_bind, isAggT_some ha, Result.andThen_ok, Bool.false_eq_true, if_false]
          rw [List.getElem?_toArray, hv]; rfl
        unfold Op.eqFields
        rw [if_pos hn]
        simp only [Sem.run_bind, p1, p2, Result.andThen_ok, fieldEq_sound 9998 h1]
        cases a with
        | false => simp
        | true => simpa using fieldsEq_sound fs b' h2
      · cases h
    · cases h

theorem bin_sound (hR : Real C w E H) (a b : AV) {ρ : Operand → Value} {x y : Operand} (hx : ρ x = conc E a) (hy : ρ y = conc E b) {o : Oper} {op : BinOp} {t t' : TypeId} (ho : o.op = .binOp op t x y t') :
    Snd C E H w (execOp ρ o) (binRule C.P op t x y a b) := by
  rw [bin_eq ho, hx, hy]
  cases a with
  | v u cu =>
    cases b with
    | v v cv =>
      have dflt : Snd C E H w (do pure (.value (← (do Go.eqGuard op t x y u v; Go.binOp op t u v)))) (.pure (pv (cu && cv) (pureRun C.P (do Go.eqGuard op t x y u v; Go.binOp op t u v)))) := by
        intro a h
        obtain ⟨z, hz, rfl⟩ := pv_some h
        exact ⟨trivial, vrun (pureRun_sound C.P _ z w hz)⟩
      have one : ∀ (c b : Bool) (z : AV) (zv : Value), z.wf H.o.length H.n.length → conc E z = zv → (b = true → (do Go.eqGuard op t x y u v; Go.binOp op t u v : Sem Value).run C.P w = .ok zv w) →
          Snd C E H w (do pure (.value (← (do Go.eqGuard op t x y u v; Go.binOp op t u v)))) (.pure (.cond c b (.leaf z) .stuck)) := by
        intro c b z zv hz hzv hb a h
        obtain ⟨h1, h⟩ := cond_stuck h
        have := leaf_some h; subst this
        exact ⟨hz, vrun (by rw [hzv]; exact hb h1)⟩
      have run2 : ∀ (z : Value), op ≠ .eql → op ≠ .neq → (Go.binOp op t u v).run C.P w = .ok z w → (do Go.eqGuard op t x y u v; Go.binOp op t u v : Sem Value).run C.P w = .ok z w := by
        intro z h1 h1' h2
        simp only [Sem.run_bind, eqGuard_other w h1 h1', Result.andThen_ok, h2]
      unfold binRule
      simp only
      split
      · rename_i k m l n
        refine one _ _ (.v _ _) _ (by exact trivial) rfl (fun hb => run2 _ (by simp) (by simp) ?_)
        simp only [decide_eq_true_eq] at hb
        simp only [Go.binOp, Op.shift]
        rw [if_neg (by omega)]; rfl
      · rename_i k m l n
        refine one _ _ (.v _ _) _ (by exact trivial) rfl (fun hb => run2 _ (by simp) (by simp) ?_)
        simp only [decide_eq_true_eq] at hb
        simp only [Go.binOp, Op.shift]
        rw [if_neg (by omega)]; rfl
      · rename_i k m l n
        intro a h
        obtain ⟨hk, h'⟩ := must_some h
        clear h
        simp only [decide_eq_true_eq] at hk
        subst hk
        refine one _ _ (.v _ _) _ (by exact trivial) rfl (fun hb => ?_) a h'
        refine run2 _ (by simp) (by simp) ?_
        simp only [decide_eq_true_eq] at hb
        simp [Go.binOp, Op.intDiv, hb]; rfl
      · rename_i k m l n
        intro a h
        obtain ⟨hk, h'⟩ := must_some h
        clear h
        simp only [decide_eq_true_eq] at hk
        subst hk
        refine one _ _ (.v _ _) _ (by exact trivial) rfl (fun hb => ?_) a h'
        refine run2 _ (by simp) (by simp) ?_
        simp only [decide_eq_true_eq] at hb
        simp [Go.binOp, Op.intDiv, hb]; rfl
      · rename_i s r
        refine one _ _ _ _ (by exact trivial) rfl (fun hb => run2 _ (by simp) (by simp) ?_)
        simp only [decide_eq_true_eq] at hb
        simp only [Go.binOp, Op.stringOp]
        rw [if_neg]
        · rfl
        · rw [show IntKind.i64.max = 9223372036854775807 from rfl]; omega
      · exact dflt
    | _ => exact Snd.stuck
  | ptr i off =>
    cases b with
    | v v cv =>
      cases v with
      | pointer p =>
        cases p with
        | none =>
          intro s a hi h
          cases hcs : cellsIn s with
          | none => simp only [hcs] at h; cases h
          | some cs =>
          simp only [hcs] at h
          obtain ⟨b, hb, _⟩ := cellsIn_real hcs (hR.slot i s hi)
          split at h
          · rename_i e hu
            have := leaf_some h; subst this
            refine ⟨trivial, vrun ?_⟩
            simp only [conc, blk_one hb, Option.map_some, Sem.run_bind, eqGuard_ptr, Result.andThen_ok, Go.binOp, equal_ptr_nil hu, Sem.run_pure]
          · rename_i e hu
            have := leaf_some h; subst this
            refine ⟨trivial, vrun ?_⟩
            simp only [conc, blk_one hb, Option.map_some, Sem.run_bind, eqGuard_ptr, Result.andThen_ok, Go.binOp, equal_ptr_nil hu, Sem.run_pure, Bool.not_false]
          · cases h
        | some p => exact Snd.stuck
      | _ => exact Snd.stuck
    | _ => exact Snd.stuck
  | agg xs =>
    cases b with
    | agg ys =>
      unfold binRule
      simp only
      split
      · rename_i fs us c vs d ht hu hv
        intro z h
        obtain ⟨ho, h⟩ := must_some h
        simp only [Bool.and_eq_true, Bool.not_eq_true'] at ho
        obtain ⟨⟨⟨ho1, ho2⟩, hp⟩, hm⟩ := ho
        have hfs : C.P.fieldsOf t = fs := by simp [Program.fieldsOf, ht]
        have ht' : C.P.underlying t = some (.struct (C.P.fieldsOf t)) := by rw [hfs]; exact ht
        split at h
        · rename_i b hb _
          have := leaf_some h; subst this
          refine ⟨trivial, vrun ?_⟩
          simp only [conc, vals_conc xs us c hu ho1, vals_conc ys vs d hv ho2, Sem.run_bind, run_eqGuard_agg w _ t x y _ _ hm, Result.andThen_ok, run_eql_struct]
          rw [run_equalIn_struct w 9999 t _ _ ht' hp, hfs, fieldsEq_sound fs.toList _ hb]
          rfl
        · rename_i b hb _
          have := leaf_some h; subst this
          refine ⟨trivial, vrun ?_⟩
          simp only [conc, vals_conc xs us c hu ho1, vals_conc ys vs d hv ho2, Sem.run_bind, run_eqGuard_agg w _ t x y _ _ hm, Result.andThen_ok, run_neq_struct]
          rw [run_equalIn_struct w 9999 t _ _ ht' hp, hfs, fieldsEq_sound fs.toList _ hb]
          rfl
        · cases h
      · exact Snd.stuck
    | _ => exact Snd.stuck
  | ifc tx vx =>
    cases b with
    | v v cv =>
      cases v with
      | nilIface =>
        unfold binRule
        simp only
        split
        · rename_i ms hu
          intro z h
          have := leaf_some h; subst this
          refine ⟨trivial, vrun ?_⟩
          simp only [conc, Sem.run_bind, eqGuard_ifc, Result.andThen_ok, Go.binOp, equal_ifc_nil hu, Sem.run_pure]
        · rename_i ms hu
          intro z h
          have := leaf_some h; subst this
          refine ⟨trivial, vrun ?_⟩
          simp only [conc, Sem.run_bind, eqGuard_ifc, Result.andThen_ok, Go.binOp, equal_ifc_nil hu, Sem.run_pure, Bool.not_false]
        · exact Snd.stuck
      | _ => exact Snd.stuck
    | _ => exact Snd.stuck
  | _ => exact Snd.stuck

theorem sumL_cut : ∀ (p : List Nat) (a c : Nat), sumL p ≤ c → (cut p a c).2 = c - sumL p ∧ (sumL p < c → (cut p a c).1 = a + sumL p)
  | [], a, c, _ => by simp [cut, sumL]
  | l :: p, a, c, h => by
    have hs : sumL (l :: p) = l + sumL p := by simp [sumL]
    rw [hs] at h ⊢
    unfold cut
    by_cases e : c = l
    · rw [if_pos e]
      have h0 : sumL p = 0 := by omega
      obtain ⟨h1, _⟩ := sumL_cut p a 0 (by omega)
      exact ⟨by rw [h1]; omega, fun hlt => by omega⟩
    · rw [if_neg e]
      obtain ⟨h1, h2⟩ := sumL_cut p (a + l) (c - l) (by omega)
      exact ⟨by rw [h1]; omega, fun hlt => by rw [h2 (by omega)]; omega⟩

theorem un_sound (a : AV) {ρ : Operand → Value} {x : Operand} (hx : ρ x = conc E a) {o : Oper} {op : UnOp} {t : TypeId} (ho : o.op = .unOp op t x) :
    Snd C E H w (execOp ρ o) (unRule C.P op a) := by
  have hm : execOp ρ o = (do pure (.value (← Op.unary op (conc E a)))) := by unfold execOp; simp only [ho, hx]
  rw [hm]
  cases a with
  | v u c =>
    intro a h
    obtain ⟨z, hz, rfl⟩ := pv_some h
    exact ⟨trivial, vrun (pureRun_sound C.P _ z w hz)⟩
  | _ => exact Snd.stuck


theorem field_sound (hR : Real C w E H) (a : AV) (hwf : a.wf H.o.length H.n.length) {ρ : Operand → Value} {x : Operand} (hx : ρ x = conc E a) {o : Oper} {s : TypeId} {f : Nat} (ho : o.op = .fieldAddr s x f) :
    Snd C E H w (execOp ρ o) (fieldRule C.P s a f) := by
  have hm : execOp ρ o = (do pure (.value (← Instr.fieldAt s (conc E a) f))) := by unfold execOp; simp only [ho, hx]
  rw [hm]
  unfold fieldRule
  split
  · rename_i fs hu
    split
    · rename_i fd hf
      have key : ∀ (n b off : Nat), sizeT C.P fd.type = some n → decide (0 < n) = true → (Instr.fieldAt s (.pointer (some ⟨b, off, none⟩)) f).run C.P w = .ok (.pointer (some ⟨b, off + fd.offset, none⟩)) w := by
        intro n b off h1 h2
        simp only [decide_eq_true_eq] at h2
        simp only [Instr.fieldAt, Sem.run_bind, run_underlying hu, Result.andThen_ok, hf, Instr.sureAddr, Sem.run_pure, fieldPlace, sizeT_some h1]
        rw [if_neg (by omega)]
        simp [add_at]
      split
      · rename_i n i off h1
        intro sl a hi h
        cases hcs : cellsIn sl with
        | none => simp only [hcs] at h; cases h
        | some cs =>
        simp only [hcs] at h
        obtain ⟨hn, h⟩ := must_some h
        have := leaf_some h; subst this
        obtain ⟨b, hb, _⟩ := cellsIn_real hcs (hR.slot i sl hi)
        refine ⟨hwf, vrun ?_⟩
        simp only [conc, blk_one hb, Option.map_some]
        rw [key n b _ h1 hn, Nat.add_assoc]
      · rename_i n i sz j fo h1
        intro sl a hi h
        cases hcs : rowIn sl with
        | none => simp only [hcs] at h; cases h
        | some r =>
        simp only [hcs] at h
        obtain ⟨hn, h⟩ := must_some h
        obtain ⟨hj, h⟩ := req_some h
        have := leaf_some h; subst this
        simp only [decide_eq_true_eq] at hj
        rcases rowIn_real hcs (hR.slot i sl hi) with ⟨_, h0, _⟩ | ⟨b, hb, _⟩
        · omega
        · refine ⟨hwf, vrun ?_⟩
          simp only [conc, blk_one hb, Option.map_some]
          rw [key n b _ h1 hn, Nat.add_assoc, Nat.add_assoc]
      · exact Snd.stuck
    · exact Snd.stuck
  · exact Snd.stuck

end Eng

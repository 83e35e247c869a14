/- The engine, part 8: conversions, indexes, slices. -/
import Derived.Test.YtcmnnggpeloanaaGreatDoorEng7
namespace Eng
open Go

variable {C : Ctx} {E : Env} {H : Heap} {w : World}

theorem run_asIntOf {P : Program} {k : IntKind} {n : Int} (w : World) : (asIntOf (.int k n)).run P w = .ok (k, n) w := rfl

theorem indexAddr_sound (hR : Real C w E H) (a ix : AV) (hwf : a.wf H.o.length H.n.length) {ρ : Operand → Value} {x i : Operand} (hx : ρ x = conc E a) (hi : ρ i = conc E ix) {o : Oper} {t : TypeId}
    (ho : o.op = .indexAddr t x i) : Snd C E H w (execOp ρ o) (indexAddrRule C.P t a ix) := by
  have hm : execOp ρ o = (do pure (.value (← Instr.indexAt t (conc E a) (conc E ix)))) := by unfold execOp; simp only [ho, hx, hi]
  rw [hm]
  unfold indexAddrRule
  split
  · rename_i k n c
    split
    · rename_i e i sz path len hu
      split
      · rename_i m h1
        intro sl a hi h
        cases hcs : rowIn sl with
        | none => simp only [hcs] at h; cases h
        | some r =>
        simp only [hcs] at h
        obtain ⟨hm', h⟩ := must_some h
        obtain ⟨hj, h⟩ := req_some h
        have := leaf_some h; subst this
        simp only [Bool.and_eq_true, beq_iff_eq] at hm'
        simp only [decide_eq_true_eq] at hj
        rcases rowIn_real hcs (hR.slot i sl hi) with ⟨_, h0, _⟩ | ⟨b, hb, hlc, _⟩
        · omega
        · refine ⟨hwf, vrun ?_⟩
          have hcut := (sumL_cut path 0 (E i).cap (by omega)).2 (by omega)
          simp only [conc, blk_one hb, Option.map_some]
          simp only [Instr.indexAt, Sem.run_bind, run_asIntOf, Result.andThen_ok, run_underlying hu, Sem.run_pure]
          rw [if_pos ⟨hj.1, hj.2.1⟩]
          simp only [Sem.run_bind, sizeT_some h1, Result.andThen_ok, Sem.run_pure, add_at, hcut, Nat.zero_add, hm'.1, Nat.add_mul, Nat.add_zero, Nat.add_assoc]
      · exact Snd.stuck
    · rename_i len e i off hu
      split
      · rename_i m h1
        intro sl a hi h
        cases hcs : cellsIn sl with
        | none => simp only [hcs] at h; cases h
        | some cs =>
        simp only [hcs] at h
        obtain ⟨b, hb, _⟩ := cellsIn_real hcs (hR.slot i sl hi)
        have key : 0 ≤ n ∧ n < len → (Instr.indexAt t (conc E (.ptr i off)) (conc E (.v (.int k n) c))).run C.P w = .ok (.pointer (some ⟨b, (E i).org + off + n.toNat * m, none⟩)) w := by
          intro hj
          simp only [conc, blk_one hb, Option.map_some]
          simp only [Instr.indexAt, Sem.run_bind, run_asIntOf, Result.andThen_ok, run_underlying hu, Sem.run_pure, Instr.sureAddr]
          rw [if_pos hj]
          simp only [Sem.run_bind, sizeT_some h1, Result.andThen_ok, Sem.run_pure, add_at]
        cases c with
        | true =>
          simp only at h
          obtain ⟨hj, h⟩ := must_some h
          have := leaf_some h; subst this
          simp only [decide_eq_true_eq] at hj
          refine ⟨hwf, vrun ?_⟩
          rw [key hj]
          simp only [conc, blk_one hb, Option.map_some, Nat.add_assoc]
        | false =>
          simp only at h
          obtain ⟨h1', h⟩ := must_some h
          obtain ⟨hj, h⟩ := req_some h
          have := leaf_some h; subst this
          simp only [decide_eq_true_eq] at hj
          simp only [beq_iff_eq] at h1'
          refine ⟨hwf, vrun ?_⟩
          rw [key hj, h1', Nat.mul_one]
          simp only [conc, blk_one hb, Option.map_some, Nat.add_assoc]
      · exact Snd.stuck
    · exact Snd.stuck
  · exact Snd.stuck

theorem index_sound (a ix : AV) (hwf : a.wf H.o.length H.n.length) {ρ : Operand → Value} {x i : Operand} (hx : ρ x = conc E a) (hi : ρ i = conc E ix) {o : Oper} {t : TypeId}
    (ho : o.op = .index t x i) : Snd C E H w (execOp ρ o) (indexRule C.P t a ix) := by
  have hm : execOp ρ o = (do pure (.value (← Instr.index t (conc E a) (conc E ix)))) := by unfold execOp; simp only [ho, hx, hi]
  rw [hm]
  unfold indexRule
  split
  · rename_i s c k n c'
    split
    · rename_i hu
      intro a h
      obtain ⟨hj, h⟩ := cond_stuck h
      have := leaf_some h; subst this
      simp only [decide_eq_true_eq] at hj
      refine ⟨trivial, vrun ?_⟩
      have hlt : n.toNat < s.size := by omega
      have hget : s[n.toNat]? = some (s.data.getD n.toNat 0) := by
        rw [getElem?_pos s n.toNat hlt]
        congr 1
        have : n.toNat < s.data.size := hlt
        simp only [Array.getD, this, dif_pos]
        rfl
      simp only [conc, Instr.index, Sem.run_bind, run_asIntOf, Result.andThen_ok, run_underlying hu]
      rw [if_pos hj.1, hget]
      rfl
    · exact Snd.stuck
  · rename_i cs k n c'
    split
    · rename_i len e hu
      split
      · rename_i k' m l h1
        intro a h
        obtain ⟨hm', h⟩ := must_some h
        obtain ⟨hj, h⟩ := cond_stuck h
        have := leaf_some h; subst this
        simp only [Bool.and_eq_true, beq_iff_eq] at hm'
        simp only [decide_eq_true_eq] at hj
        obtain ⟨rfl, h2⟩ := hm'
        refine ⟨trivial, vrun ?_⟩
        simp only [conc, Instr.index, Sem.run_bind, run_asIntOf, Result.andThen_ok, run_underlying hu]
        rw [if_pos hj]
        simp only [Sem.run_bind, sizeT_some h2, Result.andThen_ok, Nat.mul_one, part, isAggT_some h1, Bool.false_eq_true, if_false]
        have : (cellsOf (concL E [.arr k' m l])).toArray[n.toNat]? = some (.int k' (l.getD n.toNat 0)) := by
          have := arrVals_get k' m l n.toNat (by omega)
          simpa [concL, conc, cellsOf, Value.cells] using this
        rw [this]
        rfl
      · exact Snd.stuck
    · exact Snd.stuck
  · exact Snd.stuck

theorem bound_some {d : Int} {o : Option AV} {n : Int} {c : Bool} (h : bound d o = some (n, c)) : (o = none ∧ n = d) ∨ ∃ k c', o = some (.v (.int k n) c') := by
  unfold bound at h
  split at h
  · cases h; exact .inl ⟨rfl, rfl⟩
  · cases h; exact .inr ⟨_, _, rfl⟩
  · cases h

theorem run_sliceBound {P : Program} {k : IntKind} {n : Int} {y : Nat} {code : BoundsCode} (w : World) (h : 0 ≤ n ∧ n ≤ y) : (Instr.sliceBound (.int k n) y code).run P w = .ok n.toNat w := by
  simp only [Instr.sliceBound, Sem.run_bind, run_asIntOf, Result.andThen_ok]
  rw [if_pos h]; rfl

theorem run_sliceBounds {P : Program} {b : Bool} {len cap : Nat} {lo hi : Option AV} {l h : Int} {cl ch : Bool} {E : Env} (w : World) (hl : bound 0 lo = some (l, cl)) (hh : bound len hi = some (h, ch))
    (h0 : 0 ≤ l) (h1 : l ≤ h) (h2 : h ≤ len) (h3 : len ≤ cap) :
    (Instr.sliceBounds b len cap (lo.map (conc E)) (hi.map (conc E)) none).run P w = .ok (l.toNat, h.toNat, cap) w := by
  rcases bound_some hh with ⟨rfl, rfl⟩ | ⟨kh, c1, rfl⟩
  · rcases bound_some hl with ⟨rfl, rfl⟩ | ⟨kl, c2, rfl⟩
    · simp [Instr.sliceBounds]
    · simp only [Instr.sliceBounds, Option.map_none, Option.map_some, conc, Sem.run_bind, Sem.run_pure, Result.andThen_ok]
      rw [run_sliceBound w ⟨h0, by omega⟩]
      simp
  · rcases bound_some hl with ⟨rfl, rfl⟩ | ⟨kl, c2, rfl⟩
    · simp only [Instr.sliceBounds, Option.map_none, Option.map_some, conc, Sem.run_bind, Sem.run_pure, Result.andThen_ok]
      rw [run_sliceBound w ⟨by omega, by omega⟩]
      simp
    · simp only [Instr.sliceBounds, Option.map_none, Option.map_some, conc, Sem.run_bind, Sem.run_pure, Result.andThen_ok]
      rw [run_sliceBound w ⟨by omega, by omega⟩]
      simp only [Result.andThen_ok]
      rw [run_sliceBound w ⟨h0, by omega⟩]
      simp

theorem cut_append : ∀ (p : List Nat) (l a c : Nat), cut (p ++ [l]) a c = if (cut p a c).2 = l then ((cut p a c).1, 0) else ((cut p a c).1 + l, (cut p a c).2 - l)
  | [], l, a, c => by
    simp only [List.nil_append, cut]
    by_cases e : c = l <;> simp [e]
  | x :: p, l, a, c => by
    simp only [List.cons_append, cut]
    split
    · exact cut_append p l a 0
    · exact cut_append p l (a + x) (c - x)

theorem slice_sound (hR : Real C w E H) (a : AV) (lo hi mx : Option AV) (hwf : a.wf H.o.length H.n.length) {ρ : Operand → Value} {x : Operand} {l h m : Option Operand} (hx : ρ x = conc E a)
    (hl : l.map ρ = lo.map (conc E)) (hh : h.map ρ = hi.map (conc E)) (hmx : m.map ρ = mx.map (conc E)) {o : Oper} {t : TypeId}
    (ho : o.op = .slice t x l h m) : Snd C E H w (execOp ρ o) (sliceRule C.P t a lo hi mx) := by
  have hm : execOp ρ o = (do pure (.value (← Instr.sliceAt t (conc E a) (lo.map (conc E)) (hi.map (conc E)) (mx.map (conc E))))) := by unfold execOp; simp only [ho, hx, hl, hh, hmx]
  rw [hm]
  unfold sliceRule
  split
  · rename_i s c
    split
    · rename_i l cl h ch hu h1 h2
      intro a hh
      obtain ⟨hj, hh⟩ := cond_stuck hh
      have := leaf_some hh; subst this
      simp only [decide_eq_true_eq] at hj
      refine ⟨trivial, vrun ?_⟩
      simp only [Instr.sliceAt, Sem.run_bind, run_underlying hu, Result.andThen_ok, Option.map_none, conc, Instr.slice, Option.isSome_none, Bool.false_eq_true, if_false, Sem.run_pure]
      rw [run_sliceBounds w h1 h2 hj.1 hj.2.1 (by omega) (Nat.le_refl _)]
      rfl
    · exact Snd.stuck
  · rename_i i sz path len
    split
    · rename_i e l cl h ch hu h1 h2
      intro sl a hi hh
      cases hcs : rowIn sl with
      | none => simp only [hcs] at hh; cases hh
      | some r =>
      simp only [hcs] at hh
      obtain ⟨hm', hh⟩ := must_some hh
      obtain ⟨hj, hh⟩ := req_some hh
      have := leaf_some hh; subst this
      simp only [Bool.and_eq_true, beq_iff_eq] at hm'
      simp only [decide_eq_true_eq] at hj
      have hlc : r.length ≤ (E i).cap := by
        rcases rowIn_real hcs (hR.slot i sl hi) with ⟨_, h0, h0'⟩ | ⟨b, hb, hlc, _⟩
        · omega
        · exact hlc
      have hcut := (sumL_cut path 0 (E i).cap (by omega)).1
      refine ⟨hwf, vrun ?_⟩
      simp only [Instr.sliceAt, Sem.run_bind, run_underlying hu, Result.andThen_ok, Option.map_none, conc, Instr.slice]
      rw [run_sliceBounds w h1 h2 hj.1 hj.2.1 (by omega) (by rw [hcut]; omega)]
      simp only [Result.andThen_ok, sizeT_some hm'.1, Sem.run_pure]
      rw [cut_append]
      by_cases e' : (cut path 0 (E i).cap).2 = l.toNat
      · rw [if_pos e', if_pos e', e', Nat.sub_self]
      · rw [if_neg e', if_neg e']
        cases E.blk i with
        | none => rfl
        | some b => simp only [Option.map_some, add_at, Nat.add_mul, Nat.add_assoc]
    · exact Snd.stuck
  · exact Snd.stuck

end Eng

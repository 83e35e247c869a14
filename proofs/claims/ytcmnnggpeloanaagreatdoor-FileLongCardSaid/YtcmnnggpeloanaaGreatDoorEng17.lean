/- The engine, part 17: every rule is sound. -/
import Derived.Test.YtcmnnggpeloanaaGreatDoorEng16
namespace Eng
open Go

variable {C : Ctx} {E : Env} {H : Heap} {w : World}

theorem Snd.pureLeaf {a : AV} {m : Sem Next} (hw : a.wf H.o.length H.n.length) (hm : m.run C.P w = .ok (.value (conc E a)) w) : Snd C E H w m (.pure (.leaf a)) := by
  intro b h
  have := leaf_some h; subst this
  exact ⟨hw, hm⟩

theorem method_run {P : Program} {t : TypeId} {m : String} {g : FuncId} {v : Value} {w : World} (h : methodT P t m = some g) :
    (method (P.types.size + Made.depth) t v m).run P w = .ok (g, v) w := by
  unfold methodT at h
  split at h
  · rename_i i e hi hu
    split at h
    · rename_i r hr
      split at h
      · rename_i f hp hf
        cases h
        have key : ∀ n, (method (n + 1) t v m).run P w = .ok (g, v) w := by
          intro n
          unfold method
          simp [typeInfo, hi, hr, hp, hf, follow, receiverAt, run_underlying hu, Place.get]
        exact key _
      · cases h
    · cases h
  · cases h

theorem call_sound (hC : C.good) (hR : Real C w E H) (ρ' : Operand → AV) (hw : ∀ x, (ρ' x).wf H.o.length H.n.length) (o : Oper) (c : Call) (ho : o.op = .call c) :
    Snd C E H w (execOp (fun x => conc E (ρ' x)) o) (callRule C ρ' c) := by
  have hargs : ∀ l : List Operand, (l.map fun x => conc E (ρ' x)) = concL E (l.map ρ') := by intro l; rw [concL_map]; simp
  unfold callRule
  cases hc : c.callee with
  | value f =>
    simp only
    split
    · rename_i g caps hf
      intro y h
      obtain ⟨hg, h⟩ := must_some h
      have := leaf_some h; subst this
      have hcw := hw f
      rw [hf] at hcw
      refine ⟨rfl, ?_, ?_⟩
      · rw [AV.wfL_iff]
        intro a ha
        rcases List.mem_append.1 ha with ha | ha
        · rw [List.mem_map] at ha
          obtain ⟨x, _, rfl⟩ := ha
          exact hw x
        · exact (AV.wfL_iff.1 hcw) a ha
      · obtain ⟨fn, h1, h2, h3⟩ := hC g hg
        unfold execOp
        simp only [ho, resolve, hc, hf, conc, Deferred.ofValue, Sem.run_bind, Sem.run_pure, Result.andThen_ok, invoke]
        have e : (#[] ++ Array.map (fun x => conc E (ρ' x)) c.args) ++ (concL E caps).toArray = (concL E (c.args.toList.map ρ' ++ caps)).toArray := by
          apply Array.ext'
          simp [concL_append, ← hargs]
        rw [e]
        exact callF h1 h2 h3 _ w
    · rename_i g first hf
      intro y h
      obtain ⟨hg, h⟩ := must_some h
      have := leaf_some h; subst this
      have hcw := hw f
      rw [hf] at hcw
      refine ⟨rfl, ?_, ?_⟩
      · rw [AV.wfL_iff]
        intro a ha
        rcases List.mem_append.1 ha with ha | ha
        · exact (AV.wfL_iff.1 hcw) a ha
        · rw [List.mem_map] at ha
          obtain ⟨x, _, rfl⟩ := ha
          exact hw x
      · obtain ⟨fn, h1, h2, h3⟩ := hC g hg
        unfold execOp
        simp only [ho, resolve, hc, hf, conc, Deferred.ofValue, Sem.run_bind, Sem.run_pure, Result.andThen_ok, invoke]
        have e : ((concL E first).toArray ++ Array.map (fun x => conc E (ρ' x)) c.args) ++ #[] = (concL E (first ++ c.args.toList.map ρ')).toArray := by
          apply Array.ext'
          simp [concL_append, ← hargs]
        rw [e]
        exact callF h1 h2 h3 _ w
    · exact Snd.stuck
  | builtin b =>
    have hex : execOp (fun x => conc E (ρ' x)) o = builtin b c.argTypes o.type (c.args.map fun | .const _ => true | _ => false) (c.args.map fun x => conc E (ρ' x)) := by
      unfold execOp
      simp only [ho, resolve, hc]
      rfl
    rw [hex]
    cases b <;> simp only <;> try exact Snd.stuck
    · -- append
      split
      · rename_i a b t u ha ht
        have e1 : (c.args.map fun x => conc E (ρ' x)) = #[conc E (ρ' a), conc E (ρ' b)] := by
          apply Array.ext'; simp [ha]
        have e2 : c.argTypes = #[t, u] := by apply Array.ext'; simp [ht]
        rw [e1, e2]
        exact append_sound hR t u (ρ' a) (ρ' b) o.type
      · exact Snd.stuck
    · -- len
      split
      · rename_i a t ha ht
        have e1 : (c.args.map fun x => conc E (ρ' x)) = #[conc E (ρ' a)] := by
          apply Array.ext'; simp [ha]
        have e2 : c.argTypes = #[t] := by apply Array.ext'; simp [ht]
        rw [e1, e2]
        exact len_sound hR (ρ' a) t o.type
      · exact Snd.stuck
    · -- max
      have e1 : (c.args.map fun x => conc E (ρ' x)) = (concL E (c.args.toList.map ρ')).toArray := by
        apply Array.ext'; simp [← hargs]
      rw [e1]
      exact mm_sound true _ c.argTypes o.type _ rfl
    · have e1 : (c.args.map fun x => conc E (ρ' x)) = (concL E (c.args.toList.map ρ')).toArray := by
        apply Array.ext'; simp [← hargs]
      rw [e1]
      exact mm_sound false _ c.argTypes o.type _ rfl
  | invoke r m =>
    simp only
    split
    · rename_i t x hf
      split
      · rename_i g hm
        intro y h
        obtain ⟨hg, h⟩ := must_some h
        have := leaf_some h; subst this
        have hcw := hw r
        rw [hf] at hcw
        refine ⟨rfl, ⟨hcw, ?_⟩, ?_⟩
        · rw [AV.wfL_iff]
          intro a ha
          rw [List.mem_map] at ha
          obtain ⟨x, _, rfl⟩ := ha
          exact hw x
        · obtain ⟨fn, h1, h2, h3⟩ := hC g hg
          unfold execOp
          simp only [ho, resolve, hc, hf, conc, Sem.run_bind, Sem.run_pure, Result.andThen_ok, invoke]
          have e0 : (#[Value.iface t (conc E x)] ++ Array.map (fun x => conc E (ρ' x)) c.args)[0]? = some (Value.iface t (conc E x)) := by rw [Array.getElem?_append_left (by simp)]; rfl
          rw [e0]
          simp only [callMethod, Sem.run_bind, run_program, Result.andThen_ok, method_run hm]
          have e : #[conc E x] ++ (#[Value.iface t (conc E x)] ++ Array.map (fun x => conc E (ρ' x)) c.args).extract 1 (#[Value.iface t (conc E x)] ++ Array.map (fun x => conc E (ρ' x)) c.args).size = (concL E (x :: c.args.toList.map ρ')).toArray := by
            apply Array.ext'
            simp [concL, ← hargs]
            rw [List.take_of_length_le (by simp)]
          rw [e]
          exact callF h1 h2 h3 _ w
      · exact Snd.stuck
    · exact Snd.stuck

theorem opRule_sound (hC : C.good) (hR : Real C w E H) (ρ' : Operand → AV) (hw : ∀ x, (ρ' x).wf H.o.length H.n.length) (o : Oper) :
    Snd C E H w (execOp (fun x => conc E (ρ' x)) o) (opRule C o ρ') := by
  unfold opRule
  cases ho : o.op <;> (try simp only) <;> try exact Snd.stuck
  case move x => exact Snd.pureLeaf (hw x) (by unfold execOp; simp only [ho]; rfl)
  case assign x => exact Snd.pureLeaf (hw x) (by unfold execOp; simp only [ho]; rfl)
  case pick c a b =>
    split
    · rename_i t k hc
      intro y h
      rw [T.run_cond] at h
      have hm : execOp (fun x => conc E (ρ' x)) o = (do pure (.value (if ← asBool (conc E (ρ' c)) then conc E (ρ' a) else conc E (ρ' b)))) := by unfold execOp; simp only [ho]
      rw [hm, hc]
      cases t with
      | true =>
        simp only [if_true] at h
        have := leaf_some h; subst this
        exact ⟨hw a, rfl⟩
      | false =>
        simp only [Bool.false_eq_true, if_false] at h
        have := leaf_some h; subst this
        exact ⟨hw b, rfl⟩
    · exact Snd.stuck
  case alloc t =>
    have hm : execOp (fun x => conc E (ρ' x)) o = (do pure (.value (← Instr.alloc t true (.tuple #[])))) := by unfold execOp; simp only [ho]
    rw [hm]; exact alloc_sound hR t
  case box t x =>
    have hm : execOp (fun x => conc E (ρ' x)) o = (do pure (.value (← Instr.box t (conc E (ρ' x))))) := by unfold execOp; simp only [ho]
    rw [hm]; exact box_sound hR t _ (hw x)
  case build t ps =>
    have hm : execOp (fun x => conc E (ρ' x)) o = (do pure (.value (← Instr.build t (ps.map fun (i, x) => (i, conc E (ρ' x)))))) := by unfold execOp; simp only [ho]
    rw [hm]
    exact build_sound t _ (fun p hp => by rw [List.mem_map] at hp; obtain ⟨q, _, rfl⟩ := hp; exact hw _) _ (by simp)
  case buildSlice t n ps =>
    have hm : execOp (fun x => conc E (ρ' x)) o = (do pure (.value (← Instr.buildSlice t n (ps.map fun (i, x) => (i, conc E (ρ' x)))))) := by unfold execOp; simp only [ho]
    rw [hm]
    exact buildSlice_sound hR t n _ _ (by simp)
  case load t a =>
    exact load_sound hR t (ρ' a) (by unfold execOp; simp only [ho])
  case store t a x =>
    have hm : execOp (fun x => conc E (ρ' x)) o = (do Instr.storeAt t (conc E (ρ' a)) (conc E (ρ' x)); pure .skip) := by unfold execOp; simp only [ho]
    rw [hm]; exact store_sound hR t _ _ (hw x)
  case nilCheck x => exact nilCheck_sound hR _ (hw x) (x := x) rfl ho
  case binOp op t x y t' => exact bin_sound hR _ _ (x := x) (y := y) rfl rfl ho
  case unOp op t x => exact un_sound _ (x := x) rfl ho
  case convert s d x => exact conv_sound hR _ (x := x) rfl ho
  case makeInterface t x =>
    split
    · exact Snd.stuck
    · rename_i d hd hu
      refine Snd.pureLeaf (hw x) ?_
      unfold execOp
      simp only [ho]
      refine vrun ?_
      have : ∀ d', C.P.underlying t = some d' → (∀ ms, d' ≠ .interface ms) → (Instr.makeInterface t (conc E (ρ' x))).run C.P w = .ok (.iface t (conc E (ρ' x))) w := by
        intro d' hu' hne
        unfold Instr.makeInterface
        simp only [Sem.run_bind, run_underlying hu', Result.andThen_ok]
        cases d' <;> first | rfl | exact absurd rfl (hne _)
      exact this d hu (fun ms h => hd ms h)
    · exact Snd.stuck
  case makeFunc fn fs cs =>
    cases fn with
    | func f =>
      simp only
      split
      · rename_i l hfs
        refine Snd.pureLeaf ?_ ?_
        · show AV.wfL _ _ _
          rw [AV.wfL_iff]
          intro a ha
          rw [List.mem_map] at ha
          obtain ⟨x, _, rfl⟩ := ha
          exact hw x
        · unfold execOp
          simp only [ho]
          refine vrun ?_
          have e1 : fs = #[] := by apply Array.ext'; simpa using hfs
          have e2 : (cs.map fun x => conc E (ρ' x)) = (concL E (cs.toList.map ρ')).toArray := by
            apply Array.ext'; simp [concL_map]
          rw [e1, e2]
          simp [Instr.makeFunc, conc]
      · rename_i hcs _
        refine Snd.pureLeaf ?_ ?_
        · show AV.wfL _ _ _
          rw [AV.wfL_iff]
          intro a ha
          rw [List.mem_map] at ha
          obtain ⟨x, _, rfl⟩ := ha
          exact hw x
        · unfold execOp
          simp only [ho]
          refine vrun ?_
          have e1 : cs = #[] := by apply Array.ext'; simpa using hcs
          have e2 : (fs.map fun x => conc E (ρ' x)) = (concL E (fs.toList.map ρ')).toArray := by
            apply Array.ext'; simp [concL_map]
          rw [e1, e2]
          simp [Instr.makeFunc, conc]
      · exact Snd.stuck
    | _ => exact Snd.stuck
  case makeSlice t l c =>
    have hm : execOp (fun x => conc E (ρ' x)) o = (do pure (.value (← Instr.makeSlice t (conc E (ρ' l)) (conc E (ρ' c))))) := by unfold execOp; simp only [ho]
    rw [hm]; exact makeSlice_sound hR t _ _
  case slice t x lo hi mx =>
    exact slice_sound hR _ _ _ _ (hw x) (x := x) (l := lo) (h := hi) (m := mx) rfl (by cases lo <;> rfl) (by cases hi <;> rfl) (by cases mx <;> rfl) ho
  case fieldAddr s x f => exact field_sound hR _ (hw x) (x := x) rfl ho
  case field s x f => exact fieldOf_sound _ (hw x) (x := x) rfl ho
  case indexAddr t x i => exact indexAddr_sound hR _ _ (hw x) (x := x) (i := i) rfl rfl ho
  case index t x i => exact index_sound _ _ (hw x) (x := x) (i := i) rfl rfl ho
  case extract x n =>
    split
    · rename_i vs hx
      intro a h
      have h := fromO_some h
      have hxw := hw x
      rw [hx] at hxw
      refine ⟨(AV.wfL_iff.1 hxw) a (List.mem_of_getElem? h), ?_⟩
      have hm : execOp (fun x => conc E (ρ' x)) o = (do pure (.value (← Instr.extract (conc E (ρ' x)) n))) := by unfold execOp; simp only [ho]
      rw [hm, hx]
      refine vrun ?_
      simp only [conc, Instr.extract, concL_map]
      have : (vs.map (conc E)).toArray[n]? = some (conc E a) := by simp [h]
      rw [this]
      rfl
    · exact Snd.stuck
  case call c => exact call_sound hC hR ρ' hw o c ho

end Eng

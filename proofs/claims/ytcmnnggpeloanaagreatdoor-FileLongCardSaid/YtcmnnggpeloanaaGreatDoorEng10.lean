/- The engine, part 10: the rules that make or write memory. -/
import Derived.Test.YtcmnnggpeloanaaGreatDoorEng9
import Derived.Laws.MakeOwn
import Derived.Laws.NewBlocks
namespace Eng
open Go

variable {C : Ctx} {E : Env} {H : Heap} {w : World}

theorem run_newVar {P : Program} (t : TypeId) (v : Value) (w : World) : (newVar t v).run P w = .ok ⟨w.heap.size, 0, none⟩ (w.alloc (.cells v.cells t)) := rfl
theorem run_newRow {P : Program} (t : TypeId) (cs : Array Value) (w : World) : (newRow t cs).run P w = .ok ⟨w.heap.size, 0, none⟩ (w.alloc (.cells cs t)) := rfl

theorem alloc_heap (w : World) (o : Obj) : (w.alloc o).heap[w.heap.size]? = some o ∧ (w.alloc o).heap.size = w.heap.size + 1 ∧ ∀ b, b < w.heap.size → (w.alloc o).heap[b]? = w.heap[b]? := by
  refine ⟨?_, ?_, fun b hb => RowKit.Below.heap_alloc w o b hb⟩
  · show (w.heap.push o)[w.heap.size]? = _
    simp
  · show (w.heap.push o).size = _
    simp

/-- a new block of cells -/
theorem step_new {C : Ctx} {E : Env} {H : Heap} {w : World} (hR : Real C w E H) {cs : List AV} {t : TypeId} (hw : AV.wfL H.o.length H.n.length cs) (ho : okCells cs = true) {xs : Array Value}
    (hx : xs.toList = cellsOf (concL E cs)) :
    ∃ E', Step C E H w E' (H.add (.cells cs t)) (w.alloc (.cells xs t)) ∧ conc E' (.ptr (newSlot H) 0) = .pointer (some ⟨w.heap.size, 0, none⟩) := by
  obtain ⟨h1, h2, h3⟩ := alloc_heap w (.cells xs t)
  have hag := upd_agree E H ⟨[w.heap.size], 0, 0⟩
  have hw' : AV.wfL H.o.length (H.n.length + 1) cs := AV.wfL_mono (Nat.le_refl _) (Nat.le_succ _) _ hw
  refine ⟨_, step_add hR ⟨[w.heap.size], 0, 0⟩ ⟨hw', ho⟩ rfl ⟨w.heap.size, rfl, rfl, ?_⟩ (fun b hb => by simp at hb; subst hb; omega) (by omega) h3 rfl rfl rfl, ?_⟩
  · unfold Thawed
    rw [h1, concL_agree hag cs hw, ← hx]
  · simp [conc, Env.blk, Env.upd]

theorem sameV_eq {a b : Value} (h : sameV a b = true) : a = b := by
  unfold sameV at h
  split at h <;> first
    | (simp at h; done)
    | rfl
    | (simp only [beq_iff_eq] at h; subst h; rfl)
    | (simp only [Bool.and_eq_true, decide_eq_true_eq] at h; obtain ⟨rfl, rfl⟩ := h; rfl)
    | (rename_i s r
       simp only [beq_iff_eq] at h
       cases s with | mk sd => cases r with | mk rd =>
       congr 2
       exact Array.ext' h)

theorem sameVs_eq : ∀ {l m : List Value}, sameVs l m = true → l = m
  | [], [], _ => rfl
  | a :: l, b :: m, h => by
    simp only [sameVs, Bool.and_eq_true] at h
    rw [sameV_eq h.1, sameVs_eq h.2]
  | [], _ :: _, h => by simp [sameVs] at h
  | _ :: _, [], h => by simp [sameVs] at h

theorem pure_conc {E E' : Env} {a : AV} (h : pureAVs [a] = true) : conc E a = conc E' a := by
  cases a <;> first | rfl | (simp [pureAVs] at h)
theorem pureL_conc {E E' : Env} : ∀ {l : List AV}, pureAVs l = true → concL E l = concL E' l
  | [], _ => rfl
  | a :: l, h => by
    have h' : pureAVs [a] = true ∧ pureAVs l = true := by simpa [pureAVs] using h
    rw [concL, concL, pure_conc (E := E) (E' := E') h'.1, pureL_conc h'.2]
theorem pureL_wf {no nn : Nat} : ∀ {l : List AV}, pureAVs l = true → AV.wfL no nn l
  | [], _ => trivial
  | a :: l, h => by
    have h' : pureAVs [a] = true ∧ pureAVs l = true := by simpa [pureAVs] using h
    refine ⟨?_, pureL_wf h'.2⟩
    cases a <;> first | trivial | (simp [pureAVs] at h; done) | (simpa [pureAVs, AV.wf] using h'.1)

theorem zeroCellsT_some {P : Program} {t : TypeId} {l : List AV} (h : zeroCellsT P t = some l) : ∃ i z, P.info? t = some i ∧ i.zero = some z ∧ pureAVs l = true ∧ ∀ E, cellsOf (concL E l) = z.cells.toList := by
  unfold zeroCellsT at h
  split at h
  · rename_i l' z hl hz
    split at h
    · rename_i hc
      cases h
      rw [Bool.and_eq_true] at hc
      rw [Option.bind_eq_some_iff] at hz
      obtain ⟨i, hi, hz⟩ := hz
      refine ⟨i, z, hi, hz, hc.1, fun E => ?_⟩
      rw [pureL_conc (E' := noEnv) hc.1]
      exact sameVs_eq hc.2
    · cases h
  · cases h

end Eng

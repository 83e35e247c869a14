/- The engine, part 28: plain laws on rounds. -/
import Derived.Test.YtcmnnggpeloanaaGreatDoorEng27
import Derived.Laws.BitsLemmas
namespace Eng
open Go

theorem iter_ind {σ ρ : Type} {rd : σ → T (σ ⊕ ρ)} (I : σ → Prop) (m : σ → Nat) (Q : ρ → Prop)
    (h : ∀ s, I s → (∃ s', (rd s).run = some (.inl s') ∧ I s' ∧ m s' < m s) ∨ ∃ r, (rd s).run = some (.inr r) ∧ Q r) :
    ∀ n s, I s → m s < n → ∃ r, iter rd n s = some r ∧ Q r
  | 0, s, _, hm => absurd hm (Nat.not_lt_zero _)
  | n + 1, s, hI, hm => by
    unfold iter
    rcases h s hI with ⟨s', h1, h2, h3⟩ | ⟨r, h1, h2⟩
    · rw [h1]
      exact iter_ind I m Q h n s' h2 (by omega)
    · rw [h1]
      exact ⟨r, rfl, h2⟩

theorem Loop.ind {φ σ ρ : Type} (D : Loop φ σ ρ) (p : φ) (I : σ → Prop) (m : σ → Nat) (Q : ρ → Prop)
    (h : ∀ s, I s → (∃ s', (D.rd p s).run = some (.inl s') ∧ I s' ∧ m s' < m s) ∨ ∃ r, (D.rd p s).run = some (.inr r) ∧ Q r)
    {s : σ} (hI : I s) (hm : m s < D.fuel p s) : D.ok p s = true ∧ Q (D.res p s) := by
  obtain ⟨r, h1, h2⟩ := iter_ind I m Q h (D.fuel p s) s hI hm
  obtain ⟨h3, h4⟩ := Loop.val_of (D := D) h1
  exact ⟨h3, by rw [h4]; exact h2⟩

theorem wrap_i {n : Int} (h0 : -9223372036854775808 ≤ n) (h1 : n < 9223372036854775808) : IntKind.i64.wrap n = n := by
  rw [IntKind.wrap_i64]; omega
end Eng
namespace Eng
/-! ### ends of several kinds -/
def isL {α β : Type} : α ⊕ β → Bool
  | .inl _ => true
  | .inr _ => false
def gl {α β : Type} [Inhabited α] : α ⊕ β → α
  | .inl a => a
  | .inr _ => default
def gr {α β : Type} [Inhabited β] : α ⊕ β → β
  | .inl _ => default
  | .inr b => b
end Eng
namespace Eng
open Go
/-! ### one function, several shapes of arguments -/
def Fun.or {α ρ : Type} (D : Fun α ρ) (g : List AV → Heap → T (AV × Heap)) : List AV → Heap → T (AV × Heap) := fun args H =>
  match D.dec args H with
  | some a => .br (D.ok a) (D.outB a (D.res a)) .stuck
  | none => g args H
theorem fn_or {C : Ctx} {f : FuncId} {α ρ : Type} {D : Fun α ρ} {g : List AV → Heap → T (AV × Heap)} (h1 : FnOk C f (fgt D.g)) (h2 : FnOk C f (fgt g)) : FnOk C f (fgt (D.or g)) := by
  intro args H E w r H' hHn hR hw h
  unfold fgt Fun.or at h
  split at h
  · rename_i a ha
    refine h1 args H E w r H' hHn hR hw ?_
    unfold fgt Fun.g
    rw [ha]
    exact h
  · exact h2 args H E w r H' hHn hR hw h
end Eng
namespace Eng
open Go
theorem run_t {α : Type} {b : Bool} {t e : T α} (h : b = true) : (T.br b t e).run = t.run := by subst h; rfl
theorem run_f {α : Type} {b : Bool} {t e : T α} (h : b = false) : (T.br b t e).run = e.run := by subst h; rfl
theorem run_l {α : Type} {a : α} : (T.leaf a).run = some a := rfl
theorem Fun.ok_of {α ρ : Type} {D : Fun α ρ} {a : α} {r : ρ} (h : D.val a = some r) : D.ok a = true := (Fun.val_of h).1
theorem Fun.res_of {α ρ : Type} {D : Fun α ρ} {a : α} {r : ρ} (h : D.val a = some r) : D.res a = r := (Fun.val_of h).2
theorem take_drop0 {l : List Int} {n : Nat} (h : l.length = n) : List.take n (List.drop 0 l) = l := by subst h; simp
end Eng

namespace Eng
/-- the function's value is known: on with it -/
theorem run_ok {α ρ β : Type} {D : Fun α ρ} {a : α} {r : ρ} {k : ρ → T β} {e : T β} {x : Option β} (h : D.val a = some r) (hk : (k r).run = x) : (T.br (D.ok a) (T.seq (D.res a) k) e).run = x := by
  rw [run_t (Fun.ok_of h), Fun.res_of h]; exact hk
theorem run_okL {φ σ ρ β : Type} {D : Loop φ σ ρ} {p : φ} {s : σ} {k : ρ → T β} {e : T β} {x : Option β} (h : D.ok p s = true) (hk : (k (D.res p s)).run = x) : (T.br (D.ok p s) (T.seq (D.res p s) k) e).run = x := by
  rw [run_t h]; exact hk
theorem run_tt {β : Type} {b : Bool} {t e : T β} {x : Option β} (h : b = true) (ht : t.run = x) : (T.br b t e).run = x := by rw [run_t h]; exact ht
theorem run_ff {β : Type} {b : Bool} {t e : T β} {x : Option β} (h : b = false) (ht : e.run = x) : (T.br b t e).run = x := by rw [run_f h]; exact ht
end Eng

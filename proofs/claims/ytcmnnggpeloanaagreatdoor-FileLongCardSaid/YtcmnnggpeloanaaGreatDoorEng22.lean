/- The engine, part 22: a region's text told place by place. -/
import Derived.Test.YtcmnnggpeloanaaGreatDoorEng21
namespace Eng
open Go

def guardOk (ops : Array Oper) (o : Oper) (fr : List AV) : Prop :=
  ∀ j want, o.guard = some (j, want) → ∃ t k, guardSlot ops j = some t ∧ fr[t]? = some (.v (.bool want) k)
def guardNo (ops : Array Oper) (o : Oper) (fr : List AV) : Prop :=
  ∃ j want, o.guard = some (j, want) ∧ (guardSlot ops j = none ∨ (∃ t b k, guardSlot ops j = some t ∧ fr[t]? = some (.v (.bool b) k) ∧ b ≠ want) ∨ ∃ t x k, guardSlot ops j = some t ∧ fr[t]? = some (.v (.tuple x) k))

/-- one place of a region's text -/
inductive At (C : Ctx) (F : Fns) (ops : Array Oper) (o : Oper) (fr : List AV) (H : Heap) : AV → Option Note → Heap → Prop
  | go {a : AV} {nt : Note} {H' : Heap} (g : guardOk ops o fr) (h : (op1 C F o fr H).run = some (a, H', nt)) : At C F ops o fr H a (some nt) H'
  | skip (g : guardNo ops o fr) : At C F ops o fr H U none H

def writes (l : List Oper) (p : Nat) (t : Tmp) : Prop := ∃ o, l[p]? = some o ∧ o.dst = some t

/-- the value of a slot once the operations of S below p have run -/
noncomputable def lastS (S : Nat → Prop) (l : List Oper) (V : Nat → AV) (f0 : Tmp → AV) : Nat → Tmp → AV
  | 0, t => f0 t
  | p + 1, t => open Classical in if S p ∧ writes l p t then V p else lastS S l V f0 p t

theorem lastS_congr {S S' : Nat → Prop} {l : List Oper} {V : Nat → AV} {f0 : Tmp → AV} {t : Tmp} : ∀ n, (∀ p, p < n → writes l p t → (S p ↔ S' p)) → lastS S l V f0 n t = lastS S' l V f0 n t
  | 0, _ => rfl
  | n + 1, h => by
    unfold lastS
    rw [lastS_congr n fun p hp => h p (by omega)]
    by_cases hw : writes l n t
    · by_cases hs : S n
      · rw [if_pos ⟨hs, hw⟩, if_pos ⟨(h n (by omega) hw).1 hs, hw⟩]
      · rw [if_neg (fun x => hs x.1), if_neg (fun x => hs ((h n (by omega) hw).2 x.1))]
    · rw [if_neg (fun x => hw x.2), if_neg (fun x => hw x.2)]

/-- nothing of S writes t from m on -/
theorem lastS_cut {S : Nat → Prop} {l : List Oper} {V : Nat → AV} {f0 : Tmp → AV} {t : Tmp} {m : Nat} : ∀ n, m ≤ n → (∀ p, m ≤ p → p < n → writes l p t → ¬ S p) → lastS S l V f0 n t = lastS S l V f0 m t
  | 0, hm, _ => by have : m = 0 := by omega
                   subst this; rfl
  | n + 1, hm, h => by
    by_cases he : m = n + 1
    · subst he; rfl
    · have := lastS_cut (S := S) (V := V) (f0 := f0) n (by omega) (fun p h1 h2 => h p h1 (by omega))
      rw [← this]
      show (open Classical in if S n ∧ writes l n t then V n else lastS S l V f0 n t) = _
      rw [if_neg (fun x => h n (by omega) (by omega) x.2 x.1)]

theorem lastS_same {S : Nat → Prop} {l : List Oper} {V : Nat → AV} {f g : Tmp → AV} {t : Tmp} (h : Same (f t) (g t)) : ∀ n, Same (lastS S l V f n t) (lastS S l V g n t)
  | 0 => h
  | n + 1 => by
    unfold lastS
    split
    · exact Same.refl _
    · exact lastS_same h n

abbrev all : Nat → Prop := fun _ => True

theorem lastS_cons {o : Oper} {l : List Oper} {a : AV} {V : Nat → AV} {f0 : Tmp → AV} {t : Tmp} : ∀ n,
    lastS all (o :: l) (fun p => match p with | 0 => a | p + 1 => V p) f0 (n + 1) t = lastS all l V (fun t => open Classical in if o.dst = some t then a else f0 t) n t
  | 0 => by
    simp only [lastS, writes, List.getElem?_cons_zero, Option.some.injEq, exists_eq_left', all, true_and]
  | n + 1 => by
    have ih := lastS_cons (o := o) (l := l) (a := a) (V := V) (f0 := f0) (t := t) n
    conv => lhs; unfold lastS
    conv => rhs; unfold lastS
    rw [ih]
    have e : writes (o :: l) (n + 1) t ↔ writes l n t := by simp only [writes, List.getElem?_cons_succ]
    by_cases h : writes l n t
    · rw [if_pos ⟨trivial, e.2 h⟩, if_pos ⟨trivial, h⟩]
    · rw [if_neg (fun x => h (e.1 x.2)), if_neg (fun x => h x.2)]

theorem putD_length (fr : List AV) (d : Option Tmp) (a : AV) : (putD fr d a).length = fr.length := by
  cases d <;> simp [putD]
theorem putD_get (fr : List AV) (d : Option Tmp) (a : AV) (t : Tmp) (ht : t < fr.length) : (putD fr d a).getD t U = (open Classical in if d = some t then a else fr.getD t U) := by
  cases d with
  | none => simp [putD]
  | some d =>
    by_cases h : d = t
    · subst h; simp [putD, ht]
    · simp [putD, h, List.getElem?_set_ne h]

section
variable {C : Ctx} {F : Fns} {ops : Array Oper}

theorem head_go {o : Oper} {rest : List Oper} {fr fr' : List AV} {H H' : Heap} {notes : List (Option Note)}
    (h : ((op1 C F o fr H).bind fun x => (runOps C F ops rest (putD fr o.dst x.1) x.2.1).bind fun y => .leaf (y.1, y.2.1, some x.2.2 :: y.2.2)).run = some (fr', H', notes)) :
    ∃ a nt H1 notes', (op1 C F o fr H).run = some (a, H1, nt) ∧ (runOps C F ops rest (putD fr o.dst a) H1).run = some (fr', H', notes') ∧ notes = some nt :: notes' := by
  obtain ⟨⟨a, H1, nt⟩, h1, h⟩ := T.bind_some h
  obtain ⟨⟨f2, H2, n2⟩, h2, h⟩ := T.bind_some h
  have := leaf_some h
  simp only [Prod.mk.injEq] at this
  obtain ⟨rfl, rfl, rfl⟩ := this
  exact ⟨a, nt, H1, n2, h1, h2, rfl⟩

theorem head_skip {o : Oper} {rest : List Oper} {fr fr' : List AV} {H H' : Heap} {notes : List (Option Note)}
    (h : ((runOps C F ops rest (putD fr o.dst (.v undef true)) H).bind fun y => .leaf (y.1, y.2.1, none :: y.2.2)).run = some (fr', H', notes)) :
    ∃ notes', (runOps C F ops rest (putD fr o.dst U) H).run = some (fr', H', notes') ∧ notes = none :: notes' := by
  obtain ⟨⟨f2, H2, n2⟩, h2, h⟩ := T.bind_some h
  have := leaf_some h
  simp only [Prod.mk.injEq] at this
  obtain ⟨rfl, rfl, rfl⟩ := this
  exact ⟨n2, h2, rfl⟩

theorem set_same {fr : List AV} {t : Tmp} {x : Value} {c d : Bool} (h : fr[t]? = some (.v x c)) :
    (fr.set t (.v x d)).length = fr.length ∧ (∀ u, Same ((fr.set t (.v x d)).getD u U) (fr.getD u U)) ∧ (fr.set t (.v x d))[t]? = some (.v x d) := by
  have ht := (List.getElem?_eq_some_iff.1 h).1
  refine ⟨by simp, fun u => ?_, by simp [ht]⟩
  by_cases hu : t = u
  · subst hu
    simp only [List.getD_eq_getElem?_getD, h]
    simp only [List.getElem?_set_self ht, Option.getD_some]
    exact Same.flag _ _ _
  · simp only [List.getD_eq_getElem?_getD, List.getElem?_set_ne hu]
    exact Same.refl _

theorem head {o : Oper} {rest : List Oper} {fr fr' : List AV} {H H' : Heap} {notes : List (Option Note)} (h : (runOps C F ops (o :: rest) fr H).run = some (fr', H', notes)) :
    ∃ fr1 a N0 H1 notes', fr1.length = fr.length ∧ (∀ t, Same (fr1.getD t U) (fr.getD t U)) ∧ At C F ops o fr1 H a N0 H1 ∧
      (runOps C F ops rest (putD fr1 o.dst a) H1).run = some (fr', H', notes') ∧ notes = N0 :: notes' := by
  have goes : ∀ fr1, fr1.length = fr.length → (∀ t, Same (fr1.getD t U) (fr.getD t U)) → guardOk ops o fr1 →
      ((op1 C F o fr1 H).bind fun x => (runOps C F ops rest (putD fr1 o.dst x.1) x.2.1).bind fun y => .leaf (y.1, y.2.1, some x.2.2 :: y.2.2)).run = some (fr', H', notes) →
      ∃ fr1 a N0 H1 notes', fr1.length = fr.length ∧ (∀ t, Same (fr1.getD t U) (fr.getD t U)) ∧ At C F ops o fr1 H a N0 H1 ∧
      (runOps C F ops rest (putD fr1 o.dst a) H1).run = some (fr', H', notes') ∧ notes = N0 :: notes' := by
    intro fr1 hl hs hg h
    obtain ⟨a, nt, H1, notes', h1, h2, h3⟩ := head_go h
    exact ⟨fr1, a, some nt, H1, notes', hl, hs, .go hg h1, h2, h3⟩
  have skips : ∀ fr1, fr1.length = fr.length → (∀ t, Same (fr1.getD t U) (fr.getD t U)) → guardNo ops o fr1 →
      ((runOps C F ops rest (putD fr1 o.dst (.v undef true)) H).bind fun y => .leaf (y.1, y.2.1, none :: y.2.2)).run = some (fr', H', notes) →
      ∃ fr1 a N0 H1 notes', fr1.length = fr.length ∧ (∀ t, Same (fr1.getD t U) (fr.getD t U)) ∧ At C F ops o fr1 H a N0 H1 ∧
      (runOps C F ops rest (putD fr1 o.dst a) H1).run = some (fr', H', notes') ∧ notes = N0 :: notes' := by
    intro fr1 hl hs hg h
    obtain ⟨notes', h2, h3⟩ := head_skip h
    exact ⟨fr1, U, none, H, notes', hl, hs, .skip hg, h2, h3⟩
  unfold runOps at h
  simp only at h
  split at h
  · rename_i hg
    exact goes fr rfl (fun _ => Same.refl _) (fun j want hj => by rw [hg] at hj; cases hj) h
  · rename_i j want hg
    split at h
    · rename_i ht
      exact skips fr rfl (fun _ => Same.refl _) ⟨j, want, hg, .inl ht⟩ h
    · rename_i t ht
      split at h
      · rename_i b k hb
        cases k
        · simp only at h
          cases want <;> simp only [T.run] at h
          · cases b
            · simp only [Bool.false_eq_true, if_false] at h
              obtain ⟨s1, s2, s3⟩ := set_same (d := true) hb
              exact goes _ s1 s2 (fun j' want' hj => by rw [hg] at hj; cases hj; exact ⟨t, true, ht, s3⟩) h
            · simp only [if_true] at h
              obtain ⟨s1, s2, s3⟩ := set_same (d := true) hb
              exact skips _ s1 s2 ⟨j, _, hg, .inr (.inl ⟨t, _, true, ht, s3, by simp⟩)⟩ h
          · cases b
            · simp only [Bool.false_eq_true, if_false] at h
              obtain ⟨s1, s2, s3⟩ := set_same (d := true) hb
              exact skips _ s1 s2 ⟨j, _, hg, .inr (.inl ⟨t, _, true, ht, s3, by simp⟩)⟩ h
            · simp only [if_true] at h
              obtain ⟨s1, s2, s3⟩ := set_same (d := true) hb
              exact goes _ s1 s2 (fun j' want' hj => by rw [hg] at hj; cases hj; exact ⟨t, true, ht, s3⟩) h
        · simp only at h
          split at h
          · rename_i he
            have he' : b = want := by simpa using he
            subst he'
            exact goes fr rfl (fun _ => Same.refl _) (fun j' want' hj => by rw [hg] at hj; cases hj; exact ⟨t, true, ht, hb⟩) h
          · rename_i he
            exact skips fr rfl (fun _ => Same.refl _) ⟨j, want, hg, .inr (.inl ⟨t, b, true, ht, hb, by simpa using he⟩)⟩ h
      · rename_i x k hb
        exact skips fr rfl (fun _ => Same.refl _) ⟨j, want, hg, .inr (.inr ⟨t, x, k, ht, hb⟩)⟩ h
      · cases h

/-- a region's text, place by place -/
structure Line (C : Ctx) (F : Fns) (ops : Array Oper) (l : List Oper) (fr : List AV) (Fp : Nat → List AV) (Hp : Nat → Heap) (V : Nat → AV) (N : Nat → Option Note) : Prop where
  len : ∀ p o, l[p]? = some o → (Fp p).length = fr.length
  at_ : ∀ p o, l[p]? = some o → At C F ops o (Fp p) (Hp p) (V p) (N p) (Hp (p + 1))
  same : ∀ p o, l[p]? = some o → ∀ t, t < fr.length → Same ((Fp p).getD t U) (lastS all l V (fun t => fr.getD t U) p t)

theorem line : ∀ (l : List Oper) (fr : List AV) (H : Heap) (fr' : List AV) (H' : Heap) (notes : List (Option Note)), (runOps C F ops l fr H).run = some (fr', H', notes) →
    ∃ Fp Hp V N, Line C F ops l fr Fp Hp V N ∧ Hp 0 = H ∧ Hp l.length = H' ∧ notes.length = l.length ∧ (∀ p, p < l.length → notes[p]? = some (N p)) ∧
      fr'.length = fr.length ∧ ∀ t, t < fr.length → Same (fr'.getD t U) (lastS all l V (fun t => fr.getD t U) l.length t)
  | [], fr, H, fr', H', notes, h => by
    have := leaf_some h
    simp only [Prod.mk.injEq] at this
    obtain ⟨rfl, rfl, rfl⟩ := this
    exact ⟨fun _ => [], fun _ => H', fun _ => U, fun _ => none, ⟨fun p o h => by simp at h, fun p o h => by simp at h, fun p o h => by simp at h⟩, rfl, rfl, rfl, fun p h => by simp at h, rfl, fun t _ => Same.refl _⟩
  | o :: l, fr, H, fr', H', notes, h => by
    obtain ⟨fr1, a, N0, H1, notes', hl1, hs1, hat, hrun, rfl⟩ := head h
    obtain ⟨Fp, Hp, V, N, hL, h0, hn, hnl, hno, hfl, hfs⟩ := line l _ _ _ _ _ hrun
    rw [putD_length, hl1] at hfl
    have first : ∀ t, t < fr.length → Same ((putD fr1 o.dst a).getD t U) (open Classical in if o.dst = some t then a else fr.getD t U) := by
      intro t ht
      rw [putD_get _ _ _ _ (by rw [hl1]; exact ht)]
      by_cases hd : o.dst = some t
      · simp only [hd, if_true]; exact Same.refl _
      · simp only [hd, if_false]; exact hs1 t
    refine ⟨fun p => match p with | 0 => fr1 | p + 1 => Fp p, fun p => match p with | 0 => H | p + 1 => Hp p, fun p => match p with | 0 => a | p + 1 => V p, fun p => match p with | 0 => N0 | p + 1 => N p,
      ⟨fun p o' hp => ?_, fun p o' hp => ?_, fun p o' hp t ht => ?_⟩, rfl, by simpa using hn, by simp [hnl], fun p hp => ?_, hfl, fun t ht => ?_⟩
    · cases p with
      | zero => exact hl1
      | succ p => have := hL.len p o' (by simpa using hp); rw [putD_length, hl1] at this; exact this
    · cases p with
      | zero =>
        simp only [List.getElem?_cons_zero, Option.some.injEq] at hp
        subst hp
        simp only [h0]
        exact hat
      | succ p => exact hL.at_ p o' (by simpa using hp)
    · cases p with
      | zero => exact hs1 t
      | succ p =>
        rw [lastS_cons]
        exact (hL.same p o' (by simpa using hp) t (by rw [putD_length, hl1]; exact ht)).trans (lastS_same (first t ht) p)
    · cases p with
      | zero => rfl
      | succ p => simpa using hno p (by simpa using hp)
    · rw [List.length_cons, lastS_cons]
      exact (hfs t (by rw [putD_length, hl1]; exact ht)).trans (lastS_same (first t ht) l.length)

end

end Eng

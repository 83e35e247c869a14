/- Contracts of functions of the program, printed by a program of this session and proved by the kernel, or plain laws about them: part P2. No condition. -/
import Derived.Test.YtcmnnggpeloanaaGreatDoorP1
namespace Go.Proofs.YtcmnnggpeloanaaGreatDoor
open Eng Go
set_option maxRecDepth 100000

/-- s begins with t -/
def hasPre (s t : ByteArray) : Bool := if t.size ≤ s.size then (s.extract 0 t.size).toList == t.toList else false

theorem pre72_v (s t : ByteArray) : pre72.val (s, t) = some (hasPre s t) := by
  show (pre72_t (s, t)).run = _
  unfold pre72_t hasPre
  simp only [T.seq]
  by_cases h : t.size ≤ s.size
  · rw [run_t (by simp only [decide_eq_true_eq]; omega), run_t (by simp only [decide_eq_true_eq]; omega), if_pos h]
    rfl
  · rw [run_f (by simp only [decide_eq_false_iff_not]; omega), if_neg h]
    rfl
theorem pre47_v (s t : ByteArray) : pre47.val (s, t) = some (hasPre s t) := by
  show (pre47_t (s, t)).run = _
  unfold pre47_t hasPre
  simp only [T.seq]
  by_cases h : t.size ≤ s.size
  · rw [run_t (by simp only [decide_eq_true_eq]; omega), run_t (by simp only [decide_eq_true_eq]; omega), if_pos h]
    rfl
  · rw [run_f (by simp only [decide_eq_false_iff_not]; omega), if_neg h]
    rfl
theorem pre46_v (s t : ByteArray) : pre46.val (s, t) = some (hasPre s t) := by
  show (pre46_t (s, t)).run = _
  unfold pre46_t
  simp only [T.seq]
  rw [run_t (Fun.ok_of (pre72_v s t)), Fun.res_of (pre72_v s t)]
  rfl

/-- the table of file types -/
def T7 : List (List Atom) := [[Atom.s (ByteArray.mk #[31, 139]), Atom.i 2], [Atom.s (ByteArray.mk #[37, 80, 68, 70, 45]), Atom.i 3], [Atom.s (ByteArray.mk #[80, 75, 3, 4]), Atom.i 4], [Atom.s (ByteArray.mk #[137, 80, 78, 71, 13, 10, 26, 10]), Atom.i 5], [Atom.s (ByteArray.mk #[127, 69, 76, 70]), Atom.i 6], [Atom.s (ByteArray.mk #[77, 90]), Atom.i 7], [Atom.s (ByteArray.mk #[35, 33]), Atom.i 8]]
theorem T7_eq : T7 = [[Atom.s (ByteArray.mk #[31, 139]), Atom.i 2], [Atom.s (ByteArray.mk #[37, 80, 68, 70, 45]), Atom.i 3], [Atom.s (ByteArray.mk #[80, 75, 3, 4]), Atom.i 4], [Atom.s (ByteArray.mk #[137, 80, 78, 71, 13, 10, 26, 10]), Atom.i 5], [Atom.s (ByteArray.mk #[127, 69, 76, 70]), Atom.i 6], [Atom.s (ByteArray.mk #[77, 90]), Atom.i 7], [Atom.s (ByteArray.mk #[35, 33]), Atom.i 8]] := rfl
def str7 (j : Nat) : ByteArray := ((T7.getD j []).headD (Atom.i 0)).str
def kind7 (j : Nat) : Int := ((T7.getD j []).tail.headD (Atom.i 0)).int

theorem tyA_v (s : ByteArray) : tyA.ok (s, 7, 7, T7) (0, 0) = true ∧ ((∃ j, j < 7 ∧ tyA.res (s, 7, 7, T7) (0, 0) = .inl (kind7 j, j) ∧ hasPre s (str7 j) = true ∧ ∀ i, i < j → hasPre s (str7 i) = false) ∨ (tyA.res (s, 7, 7, T7) (0, 0) = .inr (0, 7) ∧ ∀ i, i < 7 → hasPre s (str7 i) = false)) := by
  refine Loop.ind tyA (s, 7, 7, T7) (fun x => x.1 = 0 ∧ 0 ≤ x.2 ∧ x.2 ≤ 7 ∧ ∀ i : Nat, (i : Int) < x.2 → hasPre s (str7 i) = false) (fun x => (7 - x.2).toNat)
    (fun r => (∃ j : Nat, j < 7 ∧ r = .inl (kind7 j, (j : Int)) ∧ hasPre s (str7 j) = true ∧ ∀ i, i < j → hasPre s (str7 i) = false) ∨ (r = .inr (0, 7) ∧ ∀ i, i < 7 → hasPre s (str7 i) = false)) ?_ ⟨rfl, by simp, by simp, fun i hi => by simp only at hi; omega⟩ (by simp only [tyA]; omega)
  rintro ⟨k, i⟩ ⟨hk, h0, h1, h2⟩
  simp only at hk h0 h1 h2
  subst hk
  show (∃ s', (tyA_t (s, 7, 7, T7) (0, i)).run = _ ∧ _) ∨ ∃ r', (tyA_t (s, 7, 7, T7) (0, i)).run = _ ∧ _
  unfold tyA_t
  simp only [T.seq]
  obtain ⟨j, rfl⟩ : ∃ j : Nat, i = j := ⟨i.toNat, by omega⟩
  by_cases ht : (j : Int) < 7
  · have hl : T7.length = 7 := rfl
    have e : (0 + (j : Int).toNat) = j := by omega
    rw [e]
    rw [run_t (by simp only [decide_eq_true_eq]; exact ht)]
    rw [run_t (by simp [Row.length, hl]; omega)]
    rw [run_t (by simp only [decide_eq_true_eq]; omega)]
    rw [run_t (Fun.ok_of (pre46_v _ _)), Fun.res_of (pre46_v _ _)]
    have es : ((T7.getD j []).headD (Atom.i 0)).str = str7 j := rfl
    have ek : ((T7.getD j []).tail.headD (Atom.i 0)).int = kind7 j := rfl
    rw [es, ek]
    by_cases hp : hasPre s (str7 j) = true
    · right
      rw [run_t hp]
      exact ⟨_, rfl, .inl ⟨j, by omega, rfl, hp, fun i hi => h2 i (by omega)⟩⟩
    · left
      rw [run_f (Bool.eq_false_iff.2 hp)]
      refine ⟨_, rfl, ⟨rfl, ?_, ?_, ?_⟩, ?_⟩
      · simp only [IntKind.wrap_i64]; omega
      · simp only [IntKind.wrap_i64]; omega
      · intro i hi
        simp only [IntKind.wrap_i64] at hi
        by_cases e : i = j
        · subst e; exact Bool.eq_false_iff.2 hp
        · exact h2 i (by omega)
      · simp only [IntKind.wrap_i64]; omega
  · right
    rw [run_f (by simp only [decide_eq_false_iff_not]; exact ht)]
    have : j = 7 := by omega
    subst this
    exact ⟨_, rfl, .inr ⟨rfl, fun i hi => h2 i (by omega)⟩⟩

/-- a byte of a text -/
def textB (b : UInt8) : Bool := decide (b.toNat = 9) || decide (b.toNat = 10) || decide (b.toNat = 13) || (decide (32 ≤ b.toNat) && decide (b.toNat ≤ 126))
/-- the first bytes are those of a text -/
def textAt (s : ByteArray) : Prop := ∀ i, i < s.size → i < 64 → textB (s.data.getD i 0) = true

theorem tyB_v (s : ByteArray) (hs : s.size ≤ 4611686018427387904) (m : Int) (hm : m = if (64 : Int) < (s.size : Int) then (64 : Int) else (s.size : Int)) : tyB.ok (s, m) (0, 0) = true ∧
    ((∃ i, tyB.res (s, m) (0, 0) = .inl (0, i) ∧ ¬ textAt s) ∨ (∃ i, tyB.res (s, m) (0, 0) = .inr (0, i) ∧ textAt s)) := by
  have hm2 : 0 ≤ m ∧ m ≤ 64 ∧ m ≤ s.size ∧ ∀ i : Nat, i < s.size → i < 64 → (i : Int) < m := by
    rw [hm]; split
    · exact ⟨by omega, by omega, by omega, fun i h1 h2 => by omega⟩
    · exact ⟨by omega, by omega, by omega, fun i h1 h2 => by omega⟩
  clear hm
  refine Loop.ind tyB (s, m) (fun x => x.1 = 0 ∧ 0 ≤ x.2 ∧ x.2 ≤ m ∧ ∀ i : Nat, (i : Int) < x.2 → textB (s.data.getD i 0) = true) (fun x => (m - x.2).toNat)
    (fun r => (∃ i, r = .inl (0, i) ∧ ¬ textAt s) ∨ (∃ i, r = .inr (0, i) ∧ textAt s)) ?_ ⟨rfl, by simp, by simp; omega, fun i hi => by simp only at hi; omega⟩ (by simp only [tyB]; omega)
  rintro ⟨k, i⟩ ⟨hk, h0, h1, h2⟩
  simp only at hk h0 h1 h2
  subst hk
  show (∃ s', (tyB_t (s, m) (0, i)).run = _ ∧ _) ∨ ∃ r', (tyB_t (s, m) (0, i)).run = _ ∧ _
  unfold tyB_t
  simp only [T.seq]
  obtain ⟨j, rfl⟩ : ∃ j : Nat, i = j := ⟨i.toNat, by omega⟩
  have e : (j : Int).toNat = j := by omega
  rw [e]
  by_cases ht : (j : Int) < m
  · rw [run_t (by simp only [decide_eq_true_eq]; exact ht)]
    rw [run_t (by simp only [decide_eq_true_eq]; omega)]
    have good : textB (s.data.getD j 0) = true → ∀ i : Nat, (i : Int) < ((j + 1 : Nat) : Int) → textB (s.data.getD i 0) = true := by
      intro h i hi
      by_cases e : i = j
      · subst e; exact h
      · exact h2 i (by omega)
    have bad : textB (s.data.getD j 0) = false → ¬ textAt s := by
      intro h ha
      have := ha j (by omega) (by omega)
      rw [h] at this; cases this
    have hw : IntKind.i64.wrap ((j : Int) + 1) = ((j + 1 : Nat) : Int) := by rw [IntKind.wrap_i64]; omega
    rw [hw]
    generalize s.data.getD j 0 = b at good bad ⊢
    have more : textB b = true → (∃ s', some (Sum.inl ((0 : Int), ((j + 1 : Nat) : Int)) : (Int × Int) ⊕ ((Int × Int) ⊕ (Int × Int))) = some (.inl s') ∧ (s'.1 = 0 ∧ 0 ≤ s'.2 ∧ s'.2 ≤ m ∧ ∀ i : Nat, (i : Int) < s'.2 → textB (s.data.getD i 0) = true) ∧ (m - s'.2).toNat < (m - (j : Int)).toNat) ∨ ∃ r', some (Sum.inl ((0 : Int), ((j + 1 : Nat) : Int)) : (Int × Int) ⊕ ((Int × Int) ⊕ (Int × Int))) = some (.inr r') ∧ ((∃ i, r' = .inl (0, i) ∧ ¬ textAt s) ∨ (∃ i, r' = .inr (0, i) ∧ textAt s)) := by
      intro h
      exact .inl ⟨_, rfl, ⟨rfl, by simp only; omega, by simp only; omega, good h⟩, by simp only; omega⟩
    by_cases b9 : (b.toNat : Int) = 9
    · rw [run_f (by simp [b9])]
      exact more (by simp [textB]; omega)
    rw [run_t (by simp [b9])]
    by_cases b10 : (b.toNat : Int) = 10
    · rw [run_f (by simp [b10])]
      exact more (by simp [textB]; omega)
    rw [run_t (by simp [b10])]
    by_cases b13 : (b.toNat : Int) = 13
    · rw [run_f (by simp [b13])]
      exact more (by simp [textB]; omega)
    rw [run_t (by simp [b13])]
    by_cases b32 : (b.toNat : Int) < 32
    · right
      rw [run_t (by simp only [decide_eq_true_eq]; exact b32)]
      exact ⟨_, rfl, .inl ⟨_, rfl, bad (by simp [textB]; omega)⟩⟩
    rw [run_f (by simp only [decide_eq_false_iff_not]; exact b32)]
    by_cases b126 : (b.toNat : Int) > 126
    · right
      rw [run_t (by simp only [decide_eq_true_eq]; exact b126)]
      exact ⟨_, rfl, .inl ⟨_, rfl, bad (by simp [textB]; omega)⟩⟩
    rw [run_f (by simp only [decide_eq_false_iff_not]; exact b126)]
    exact more (by simp [textB]; omega)
  · right
    rw [run_f (by simp only [decide_eq_false_iff_not]; exact ht)]
    exact ⟨_, rfl, .inr ⟨_, rfl, fun i h3 h4 => h2 i (by have := hm2.2.2.2 i h3 h4; omega)⟩⟩

theorem tyR_v (s : ByteArray) (hs : s.size ≤ 4611686018427387904) : tyR.ok s (0, 0) = true ∧
    ((∃ i, tyR.res s (0, 0) = .inl (0, i) ∧ ¬ textAt s) ∨ (∃ i, tyR.res s (0, 0) = .inr (0, i) ∧ textAt s)) := by
  refine Loop.ind tyR s (fun x => x.1 = 0 ∧ 0 ≤ x.2 ∧ x.2 ≤ s.size ∧ x.2 ≤ 64 ∧ ∀ i : Nat, (i : Int) < x.2 → textB (s.data.getD i 0) = true) (fun x => (s.size - x.2).toNat)
    (fun r => (∃ i, r = .inl (0, i) ∧ ¬ textAt s) ∨ (∃ i, r = .inr (0, i) ∧ textAt s)) ?_ ⟨rfl, by simp, by simp, by simp, fun i hi => by simp only at hi; omega⟩ (by simp only [tyR]; omega)
  rintro ⟨k, i⟩ ⟨hk, h0, h1, h64, h2⟩
  simp only at hk h0 h1 h2 h64
  subst hk
  show (∃ s', (tyR_t s (0, i)).run = _ ∧ _) ∨ ∃ r', (tyR_t s (0, i)).run = _ ∧ _
  unfold tyR_t
  simp only [T.seq]
  obtain ⟨j, rfl⟩ : ∃ j : Nat, i = j := ⟨i.toNat, by omega⟩
  have e : (j : Int).toNat = j := by omega
  rw [e]
  by_cases ht : (j : Int) < s.size
  · rw [run_t (by simp only [decide_eq_true_eq]; exact ht)]
    by_cases hq : (j : Int) < 64
    · rw [run_t (by simp only [decide_eq_true_eq]; exact hq)]
      have hin : decide ((0 : Int) ≤ j ∧ (j : Int) < s.size) = true := by simp only [decide_eq_true_eq]; omega
      rw [run_t hin]
      have good : textB (s.data.getD j 0) = true → ∀ i : Nat, (i : Int) < ((j + 1 : Nat) : Int) → textB (s.data.getD i 0) = true := by
        intro h i hi
        by_cases e : i = j
        · subst e; exact h
        · exact h2 i (by omega)
      have bad : textB (s.data.getD j 0) = false → ¬ textAt s := by
        intro h ha
        have := ha j (by omega) (by omega)
        rw [h] at this; cases this
      have hw : IntKind.i64.wrap ((j : Int) + 1) = ((j + 1 : Nat) : Int) := by rw [IntKind.wrap_i64]; omega
      rw [hw]
      generalize s.data.getD j 0 = b at good bad ⊢
      have more : textB b = true → (∃ s', some (Sum.inl ((0 : Int), ((j + 1 : Nat) : Int)) : (Int × Int) ⊕ ((Int × Int) ⊕ (Int × Int))) = some (.inl s') ∧ (s'.1 = 0 ∧ 0 ≤ s'.2 ∧ s'.2 ≤ s.size ∧ s'.2 ≤ 64 ∧ ∀ i : Nat, (i : Int) < s'.2 → textB (s.data.getD i 0) = true) ∧ (s.size - s'.2).toNat < (s.size - (j : Int)).toNat) ∨ ∃ r', some (Sum.inl ((0 : Int), ((j + 1 : Nat) : Int)) : (Int × Int) ⊕ ((Int × Int) ⊕ (Int × Int))) = some (.inr r') ∧ ((∃ i, r' = .inl (0, i) ∧ ¬ textAt s) ∨ (∃ i, r' = .inr (0, i) ∧ textAt s)) := by
        intro h
        exact .inl ⟨_, rfl, ⟨rfl, by simp only; omega, by simp only; omega, by simp only; omega, good h⟩, by simp only; omega⟩
      by_cases b9 : (b.toNat : Int) = 9
      · rw [run_f (by simp [b9])]
        exact more (by simp [textB]; omega)
      rw [run_t (by simp [b9]), run_t hin]
      by_cases b10 : (b.toNat : Int) = 10
      · rw [run_f (by simp [b10])]
        exact more (by simp [textB]; omega)
      rw [run_t (by simp [b10]), run_t hin]
      by_cases b13 : (b.toNat : Int) = 13
      · rw [run_f (by simp [b13])]
        exact more (by simp [textB]; omega)
      rw [run_t (by simp [b13]), run_t hin]
      by_cases b32 : (b.toNat : Int) < 32
      · right
        rw [run_t (by simp only [decide_eq_true_eq]; exact b32)]
        exact ⟨_, rfl, .inl ⟨_, rfl, bad (by simp [textB]; omega)⟩⟩
      rw [run_f (by simp only [decide_eq_false_iff_not]; exact b32), run_t hin]
      by_cases b126 : (b.toNat : Int) > 126
      · right
        rw [run_t (by simp only [decide_eq_true_eq]; exact b126)]
        exact ⟨_, rfl, .inl ⟨_, rfl, bad (by simp [textB]; omega)⟩⟩
      rw [run_f (by simp only [decide_eq_false_iff_not]; exact b126)]
      exact more (by simp [textB]; omega)
    · right
      rw [run_f (by simp only [decide_eq_false_iff_not]; exact hq)]
      exact ⟨_, rfl, .inr ⟨_, rfl, fun i h3 h4 => h2 i (by omega)⟩⟩
  · right
    rw [run_f (by simp only [decide_eq_false_iff_not]; exact ht)]
    exact ⟨_, rfl, .inr ⟨_, rfl, fun i h3 h4 => h2 i (by omega)⟩⟩

open Classical in
/-- the type of a content -/
noncomputable def typeOf (s : ByteArray) : Int :=
  if hasPre s (str7 0) then 2 else if hasPre s (str7 1) then 3 else if hasPre s (str7 2) then 4 else if hasPre s (str7 3) then 5 else if hasPre s (str7 4) then 6 else if hasPre s (str7 5) then 7 else if hasPre s (str7 6) then 8
  else if s.size = 0 then 0 else if textAt s then 1 else 0

theorem empty_iff (s : ByteArray) : (s.toList == (ByteArray.mk #[]).toList) = decide (s.size = 0) := by
  rw [ByteArray.toList_eq, ByteArray.toList_eq]
  have : s.size = s.data.toList.length := by rw [Array.length_toList]; rfl
  rw [this]
  cases s.data.toList with
  | nil => rfl
  | cons a l => simp

theorem type_v (s : ByteArray) (hs : s.size ≤ 4611686018427387904) : type.val s = some (typeOf s) := by
  obtain ⟨a1, a2⟩ := tyA_v s
  show (type_t s).run = _
  unfold type_t
  simp only [T.seq]
  rw [← T7_eq, run_t a1]
  show (T.br (isL (tyA.res (s, 7, 7, T7) (0, 0))) _ _).run = _
  rcases a2 with ⟨j, hj, hr, hp, hn⟩ | ⟨hr, hn⟩
  · have e : (gl (tyA.res (s, 7, 7, T7) (0, 0))).1 = kind7 j := by rw [hr]; rfl
    rw [run_t (by rw [hr]; rfl)]
    show some ((gl (tyA.res (s, 7, 7, T7) (0, 0))).1) = _
    rw [e]
    unfold typeOf
    congr 1
    have : j = 0 ∨ j = 1 ∨ j = 2 ∨ j = 3 ∨ j = 4 ∨ j = 5 ∨ j = 6 := by omega
    rcases this with rfl | rfl | rfl | rfl | rfl | rfl | rfl
    · rw [if_pos hp]; rfl
    · rw [if_neg (by rw [hn 0 (by omega)]; simp), if_pos hp]; rfl
    · rw [if_neg (by rw [hn 0 (by omega)]; simp), if_neg (by rw [hn 1 (by omega)]; simp), if_pos hp]; rfl
    · rw [if_neg (by rw [hn 0 (by omega)]; simp), if_neg (by rw [hn 1 (by omega)]; simp), if_neg (by rw [hn 2 (by omega)]; simp), if_pos hp]; rfl
    · rw [if_neg (by rw [hn 0 (by omega)]; simp), if_neg (by rw [hn 1 (by omega)]; simp), if_neg (by rw [hn 2 (by omega)]; simp), if_neg (by rw [hn 3 (by omega)]; simp), if_pos hp]; rfl
    · rw [if_neg (by rw [hn 0 (by omega)]; simp), if_neg (by rw [hn 1 (by omega)]; simp), if_neg (by rw [hn 2 (by omega)]; simp), if_neg (by rw [hn 3 (by omega)]; simp), if_neg (by rw [hn 4 (by omega)]; simp), if_pos hp]; rfl
    · rw [if_neg (by rw [hn 0 (by omega)]; simp), if_neg (by rw [hn 1 (by omega)]; simp), if_neg (by rw [hn 2 (by omega)]; simp), if_neg (by rw [hn 3 (by omega)]; simp), if_neg (by rw [hn 4 (by omega)]; simp), if_neg (by rw [hn 5 (by omega)]; simp), if_pos hp]; rfl
  · have e : (gr (tyA.res (s, 7, 7, T7) (0, 0))).1 = 0 := by rw [hr]; rfl
    have he : typeOf s = open Classical in if s.size = 0 then 0 else if textAt s then 1 else 0 := by
      unfold typeOf
      rw [if_neg (by rw [hn 0 (by omega)]; simp), if_neg (by rw [hn 1 (by omega)]; simp), if_neg (by rw [hn 2 (by omega)]; simp), if_neg (by rw [hn 3 (by omega)]; simp), if_neg (by rw [hn 4 (by omega)]; simp), if_neg (by rw [hn 5 (by omega)]; simp), if_neg (by rw [hn 6 (by omega)]; simp)]
    rw [run_f (by rw [hr]; rfl), empty_iff, he]
    by_cases h0 : s.size = 0
    · rw [run_t (by simp [h0]), if_pos h0]; rfl
    · rw [run_f (by simp [h0]), if_neg h0]
      show (T.br (tyB.ok (s, if (64 : Int) < s.size then 64 else s.size) ((gr (tyA.res (s, 7, 7, T7) (0, 0))).1, 0)) (T.br (isL (tyB.res (s, if (64 : Int) < s.size then 64 else s.size) ((gr (tyA.res (s, 7, 7, T7) (0, 0))).1, 0))) (T.leaf (gl (tyB.res (s, if (64 : Int) < s.size then 64 else s.size) ((gr (tyA.res (s, 7, 7, T7) (0, 0))).1, 0))).1) _) _).run = _
      rw [e]
      obtain ⟨b1, b2⟩ := tyB_v s hs _ rfl
      rw [run_t b1]
      rcases b2 with ⟨i, hb, ht⟩ | ⟨i, hb, ht⟩
      · rw [run_t (by rw [hb]; rfl), hb, if_neg ht]; rfl
      · rw [run_f (by rw [hb]; rfl), if_pos ht]; rfl

theorem typeR_v (s : ByteArray) (hs : s.size ≤ 4611686018427387904) : typeR.val s = some (typeOf s) := by
  show (typeR_t s).run = _
  unfold typeR_t
  simp only [T.seq]
  have step : ∀ (t : ByteArray) {a b : T Int} {x : Option Int}, (if hasPre s t then a.run else b.run) = x → (T.br (pre47.ok (s, t)) (T.br (pre47.res (s, t)) a b) .stuck).run = x := by
    intro t a b x h
    rw [run_t (Fun.ok_of (pre47_v s t)), Fun.res_of (pre47_v s t)]
    exact h
  unfold typeOf
  refine step (str7 0) ?_
  by_cases h0 : hasPre s (str7 0) = true
  · rw [if_pos h0, if_pos h0]; rfl
  rw [if_neg h0, if_neg h0]
  refine step (str7 1) ?_
  by_cases h1 : hasPre s (str7 1) = true
  · rw [if_pos h1, if_pos h1]; rfl
  rw [if_neg h1, if_neg h1]
  refine step (str7 2) ?_
  by_cases h2 : hasPre s (str7 2) = true
  · rw [if_pos h2, if_pos h2]; rfl
  rw [if_neg h2, if_neg h2]
  refine step (str7 3) ?_
  by_cases h3 : hasPre s (str7 3) = true
  · rw [if_pos h3, if_pos h3]; rfl
  rw [if_neg h3, if_neg h3]
  refine step (str7 4) ?_
  by_cases h4 : hasPre s (str7 4) = true
  · rw [if_pos h4, if_pos h4]; rfl
  rw [if_neg h4, if_neg h4]
  refine step (str7 5) ?_
  by_cases h5 : hasPre s (str7 5) = true
  · rw [if_pos h5, if_pos h5]; rfl
  rw [if_neg h5, if_neg h5]
  refine step (str7 6) ?_
  by_cases h6 : hasPre s (str7 6) = true
  · rw [if_pos h6, if_pos h6]; rfl
  rw [if_neg h6, if_neg h6, empty_iff]
  by_cases h0 : s.size = 0
  · rw [run_t (by simp [h0]), if_pos h0]; rfl
  rw [run_f (by simp [h0]), if_neg h0]
  obtain ⟨b1, b2⟩ := tyR_v s hs
  rw [run_t b1]
  rcases b2 with ⟨i, hb, ht⟩ | ⟨i, hb, ht⟩
  · rw [run_t (by rw [hb]; rfl), hb, if_neg ht]; rfl
  · rw [run_f (by rw [hb]; rfl), if_pos ht]; rfl
end Go.Proofs.YtcmnnggpeloanaaGreatDoor

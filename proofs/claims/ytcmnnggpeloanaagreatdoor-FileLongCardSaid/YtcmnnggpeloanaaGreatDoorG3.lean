/- Contracts of functions of the program, printed by a program of this session and proved by the kernel, or plain laws about them: part G3. No condition. -/
import Derived.Test.YtcmnnggpeloanaaGreatDoorG2
namespace Go.Proofs.YtcmnnggpeloanaaGreatDoor
open Eng Go
set_option maxRecDepth 100000

/-! function 20, loop 0 -/
def tyA_E (p : (ByteArray × Nat × Int × (List (List Atom)))) (a : (Int × Int)) : List AV × Heap := (fun (s : ByteArray) (n : Nat) (len : Int) (l : List (List Atom)) (k : Int) (i : Int) => (([.v (.string s) false, .v (.int .i64 k) false, .sl (.n 0) 2 [] n, .v (.int .i64 len) false, .v (.int .i64 i) false], ⟨[], [.row (.recs [.s, .i .i64] l) 89]⟩) : List AV × Heap)) p.1 p.2.1 p.2.2.1 p.2.2.2 a.1 a.2
def tyA_D : List AV → Heap → Option (((ByteArray × Nat × Int × (List (List Atom)))) × ((Int × Int)))
  | [.v (.string s) false, .v (.int .i64 k) false, .sl (.n 0) 2 [] n, .v (.int .i64 len) false, .v (.int .i64 i) false], ⟨[], [.row (.recs [.s, .i .i64] l) 89]⟩ => some ((s, n, len, l), (k, i))
  | _, _ => none
def tyA_O : (ByteArray × Nat × Int × (List (List Atom))) → (Int × Int) ⊕ (Int × Int) → X × List AV × Heap
  | q, (.inl r) => (fun (s : ByteArray) (n : Nat) (len : Int) (l : List (List Atom)) (k : Int) (i : Int) => ((X.ret, [.v (.string s) false, .v (.int .i64 k) false, .sl (.n 0) 2 [] n, .v (.int .i64 len) false, .v (.int .i64 i) false], ⟨[], [.row (.recs [.s, .i .i64] l) 89]⟩) : X × List AV × Heap)) q.1 q.2.1 q.2.2.1 q.2.2.2 r.1 r.2
  | q, (.inr r) => (fun (s : ByteArray) (n : Nat) (len : Int) (l : List (List Atom)) (k : Int) (i : Int) => ((X.exit 0, [.v (.string s) false, .v (.int .i64 k) false, .sl (.n 0) 2 [] n, .v (.int .i64 len) false, .v (.int .i64 i) false], ⟨[], [.row (.recs [.s, .i .i64] l) 89]⟩) : X × List AV × Heap)) q.1 q.2.1 q.2.2.1 q.2.2.2 r.1 r.2
def tyA_B : (ByteArray × Nat × Int × (List (List Atom))) → (Int × Int) ⊕ (Int × Int) → T (X × List AV × Heap)
  | q, r => (.br (isL (r)) (.leaf ((fun (s : ByteArray) (n : Nat) (len : Int) (l : List (List Atom)) (k : Int) (i : Int) => ((X.ret, [.v (.string s) false, .v (.int .i64 k) false, .sl (.n 0) 2 [] n, .v (.int .i64 len) false, .v (.int .i64 i) false], ⟨[], [.row (.recs [.s, .i .i64] l) 89]⟩) : X × List AV × Heap)) q.1 q.2.1 q.2.2.1 q.2.2.2 (gl (r)).1 (gl (r)).2)) (.leaf ((fun (s : ByteArray) (n : Nat) (len : Int) (l : List (List Atom)) (k : Int) (i : Int) => ((X.exit 0, [.v (.string s) false, .v (.int .i64 k) false, .sl (.n 0) 2 [] n, .v (.int .i64 len) false, .v (.int .i64 i) false], ⟨[], [.row (.recs [.s, .i .i64] l) 89]⟩) : X × List AV × Heap)) q.1 q.2.1 q.2.2.1 q.2.2.2 (gr (r)).1 (gr (r)).2)))
noncomputable def tyA_t : (ByteArray × Nat × Int × (List (List Atom))) → (Int × Int) → T (((Int × Int)) ⊕ ((Int × Int) ⊕ (Int × Int)))
  | (s, n, len, l), (k, i) => (.br (decide (i < len)) (.br (decide ((0 : Int) ≤ i ∧ i < (↑n : Int) ∧ (0 : Nat) + i.toNat < (Row.recs [Kind.s, Kind.i IntKind.i64] l).length)) (.br (decide ((0 : Nat) + i.toNat < l.length)) (.br (pre46.ok (s, ((l.getD ((0 : Nat) + i.toNat) []).headD (Atom.i (0 : Int))).str)) (.seq (pre46.res (s, ((l.getD ((0 : Nat) + i.toNat) []).headD (Atom.i (0 : Int))).str)) fun v1 => (.br (v1) (.leaf (Sum.inr (Sum.inl (((l.getD ((0 : Nat) + i.toNat) []).tail.headD (Atom.i (0 : Int))).int, i)))) (.leaf (Sum.inl (k, IntKind.i64.wrap (i + (1 : Int))))))) .stuck) .stuck) .stuck) (.leaf (Sum.inr (Sum.inr (k, i)))))
noncomputable def tyA : Eng.Loop ((ByteArray × Nat × Int × (List (List Atom)))) ((Int × Int)) ((Int × Int) ⊕ (Int × Int)) := ⟨tyA_E, tyA_D, tyA_O, tyA_B, tyA_t, fun (s, n, len, l) (k, i) => (len - i).toNat + 1, (Sum.inl default)⟩
noncomputable def tyA_S : LSpec := tyA.spec 57 ⟨[0,2,14,15,16], []⟩
theorem tyA_e0 (L : Tab) (s : ByteArray) (n : Nat) (len : Int) (l : List (List Atom)) (k : Int) (i : Int) : round K0 c2.F L ⟨[0,2,14,15,16], []⟩ 57 200 (lp Tryz.f20 0) (tyA_E (s, n, len, l) (k, i)) = (tyA_t (s, n, len, l) (k, i)).bind fun zz => .leaf (tyA.endOf (s, n, len, l) zz) := by kernel_rfl
theorem tyA_lok (L : Tab) (hL : L (codeKey (lp Tryz.f20 0)) = some tyA_S) (hin : ∀ b ∈ loopsOf (lp Tryz.f20 0), ∀ s, L (codeKey b) = some s → LOk K0 c2.F L s b) : LOk K0 c2.F L tyA_S (lp Tryz.f20 0) := by
  refine tyA.lok (n := 200) hL hin ?_ ?_ ?_ ?_
  · rintro p a; exact tyA_e0 L _ _ _ _ _ _
  · intro l H s h; simp only [tyA] at h ⊢; unfold tyA_D at h; split at h <;> first | (cases h; rfl) | cases h
  · rintro p (r | r) h <;> cases h
  · rintro p (r | r) <;> rfl

/-! function 20, loop 1 -/
def tyB_E (p : (ByteArray × Int)) (a : (Int × Int)) : List AV × Heap := (fun (s : ByteArray) (m : Int) (k : Int) (i : Int) => (([.v (.string s) false, .v (.int .i64 k) false, .v (.int .i64 m) false, .v (.int .i64 i) false], ⟨[], []⟩) : List AV × Heap)) p.1 p.2 a.1 a.2
def tyB_D : List AV → Heap → Option (((ByteArray × Int)) × ((Int × Int)))
  | [.v (.string s) false, .v (.int .i64 k) false, .v (.int .i64 m) false, .v (.int .i64 i) false], ⟨[], []⟩ => some ((s, m), (k, i))
  | _, _ => none
def tyB_O : (ByteArray × Int) → (Int × Int) ⊕ (Int × Int) → X × List AV × Heap
  | q, (.inl r) => (fun (s : ByteArray) (m : Int) (k : Int) (i : Int) => ((X.ret, [.v (.string s) false, .v (.int .i64 k) false, .v (.int .i64 m) false, .v (.int .i64 i) false], ⟨[], []⟩) : X × List AV × Heap)) q.1 q.2 r.1 r.2
  | q, (.inr r) => (fun (s : ByteArray) (m : Int) (k : Int) (i : Int) => ((X.exit 2, [.v (.string s) false, .v (.int .i64 k) false, .v (.int .i64 m) false, .v (.int .i64 i) false], ⟨[], []⟩) : X × List AV × Heap)) q.1 q.2 r.1 r.2
def tyB_B : (ByteArray × Int) → (Int × Int) ⊕ (Int × Int) → T (X × List AV × Heap)
  | q, r => (.br (isL (r)) (.leaf ((fun (s : ByteArray) (m : Int) (k : Int) (i : Int) => ((X.ret, [.v (.string s) false, .v (.int .i64 k) false, .v (.int .i64 m) false, .v (.int .i64 i) false], ⟨[], []⟩) : X × List AV × Heap)) q.1 q.2 (gl (r)).1 (gl (r)).2)) (.leaf ((fun (s : ByteArray) (m : Int) (k : Int) (i : Int) => ((X.exit 2, [.v (.string s) false, .v (.int .i64 k) false, .v (.int .i64 m) false, .v (.int .i64 i) false], ⟨[], []⟩) : X × List AV × Heap)) q.1 q.2 (gr (r)).1 (gr (r)).2)))
noncomputable def tyB_t : (ByteArray × Int) → (Int × Int) → T (((Int × Int)) ⊕ ((Int × Int) ⊕ (Int × Int)))
  | (s, m), (k, i) => (.br (decide (i < m)) (.br (decide ((0 : Int) ≤ i ∧ i < (↑s.size : Int))) (.br ((↑(s.data.getD i.toNat (0 : UInt8)).toNat : Int) != (9 : Int)) (.br ((↑(s.data.getD i.toNat (0 : UInt8)).toNat : Int) != (10 : Int)) (.br ((↑(s.data.getD i.toNat (0 : UInt8)).toNat : Int) != (13 : Int)) (.br (decide ((↑(s.data.getD i.toNat (0 : UInt8)).toNat : Int) < (32 : Int))) (.leaf (Sum.inr (Sum.inl ((0 : Int), i)))) (.br (decide ((↑(s.data.getD i.toNat (0 : UInt8)).toNat : Int) > (126 : Int))) (.leaf (Sum.inr (Sum.inl ((0 : Int), i)))) (.leaf (Sum.inl (k, IntKind.i64.wrap (i + (1 : Int))))))) (.leaf (Sum.inl (k, IntKind.i64.wrap (i + (1 : Int)))))) (.leaf (Sum.inl (k, IntKind.i64.wrap (i + (1 : Int)))))) (.leaf (Sum.inl (k, IntKind.i64.wrap (i + (1 : Int)))))) .stuck) (.leaf (Sum.inr (Sum.inr (k, i)))))
noncomputable def tyB : Eng.Loop ((ByteArray × Int)) ((Int × Int)) ((Int × Int) ⊕ (Int × Int)) := ⟨tyB_E, tyB_D, tyB_O, tyB_B, tyB_t, fun (s, m) (k, i) => (m - i).toNat + 1, (Sum.inl default)⟩
noncomputable def tyB_S : LSpec := tyB.spec 57 ⟨[0,2,31,32], []⟩
theorem tyB_e0 (L : Tab) (s : ByteArray) (m : Int) (k : Int) (i : Int) : round K0 c2.F L ⟨[0,2,31,32], []⟩ 57 200 (lp Tryz.f20 1) (tyB_E (s, m) (k, i)) = (tyB_t (s, m) (k, i)).bind fun zz => .leaf (tyB.endOf (s, m) zz) := by kernel_rfl
theorem tyB_lok (L : Tab) (hL : L (codeKey (lp Tryz.f20 1)) = some tyB_S) (hin : ∀ b ∈ loopsOf (lp Tryz.f20 1), ∀ s, L (codeKey b) = some s → LOk K0 c2.F L s b) : LOk K0 c2.F L tyB_S (lp Tryz.f20 1) := by
  refine tyB.lok (n := 200) hL hin ?_ ?_ ?_ ?_
  · rintro p a; exact tyB_e0 L _ _ _ _
  · intro l H s h; simp only [tyB] at h ⊢; unfold tyB_D at h; split at h <;> first | (cases h; rfl) | cases h
  · rintro p (r | r) h <;> cases h
  · rintro p (r | r) <;> rfl

/-! function 21, loop 0 -/
def tyR_E (p : (ByteArray)) (a : (Int × Int)) : List AV × Heap := (fun (s : ByteArray) (k : Int) (i : Int) => (([.v (.string s) false, .v (.int .i64 k) false, .v (.int .i64 i) false], ⟨[], []⟩) : List AV × Heap)) p a.1 a.2
def tyR_D : List AV → Heap → Option (((ByteArray)) × ((Int × Int)))
  | [.v (.string s) false, .v (.int .i64 k) false, .v (.int .i64 i) false], ⟨[], []⟩ => some (s, (k, i))
  | _, _ => none
def tyR_O : (ByteArray) → (Int × Int) ⊕ (Int × Int) → X × List AV × Heap
  | q, (.inl r) => (fun (s : ByteArray) (k : Int) (i : Int) => ((X.ret, [.v (.string s) false, .v (.int .i64 k) false, .v (.int .i64 i) false], ⟨[], []⟩) : X × List AV × Heap)) q r.1 r.2
  | q, (.inr r) => (fun (s : ByteArray) (k : Int) (i : Int) => ((X.exit 1, [.v (.string s) false, .v (.int .i64 k) false, .v (.int .i64 i) false], ⟨[], []⟩) : X × List AV × Heap)) q r.1 r.2
def tyR_B : (ByteArray) → (Int × Int) ⊕ (Int × Int) → T (X × List AV × Heap)
  | q, r => (.br (isL (r)) (.leaf ((fun (s : ByteArray) (k : Int) (i : Int) => ((X.ret, [.v (.string s) false, .v (.int .i64 k) false, .v (.int .i64 i) false], ⟨[], []⟩) : X × List AV × Heap)) q (gl (r)).1 (gl (r)).2)) (.leaf ((fun (s : ByteArray) (k : Int) (i : Int) => ((X.exit 1, [.v (.string s) false, .v (.int .i64 k) false, .v (.int .i64 i) false], ⟨[], []⟩) : X × List AV × Heap)) q (gr (r)).1 (gr (r)).2)))
noncomputable def tyR_t : (ByteArray) → (Int × Int) → T (((Int × Int)) ⊕ ((Int × Int) ⊕ (Int × Int)))
  | s, (k, i) => (.br (decide (i < (↑s.size : Int))) (.br (decide (i < (64 : Int))) (.br (decide ((0 : Int) ≤ i ∧ i < (↑s.size : Int))) (.br ((↑(s.data.getD i.toNat (0 : UInt8)).toNat : Int) != (9 : Int)) (.br (decide ((0 : Int) ≤ i ∧ i < (↑s.size : Int))) (.br ((↑(s.data.getD i.toNat (0 : UInt8)).toNat : Int) != (10 : Int)) (.br (decide ((0 : Int) ≤ i ∧ i < (↑s.size : Int))) (.br ((↑(s.data.getD i.toNat (0 : UInt8)).toNat : Int) != (13 : Int)) (.br (decide ((0 : Int) ≤ i ∧ i < (↑s.size : Int))) (.br (decide ((↑(s.data.getD i.toNat (0 : UInt8)).toNat : Int) < (32 : Int))) (.leaf (Sum.inr (Sum.inl ((0 : Int), i)))) (.br (decide ((0 : Int) ≤ i ∧ i < (↑s.size : Int))) (.br (decide ((↑(s.data.getD i.toNat (0 : UInt8)).toNat : Int) > (126 : Int))) (.leaf (Sum.inr (Sum.inl ((0 : Int), i)))) (.leaf (Sum.inl (k, IntKind.i64.wrap (i + (1 : Int)))))) .stuck)) .stuck) (.leaf (Sum.inl (k, IntKind.i64.wrap (i + (1 : Int)))))) .stuck) (.leaf (Sum.inl (k, IntKind.i64.wrap (i + (1 : Int)))))) .stuck) (.leaf (Sum.inl (k, IntKind.i64.wrap (i + (1 : Int)))))) .stuck) (.leaf (Sum.inr (Sum.inr (k, i))))) (.leaf (Sum.inr (Sum.inr (k, i)))))
noncomputable def tyR : Eng.Loop ((ByteArray)) ((Int × Int)) ((Int × Int) ⊕ (Int × Int)) := ⟨tyR_E, tyR_D, tyR_O, tyR_B, tyR_t, fun s (k, i) => ((s.size : Int) - i).toNat + 1, (Sum.inl default)⟩
noncomputable def tyR_S : LSpec := tyR.spec 66 ⟨[0,2,3], []⟩
theorem tyR_e0 (L : Tab) (s : ByteArray) (k : Int) (i : Int) : round K0 c2.F L ⟨[0,2,3], []⟩ 66 200 (lp Tryz.f21 0) (tyR_E s (k, i)) = (tyR_t s (k, i)).bind fun zz => .leaf (tyR.endOf s zz) := by kernel_rfl
theorem tyR_lok (L : Tab) (hL : L (codeKey (lp Tryz.f21 0)) = some tyR_S) (hin : ∀ b ∈ loopsOf (lp Tryz.f21 0), ∀ s, L (codeKey b) = some s → LOk K0 c2.F L s b) : LOk K0 c2.F L tyR_S (lp Tryz.f21 0) := by
  refine tyR.lok (n := 200) hL hin ?_ ?_ ?_ ?_
  · rintro p a; exact tyR_e0 L _ _ _
  · intro l H s h; simp only [tyR] at h ⊢; unfold tyR_D at h; split at h <;> first | (cases h; rfl) | cases h
  · rintro p (r | r) h <;> cases h
  · rintro p (r | r) <;> rfl

noncomputable def LT20 : Tab := fun k => if k = 3 then some tyA_S else if k = 11 then some tyB_S else none
theorem LT20_k0 : codeKey (lp Tryz.f20 0) = 3 := by kernel_rfl
theorem LT20_i0 : loopsOf (lp Tryz.f20 0) = [] := by kernel_rfl
theorem LT20_l0 : LOk K0 c2.F LT20 tyA_S (lp Tryz.f20 0) := by
  refine tyA_lok LT20 (by rw [LT20_k0]; rfl) ?_
  intro b hb s hs
  rw [LT20_i0] at hb
  cases hb
theorem LT20_k1 : codeKey (lp Tryz.f20 1) = 11 := by kernel_rfl
theorem LT20_i1 : loopsOf (lp Tryz.f20 1) = [] := by kernel_rfl
theorem LT20_l1 : LOk K0 c2.F LT20 tyB_S (lp Tryz.f20 1) := by
  refine tyB_lok LT20 (by rw [LT20_k1]; rfl) ?_
  intro b hb s hs
  rw [LT20_i1] at hb
  cases hb
theorem LT20_ok {b : Code} (hb : Tryz.f20.body = some b) : ∀ a ∈ loopsOf b, ∀ s, LT20 (codeKey a) = some s → LOk K0 c2.F LT20 s a := by
  have e : loopsOf (Tryz.f20.body.getD .skip) = [lp Tryz.f20 0, lp Tryz.f20 1] := by kernel_rfl
  rw [hb] at e
  intro b hb s hs
  simp only [Option.getD_some] at e
  rw [e] at hb
  simp only [List.mem_cons, List.not_mem_nil, or_false] at hb
  rcases hb with rfl | rfl
  · rw [LT20_k0] at hs
    simp only [LT20] at hs
    cases hs
    exact LT20_l0
  · rw [LT20_k1] at hs
    simp only [LT20] at hs
    cases hs
    exact LT20_l1

noncomputable def LT21 : Tab := fun k => if k = 19 then some tyR_S else none
theorem LT21_k0 : codeKey (lp Tryz.f21 0) = 19 := by kernel_rfl
theorem LT21_i0 : loopsOf (lp Tryz.f21 0) = [] := by kernel_rfl
theorem LT21_l0 : LOk K0 c2.F LT21 tyR_S (lp Tryz.f21 0) := by
  refine tyR_lok LT21 (by rw [LT21_k0]; rfl) ?_
  intro b hb s hs
  rw [LT21_i0] at hb
  cases hb
theorem LT21_ok {b : Code} (hb : Tryz.f21.body = some b) : ∀ a ∈ loopsOf b, ∀ s, LT21 (codeKey a) = some s → LOk K0 c2.F LT21 s a := by
  have e : loopsOf (Tryz.f21.body.getD .skip) = [lp Tryz.f21 0] := by kernel_rfl
  rw [hb] at e
  intro b hb s hs
  simp only [Option.getD_some] at e
  rw [e] at hb
  simp only [List.mem_cons, List.not_mem_nil, or_false] at hb
  subst hb
  rw [LT21_k0] at hs
  simp only [LT21] at hs
  cases hs
  exact LT21_l0

/-! function 20 -/
def type_E (a : (ByteArray)) : List AV × Heap := (fun (s : ByteArray) => (([.v (.string s) false], ⟨[], []⟩) : List AV × Heap)) a
def type_D : List AV → Heap → Option ((ByteArray))
  | [.v (.string s) false], ⟨[], []⟩ => some s
  | _, _ => none
def type_O : (ByteArray) → (Int) → AV × Heap
  | q, r => (fun (s : ByteArray) (k : Int) => ((.v (.int .i64 k) false, ⟨[], []⟩) : AV × Heap)) q r
def type_B : (ByteArray) → (Int) → T (AV × Heap)
  | q, r => (.leaf ((fun (s : ByteArray) (k : Int) => ((.v (.int .i64 k) false, ⟨[], []⟩) : AV × Heap)) q (r)))
noncomputable def type_t : (ByteArray) → T ((Int))
  | s => (.br (tyA.ok (s, (7 : Nat), (7 : Int), [[Atom.s (ByteArray.mk #[(31 : UInt8), (139 : UInt8)]), Atom.i (2 : Int)], [Atom.s (ByteArray.mk #[(37 : UInt8), (80 : UInt8), (68 : UInt8), (70 : UInt8), (45 : UInt8)]), Atom.i (3 : Int)], [Atom.s (ByteArray.mk #[(80 : UInt8), (75 : UInt8), (3 : UInt8), (4 : UInt8)]), Atom.i (4 : Int)], [Atom.s (ByteArray.mk #[(137 : UInt8), (80 : UInt8), (78 : UInt8), (71 : UInt8), (13 : UInt8), (10 : UInt8), (26 : UInt8), (10 : UInt8)]), Atom.i (5 : Int)], [Atom.s (ByteArray.mk #[(127 : UInt8), (69 : UInt8), (76 : UInt8), (70 : UInt8)]), Atom.i (6 : Int)], [Atom.s (ByteArray.mk #[(77 : UInt8), (90 : UInt8)]), Atom.i (7 : Int)], [Atom.s (ByteArray.mk #[(35 : UInt8), (33 : UInt8)]), Atom.i (8 : Int)]]) ((0 : Int), (0 : Int))) (.seq (tyA.res (s, (7 : Nat), (7 : Int), [[Atom.s (ByteArray.mk #[(31 : UInt8), (139 : UInt8)]), Atom.i (2 : Int)], [Atom.s (ByteArray.mk #[(37 : UInt8), (80 : UInt8), (68 : UInt8), (70 : UInt8), (45 : UInt8)]), Atom.i (3 : Int)], [Atom.s (ByteArray.mk #[(80 : UInt8), (75 : UInt8), (3 : UInt8), (4 : UInt8)]), Atom.i (4 : Int)], [Atom.s (ByteArray.mk #[(137 : UInt8), (80 : UInt8), (78 : UInt8), (71 : UInt8), (13 : UInt8), (10 : UInt8), (26 : UInt8), (10 : UInt8)]), Atom.i (5 : Int)], [Atom.s (ByteArray.mk #[(127 : UInt8), (69 : UInt8), (76 : UInt8), (70 : UInt8)]), Atom.i (6 : Int)], [Atom.s (ByteArray.mk #[(77 : UInt8), (90 : UInt8)]), Atom.i (7 : Int)], [Atom.s (ByteArray.mk #[(35 : UInt8), (33 : UInt8)]), Atom.i (8 : Int)]]) ((0 : Int), (0 : Int))) fun v1 => (.br (isL v1) (.leaf ((gl v1).fst)) (.br (s.toList == (ByteArray.mk #[]).toList) (.leaf ((0 : Int))) (.br (tyB.ok (s, if (64 : Int) < (↑s.size : Int) then (64 : Int) else (↑s.size : Int)) ((gr v1).fst, (0 : Int))) (.seq (tyB.res (s, if (64 : Int) < (↑s.size : Int) then (64 : Int) else (↑s.size : Int)) ((gr v1).fst, (0 : Int))) fun v2 => (.br (isL v2) (.leaf ((gl v2).fst)) (.leaf ((1 : Int))))) .stuck)))) .stuck)
noncomputable def type : Eng.Fun ((ByteArray)) ((Int)) := ⟨type_E, type_D, type_O, type_B, type_t, default⟩
theorem type_e0 (s : ByteArray) : (body2 K0 c2.F LT20 400 [] Tryz.f20 (type_E s).1 (type_E s).2).bind (polish K0 []) = (type_t s).bind fun zz => .leaf (type_O s zz) := by kernel_rfl
theorem type_ok : FnOk K0 20 (fgt type.g) := by
  refine c2.fn type (L := LT20) 400 [] [] (fn := Tryz.f20) Tryz.func20 (b := _) (by exact rfl) (LT20_ok rfl) ?_ ?_ ?_
  · rintro a; exact type_e0 _
  · intro l H s h; simp only [type] at h ⊢; unfold type_D at h; split at h <;> first | (cases h; rfl) | cases h
  · rintro q r <;> rfl

/-! function 21 -/
def typeR_E (a : (ByteArray)) : List AV × Heap := (fun (s : ByteArray) => (([.v (.string s) false], ⟨[], []⟩) : List AV × Heap)) a
def typeR_D : List AV → Heap → Option ((ByteArray))
  | [.v (.string s) false], ⟨[], []⟩ => some s
  | _, _ => none
def typeR_O : (ByteArray) → (Int) → AV × Heap
  | q, r => (fun (s : ByteArray) (k : Int) => ((.v (.int .i64 k) false, ⟨[], []⟩) : AV × Heap)) q r
def typeR_B : (ByteArray) → (Int) → T (AV × Heap)
  | q, r => (.leaf ((fun (s : ByteArray) (k : Int) => ((.v (.int .i64 k) false, ⟨[], []⟩) : AV × Heap)) q (r)))
noncomputable def typeR_t : (ByteArray) → T ((Int))
  | s => (.br (pre47.ok (s, (ByteArray.mk #[(31 : UInt8), (139 : UInt8)]))) (.seq (pre47.res (s, (ByteArray.mk #[(31 : UInt8), (139 : UInt8)]))) fun v1 => (.br (v1) (.leaf ((2 : Int))) (.br (pre47.ok (s, (ByteArray.mk #[(37 : UInt8), (80 : UInt8), (68 : UInt8), (70 : UInt8), (45 : UInt8)]))) (.seq (pre47.res (s, (ByteArray.mk #[(37 : UInt8), (80 : UInt8), (68 : UInt8), (70 : UInt8), (45 : UInt8)]))) fun v2 => (.br (v2) (.leaf ((3 : Int))) (.br (pre47.ok (s, (ByteArray.mk #[(80 : UInt8), (75 : UInt8), (3 : UInt8), (4 : UInt8)]))) (.seq (pre47.res (s, (ByteArray.mk #[(80 : UInt8), (75 : UInt8), (3 : UInt8), (4 : UInt8)]))) fun v3 => (.br (v3) (.leaf ((4 : Int))) (.br (pre47.ok (s, (ByteArray.mk #[(137 : UInt8), (80 : UInt8), (78 : UInt8), (71 : UInt8), (13 : UInt8), (10 : UInt8), (26 : UInt8), (10 : UInt8)]))) (.seq (pre47.res (s, (ByteArray.mk #[(137 : UInt8), (80 : UInt8), (78 : UInt8), (71 : UInt8), (13 : UInt8), (10 : UInt8), (26 : UInt8), (10 : UInt8)]))) fun v4 => (.br (v4) (.leaf ((5 : Int))) (.br (pre47.ok (s, (ByteArray.mk #[(127 : UInt8), (69 : UInt8), (76 : UInt8), (70 : UInt8)]))) (.seq (pre47.res (s, (ByteArray.mk #[(127 : UInt8), (69 : UInt8), (76 : UInt8), (70 : UInt8)]))) fun v5 => (.br (v5) (.leaf ((6 : Int))) (.br (pre47.ok (s, (ByteArray.mk #[(77 : UInt8), (90 : UInt8)]))) (.seq (pre47.res (s, (ByteArray.mk #[(77 : UInt8), (90 : UInt8)]))) fun v6 => (.br (v6) (.leaf ((7 : Int))) (.br (pre47.ok (s, (ByteArray.mk #[(35 : UInt8), (33 : UInt8)]))) (.seq (pre47.res (s, (ByteArray.mk #[(35 : UInt8), (33 : UInt8)]))) fun v7 => (.br (v7) (.leaf ((8 : Int))) (.br (s.toList == (ByteArray.mk #[]).toList) (.leaf ((0 : Int))) (.br (tyR.ok s ((0 : Int), (0 : Int))) (.seq (tyR.res s ((0 : Int), (0 : Int))) fun v8 => (.br (isL v8) (.leaf ((gl v8).fst)) (.leaf ((1 : Int))))) .stuck)))) .stuck))) .stuck))) .stuck))) .stuck))) .stuck))) .stuck))) .stuck)
noncomputable def typeR : Eng.Fun ((ByteArray)) ((Int)) := ⟨typeR_E, typeR_D, typeR_O, typeR_B, typeR_t, default⟩
theorem typeR_e0 (s : ByteArray) : (body2 K0 c2.F LT21 400 [] Tryz.f21 (typeR_E s).1 (typeR_E s).2).bind (polish K0 []) = (typeR_t s).bind fun zz => .leaf (typeR_O s zz) := by kernel_rfl
theorem typeR_ok : FnOk K0 21 (fgt typeR.g) := by
  refine c2.fn typeR (L := LT21) 400 [] [] (fn := Tryz.f21) Tryz.func21 (b := _) (by exact rfl) (LT21_ok rfl) ?_ ?_ ?_
  · rintro a; exact typeR_e0 _
  · intro l H s h; simp only [typeR] at h ⊢; unfold typeR_D at h; split at h <;> first | (cases h; rfl) | cases h
  · rintro q r <;> rfl

noncomputable def c3 : Con := (c2.add 20 type type_ok).add 21 typeR typeR_ok

end Go.Proofs.YtcmnnggpeloanaaGreatDoor

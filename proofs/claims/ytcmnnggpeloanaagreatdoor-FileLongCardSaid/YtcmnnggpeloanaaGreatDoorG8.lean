/- Contracts of functions of the program, printed by a program of this session and proved by the kernel, or plain laws about them: part G8. No condition. -/
import Derived.Test.YtcmnnggpeloanaaGreatDoorG7
namespace Go.Proofs.YtcmnnggpeloanaaGreatDoor
open Eng Go
set_option maxRecDepth 100000

/-! function 6, loop 0 -/
def loA_E (p : (Int × Int × Nat)) (a : (Int × (List Int))) : List AV × Heap := (fun (n : Int) (c : Int) (k : Nat) (i : Int) (x : List Int) => (([.v (.int .i64 n) false, .v (.int .u8 c) false, .sl (.n 0) 1 [] k, .v (.int .i64 i) false], ⟨[], [.row (.ints .u8 x) 5]⟩) : List AV × Heap)) p.1 p.2.1 p.2.2 a.1 a.2
def loA_D : List AV → Heap → Option (((Int × Int × Nat)) × ((Int × (List Int))))
  | [.v (.int .i64 n) false, .v (.int .u8 c) false, .sl (.n 0) 1 [] k, .v (.int .i64 i) false], ⟨[], [.row (.ints .u8 x) 5]⟩ => some ((n, c, k), (i, x))
  | _, _ => none
def loA_O : (Int × Int × Nat) → (Int × (List Int)) → X × List AV × Heap
  | q, r => (fun (n : Int) (c : Int) (k : Nat) (i : Int) (x : List Int) => ((X.exit 0, [.v (.int .i64 n) false, .v (.int .u8 c) false, .sl (.n 0) 1 [] k, .v (.int .i64 i) false], ⟨[], [.row (.ints .u8 x) 5]⟩) : X × List AV × Heap)) q.1 q.2.1 q.2.2 r.1 r.2
def loA_B : (Int × Int × Nat) → (Int × (List Int)) → T (X × List AV × Heap)
  | q, r => (.leaf ((fun (n : Int) (c : Int) (k : Nat) (i : Int) (x : List Int) => ((X.exit 0, [.v (.int .i64 n) false, .v (.int .u8 c) false, .sl (.n 0) 1 [] k, .v (.int .i64 i) false], ⟨[], [.row (.ints .u8 x) 5]⟩) : X × List AV × Heap)) q.1 q.2.1 q.2.2 (r).1 (r).2))
noncomputable def loA_t : (Int × Int × Nat) → (Int × (List Int)) → T (((Int × (List Int))) ⊕ ((Int × (List Int))))
  | (n, c, k), (i, x) => (.br (decide (i < n)) (.br (decide ((0 : Int) ≤ i ∧ i < (↑k : Int) ∧ (0 : Nat) + i.toNat < (Row.ints IntKind.u8 x).length)) (.br (decide ((0 : Nat) + i.toNat < x.length)) (.leaf (Sum.inl (IntKind.i64.wrap (i + (1 : Int)), x.set ((0 : Nat) + i.toNat) c))) .stuck) .stuck) (.leaf (Sum.inr (i, x))))
noncomputable def loA : Eng.Loop ((Int × Int × Nat)) ((Int × (List Int))) ((Int × (List Int))) := ⟨loA_E, loA_D, loA_O, loA_B, loA_t, fun (n, c, k) (i, x) => (n - i).toNat + 1, default⟩
noncomputable def loA_S : LSpec := loA.spec 99 ⟨[0,1,5,6], []⟩
theorem loA_e0 (L : Tab) (n : Int) (c : Int) (k : Nat) (i : Int) (x : List Int) : round K0 c7a.F L ⟨[0,1,5,6], []⟩ 99 200 (lp Tryz.f6 0) (loA_E (n, c, k) (i, x)) = (loA_t (n, c, k) (i, x)).bind fun zz => .leaf (loA.endOf (n, c, k) zz) := by kernel_rfl
theorem loA_lok (L : Tab) (hL : L (codeKey (lp Tryz.f6 0)) = some loA_S) (hin : ∀ b ∈ loopsOf (lp Tryz.f6 0), ∀ s, L (codeKey b) = some s → LOk K0 c7a.F L s b) : LOk K0 c7a.F L loA_S (lp Tryz.f6 0) := by
  refine loA.lok (n := 200) hL hin ?_ ?_ ?_ ?_
  · rintro p a; exact loA_e0 L _ _ _ _ _
  · intro l H s h; simp only [loA] at h ⊢; unfold loA_D at h; split at h <;> first | (cases h; rfl) | cases h
  · rintro p r h <;> cases h
  · rintro p r <;> rfl

noncomputable def LT6 : Tab := fun k => if k = 6 then some loA_S else none
theorem LT6_k0 : codeKey (lp Tryz.f6 0) = 6 := by kernel_rfl
theorem LT6_i0 : loopsOf (lp Tryz.f6 0) = [] := by kernel_rfl
theorem LT6_l0 : LOk K0 c7a.F LT6 loA_S (lp Tryz.f6 0) := by
  refine loA_lok LT6 (by rw [LT6_k0]; rfl) ?_
  intro b hb s hs
  rw [LT6_i0] at hb
  cases hb
theorem LT6_ok {b : Code} (hb : Tryz.f6.body = some b) : ∀ a ∈ loopsOf b, ∀ s, LT6 (codeKey a) = some s → LOk K0 c7a.F LT6 s a := by
  have e : loopsOf (Tryz.f6.body.getD .skip) = [lp Tryz.f6 0] := by kernel_rfl
  rw [hb] at e
  intro b hb s hs
  simp only [Option.getD_some] at e
  rw [e] at hb
  simp only [List.mem_cons, List.not_mem_nil, or_false] at hb
  subst hb
  rw [LT6_k0] at hs
  simp only [LT6] at hs
  cases hs
  exact LT6_l0

/-! function 6 -/
def law6_E (a : (Int × Int)) : List AV × Heap := (fun (n : Int) (c : Int) => (([.v (.int .i64 n) false, .v (.int .u8 c) false], ⟨[], []⟩) : List AV × Heap)) a.1 a.2
def law6_D : List AV → Heap → Option ((Int × Int))
  | [.v (.int .i64 n) false, .v (.int .u8 c) false], ⟨[], []⟩ => some (n, c)
  | _, _ => none
def law6_O : (Int × Int) → (Bool) → AV × Heap
  | q, r => (fun (n : Int) (c : Int) (b : Bool) => ((.v (.bool b) false, ⟨[], []⟩) : AV × Heap)) q.1 q.2 r
def law6_B : (Int × Int) → (Bool) → T (AV × Heap)
  | q, r => (.leaf ((fun (n : Int) (c : Int) (b : Bool) => ((.v (.bool b) false, ⟨[], []⟩) : AV × Heap)) q.1 q.2 (r)))
noncomputable def law6_t : (Int × Int) → T ((Bool))
  | (n, c) => (.br (decide (n < (0 : Int))) (.br (lives.ok PUnit.unit) (.seq (lives.res PUnit.unit) fun v1 => (.leaf (v1))) .stuck) (.br (decide (n > (9000 : Int))) (.br (lives.ok PUnit.unit) (.seq (lives.res PUnit.unit) fun v1 => (.leaf (v1))) .stuck) (.br (c == (31 : Int)) (.br (lives.ok PUnit.unit) (.seq (lives.res PUnit.unit) fun v1 => (.leaf (v1))) .stuck) (.br (decide ((0 : Int) ≤ n ∧ n ≤ n ∧ (1 : Int) * n ≤ (281474976710656 : Int) ∧ n ≤ (9223372036854775807 : Int))) (.br (loA.ok (n, c, n.toNat) ((0 : Int), List.replicate n.toNat (0 : Int))) (.seq (loA.res (n, c, n.toNat) ((0 : Int), List.replicate n.toNat (0 : Int))) fun v1 => (.br (decide ((0 : Nat) + n.toNat ≤ v1.snd.length)) (.br (budget.ok PUnit.unit) (.seq (budget.res PUnit.unit) fun v2 => (.br (fnew.ok ((ByteArray.mk #[]), v2.fst, v2.snd)) (.seq (fnew.res ((ByteArray.mk #[]), v2.fst, v2.snd)) fun v3 => (.br (isL v3) .stuck (.br (exWrite.ok (bytesOf (List.take n.toNat (List.drop (0 : Nat) v1.snd)), (ByteArray.mk #[]), (gr v3).fst, (gr v3).snd.fst, (gr v3).snd.snd.snd.snd.snd.snd.snd.snd.snd, v2.fst, v2.snd, (gr v3).snd.snd.fst, (gr v3).snd.snd.snd.fst, (gr v3).snd.snd.snd.snd.fst, (gr v3).snd.snd.snd.snd.snd.fst, (gr v3).snd.snd.snd.snd.snd.snd.fst, (gr v3).snd.snd.snd.snd.snd.snd.snd.fst, (gr v3).snd.snd.snd.snd.snd.snd.snd.snd.fst)) (.seq (exWrite.res (bytesOf (List.take n.toNat (List.drop (0 : Nat) v1.snd)), (ByteArray.mk #[]), (gr v3).fst, (gr v3).snd.fst, (gr v3).snd.snd.snd.snd.snd.snd.snd.snd.snd, v2.fst, v2.snd, (gr v3).snd.snd.fst, (gr v3).snd.snd.snd.fst, (gr v3).snd.snd.snd.snd.fst, (gr v3).snd.snd.snd.snd.snd.fst, (gr v3).snd.snd.snd.snd.snd.snd.fst, (gr v3).snd.snd.snd.snd.snd.snd.snd.fst, (gr v3).snd.snd.snd.snd.snd.snd.snd.snd.fst)) fun v4 => (.br (exSize.ok ((ByteArray.mk #[]), v4.fst, (gr v3).snd.fst, (gr v3).snd.snd.snd.snd.snd.snd.snd.snd.snd, v2.fst, v2.snd, v4.snd.fst, v4.snd.snd.fst, (gr v3).snd.snd.snd.snd.fst, v4.snd.snd.snd.fst, v4.snd.snd.snd.snd.fst, v4.snd.snd.snd.snd.snd, (gr v3).snd.snd.snd.snd.snd.snd.snd.snd.fst)) (.seq (exSize.res ((ByteArray.mk #[]), v4.fst, (gr v3).snd.fst, (gr v3).snd.snd.snd.snd.snd.snd.snd.snd.snd, v2.fst, v2.snd, v4.snd.fst, v4.snd.snd.fst, (gr v3).snd.snd.snd.snd.fst, v4.snd.snd.snd.fst, v4.snd.snd.snd.snd.fst, v4.snd.snd.snd.snd.snd, (gr v3).snd.snd.snd.snd.snd.snd.snd.snd.fst)) fun v5 => (.br (exClose.ok ((ByteArray.mk #[]), v4.fst, (gr v3).snd.fst, (gr v3).snd.snd.snd.snd.snd.snd.snd.snd.snd, v2.fst, v2.snd, v4.snd.fst, v4.snd.snd.fst, (gr v3).snd.snd.snd.snd.fst, v4.snd.snd.snd.fst, v4.snd.snd.snd.snd.fst, v4.snd.snd.snd.snd.snd, (gr v3).snd.snd.snd.snd.snd.snd.snd.snd.fst)) (.seq (exClose.res ((ByteArray.mk #[]), v4.fst, (gr v3).snd.fst, (gr v3).snd.snd.snd.snd.snd.snd.snd.snd.snd, v2.fst, v2.snd, v4.snd.fst, v4.snd.snd.fst, (gr v3).snd.snd.snd.snd.fst, v4.snd.snd.snd.fst, v4.snd.snd.snd.snd.fst, v4.snd.snd.snd.snd.snd, (gr v3).snd.snd.snd.snd.snd.snd.snd.snd.fst)) fun v6 => (.br (false) (.leaf (false)) (.br (v5 != if (8192 : Int) < n then (8192 : Int) else n) (.leaf (false)) (.br (decide ((0 : Int) ≤ (0 : Int) ∧ (0 : Int) < (1 : Int) ∧ (0 : Nat) < (Row.recs [Kind.s, Kind.s, Kind.s, Kind.i IntKind.i64, Kind.i IntKind.i64, Kind.b] [[Atom.s (ByteArray.mk #[]), Atom.s v4.fst, Atom.s v6.fst, Atom.i v6.snd.fst, Atom.i v6.snd.snd.fst, Atom.b v6.snd.snd.snd]]).length)) (.br (decide ((0 : Nat) < (Row.recs [Kind.s, Kind.s, Kind.s, Kind.i IntKind.i64, Kind.i IntKind.i64, Kind.b] [[Atom.s (ByteArray.mk #[]), Atom.s v4.fst, Atom.s v6.fst, Atom.i v6.snd.fst, Atom.i v6.snd.snd.fst, Atom.b v6.snd.snd.snd]]).length)) (.br (decide ((0 : Nat) < [[Atom.s (ByteArray.mk #[]), Atom.s v4.fst, Atom.s v6.fst, Atom.i v6.snd.fst, Atom.i v6.snd.snd.fst, Atom.b v6.snd.snd.snd]].length)) (.br (decide ((0 : Int) ≤ (0 : Int) ∧ ((0 : Int) ≤ if (8192 : Int) < n then (8192 : Int) else n) ∧ (if (8192 : Int) < n then (8192 : Int) else n) ≤ (↑(bytesOf (List.take n.toNat (List.drop (0 : Nat) v1.snd))).size : Int))) (.br ((([[Atom.s (ByteArray.mk #[]), Atom.s v4.fst, Atom.s v6.fst, Atom.i v6.snd.fst, Atom.i v6.snd.snd.fst, Atom.b v6.snd.snd.snd]].getD (0 : Nat) []).getD (1 : Nat) (Atom.i (0 : Int))).str.toList == ((bytesOf (List.take n.toNat (List.drop (0 : Nat) v1.snd))).extract (0 : Nat) (if (8192 : Int) < n then (8192 : Int) else n).toNat).toList) (.br (decide ((0 : Int) ≤ (0 : Int) ∧ (0 : Int) < (1 : Int) ∧ (0 : Nat) < (Row.recs [Kind.s, Kind.s, Kind.s, Kind.i IntKind.i64, Kind.i IntKind.i64, Kind.b] [[Atom.s (ByteArray.mk #[]), Atom.s v4.fst, Atom.s v6.fst, Atom.i v6.snd.fst, Atom.i v6.snd.snd.fst, Atom.b v6.snd.snd.snd]]).length)) (.br (decide ((0 : Nat) < (Row.recs [Kind.s, Kind.s, Kind.s, Kind.i IntKind.i64, Kind.i IntKind.i64, Kind.b] [[Atom.s (ByteArray.mk #[]), Atom.s v4.fst, Atom.s v6.fst, Atom.i v6.snd.fst, Atom.i v6.snd.snd.fst, Atom.b v6.snd.snd.snd]]).length)) (.br (decide ((0 : Nat) < [[Atom.s (ByteArray.mk #[]), Atom.s v4.fst, Atom.s v6.fst, Atom.i v6.snd.fst, Atom.i v6.snd.snd.fst, Atom.b v6.snd.snd.snd]].length)) (.br ((([[Atom.s (ByteArray.mk #[]), Atom.s v4.fst, Atom.s v6.fst, Atom.i v6.snd.fst, Atom.i v6.snd.snd.fst, Atom.b v6.snd.snd.snd]].getD (0 : Nat) []).getD (4 : Nat) (Atom.i (0 : Int))).int == n) (.br (decide ((0 : Int) ≤ (0 : Int) ∧ (0 : Int) < (1 : Int) ∧ (0 : Nat) < (Row.recs [Kind.s, Kind.s, Kind.s, Kind.i IntKind.i64, Kind.i IntKind.i64, Kind.b] [[Atom.s (ByteArray.mk #[]), Atom.s v4.fst, Atom.s v6.fst, Atom.i v6.snd.fst, Atom.i v6.snd.snd.fst, Atom.b v6.snd.snd.snd]]).length)) (.br (decide ((0 : Nat) < (Row.recs [Kind.s, Kind.s, Kind.s, Kind.i IntKind.i64, Kind.i IntKind.i64, Kind.b] [[Atom.s (ByteArray.mk #[]), Atom.s v4.fst, Atom.s v6.fst, Atom.i v6.snd.fst, Atom.i v6.snd.snd.fst, Atom.b v6.snd.snd.snd]]).length)) (.br (decide ((0 : Nat) < [[Atom.s (ByteArray.mk #[]), Atom.s v4.fst, Atom.s v6.fst, Atom.i v6.snd.fst, Atom.i v6.snd.snd.fst, Atom.b v6.snd.snd.snd]].length)) (.br (hex.ok (bytesOf (List.take n.toNat (List.drop (0 : Nat) v1.snd)))) (.seq (hex.res (bytesOf (List.take n.toNat (List.drop (0 : Nat) v1.snd)))) fun v7 => (.br ((([[Atom.s (ByteArray.mk #[]), Atom.s v4.fst, Atom.s v6.fst, Atom.i v6.snd.fst, Atom.i v6.snd.snd.fst, Atom.b v6.snd.snd.snd]].getD (0 : Nat) []).getD (2 : Nat) (Atom.i (0 : Int))).str.toList == v7.toList) (.br (decide ((0 : Int) ≤ (0 : Int) ∧ (0 : Int) < (1 : Int) ∧ (0 : Nat) < (Row.recs [Kind.s, Kind.s, Kind.s, Kind.i IntKind.i64, Kind.i IntKind.i64, Kind.b] [[Atom.s (ByteArray.mk #[]), Atom.s v4.fst, Atom.s v6.fst, Atom.i v6.snd.fst, Atom.i v6.snd.snd.fst, Atom.b v6.snd.snd.snd]]).length)) (.br (decide ((0 : Nat) < (Row.recs [Kind.s, Kind.s, Kind.s, Kind.i IntKind.i64, Kind.i IntKind.i64, Kind.b] [[Atom.s (ByteArray.mk #[]), Atom.s v4.fst, Atom.s v6.fst, Atom.i v6.snd.fst, Atom.i v6.snd.snd.fst, Atom.b v6.snd.snd.snd]]).length)) (.br (decide ((0 : Nat) < [[Atom.s (ByteArray.mk #[]), Atom.s v4.fst, Atom.s v6.fst, Atom.i v6.snd.fst, Atom.i v6.snd.snd.fst, Atom.b v6.snd.snd.snd]].length)) (.br ((([[Atom.s (ByteArray.mk #[]), Atom.s v4.fst, Atom.s v6.fst, Atom.i v6.snd.fst, Atom.i v6.snd.snd.fst, Atom.b v6.snd.snd.snd]].getD (0 : Nat) []).getD (5 : Nat) (Atom.i (0 : Int))).bl) (.br (decide ((0 : Int) ≤ (0 : Int) ∧ (0 : Int) < (1 : Int) ∧ (0 : Nat) < (Row.recs [Kind.s, Kind.s, Kind.s, Kind.i IntKind.i64, Kind.i IntKind.i64, Kind.b] [[Atom.s (ByteArray.mk #[]), Atom.s v4.fst, Atom.s v6.fst, Atom.i v6.snd.fst, Atom.i v6.snd.snd.fst, Atom.b v6.snd.snd.snd]]).length)) (.br (decide ((0 : Nat) < (Row.recs [Kind.s, Kind.s, Kind.s, Kind.i IntKind.i64, Kind.i IntKind.i64, Kind.b] [[Atom.s (ByteArray.mk #[]), Atom.s v4.fst, Atom.s v6.fst, Atom.i v6.snd.fst, Atom.i v6.snd.snd.fst, Atom.b v6.snd.snd.snd]]).length)) (.br (decide ((0 : Nat) < [[Atom.s (ByteArray.mk #[]), Atom.s v4.fst, Atom.s v6.fst, Atom.i v6.snd.fst, Atom.i v6.snd.snd.fst, Atom.b v6.snd.snd.snd]].length)) (.br (typeR.ok (bytesOf (List.take n.toNat (List.drop (0 : Nat) v1.snd)))) (.seq (typeR.res (bytesOf (List.take n.toNat (List.drop (0 : Nat) v1.snd)))) fun v8 => (.br ((([[Atom.s (ByteArray.mk #[]), Atom.s v4.fst, Atom.s v6.fst, Atom.i v6.snd.fst, Atom.i v6.snd.snd.fst, Atom.b v6.snd.snd.snd]].getD (0 : Nat) []).getD (3 : Nat) (Atom.i (0 : Int))).int == v8) (.br (lives.ok PUnit.unit) (.seq (lives.res PUnit.unit) fun v9 => (.leaf (v9))) .stuck) (.leaf (false)))) .stuck) .stuck) .stuck) .stuck) (.leaf (false))) .stuck) .stuck) .stuck) (.leaf (false)))) .stuck) .stuck) .stuck) .stuck) (.leaf (false))) .stuck) .stuck) .stuck) (.leaf (false))) .stuck) .stuck) .stuck) .stuck)))) .stuck)) .stuck)) .stuck))) .stuck)) .stuck) .stuck)) .stuck) .stuck))))
noncomputable def law6 : Eng.Fun ((Int × Int)) ((Bool)) := ⟨law6_E, law6_D, law6_O, law6_B, law6_t, default⟩
theorem law6_e0 (n : Int) (c : Int) : (body2 K0 c7a.F LT6 400 [] Tryz.f6 (law6_E (n, c)).1 (law6_E (n, c)).2).bind (polish K0 []) = (law6_t (n, c)).bind fun zz => .leaf (law6_O (n, c) zz) := by kernel_rfl
theorem law6_ok : FnOk K0 6 (fgt law6.g) := by
  refine c7a.fn law6 (L := LT6) 400 [] [] (fn := Tryz.f6) Tryz.func6 (b := _) (by exact rfl) (LT6_ok rfl) ?_ ?_ ?_
  · rintro a; exact law6_e0 _ _
  · intro l H s h; simp only [law6] at h ⊢; unfold law6_D at h; split at h <;> first | (cases h; rfl) | cases h
  · rintro q r <;> rfl


end Go.Proofs.YtcmnnggpeloanaaGreatDoor

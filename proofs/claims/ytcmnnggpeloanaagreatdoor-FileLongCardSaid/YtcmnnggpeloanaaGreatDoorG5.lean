/- Contracts of functions of the program, printed by a program of this session and proved by the kernel, or plain laws about them: part G5. No condition. -/
import Derived.Test.YtcmnnggpeloanaaGreatDoorG4
namespace Go.Proofs.YtcmnnggpeloanaaGreatDoor
open Eng Go
set_option maxRecDepth 100000

/-! function 50, loop 0 -/
def wrA_E (p : (Int)) (a : ((List Int) × ByteArray)) : List AV × Heap := (fun (m : Int) (l : List Int) (r : ByteArray) => (([.ptr (.o 0) 0, .bm 74 [.ptr (.o 0) 0]], ⟨[.cells [.arr .u32 8 l, .v (.string r) false, .v (.int .i64 m) false] 126], []⟩) : List AV × Heap)) p a.1 a.2
def wrA_D : List AV → Heap → Option (((Int)) × (((List Int) × ByteArray)))
  | [.ptr (.o 0) 0, .bm 74 [.ptr (.o 0) 0]], ⟨[.cells [.arr .u32 8 l, .v (.string r) false, .v (.int .i64 m) false] 126], []⟩ => some (m, (l, r))
  | _, _ => none
def wrA_O : (Int) → ((List Int) × ByteArray) → X × List AV × Heap
  | q, r => (fun (m : Int) (l : List Int) (r : ByteArray) => ((X.exit 0, [.ptr (.o 0) 0, .bm 74 [.ptr (.o 0) 0]], ⟨[.cells [.arr .u32 8 l, .v (.string r) false, .v (.int .i64 m) false] 126], []⟩) : X × List AV × Heap)) q r.1 r.2
def wrA_B : (Int) → ((List Int) × ByteArray) → T (X × List AV × Heap)
  | q, r => (.leaf ((fun (m : Int) (l : List Int) (r : ByteArray) => ((X.exit 0, [.ptr (.o 0) 0, .bm 74 [.ptr (.o 0) 0]], ⟨[.cells [.arr .u32 8 l, .v (.string r) false, .v (.int .i64 m) false] 126], []⟩) : X × List AV × Heap)) q (r).1 (r).2))
noncomputable def wrA_t : (Int) → ((List Int) × ByteArray) → T ((((List Int) × ByteArray)) ⊕ (((List Int) × ByteArray)))
  | m, (l, r) => (.br (decide ((↑r.size : Int) ≥ (64 : Int))) (.br (decide ((0 : Int) ≤ (0 : Int) ∧ (0 : Int) ≤ (64 : Int) ∧ (64 : Int) ≤ (↑r.size : Int))) (.br (add.ok (r.extract (0 : Nat) (64 : Nat), l, r, m)) (.seq (add.res (r.extract (0 : Nat) (64 : Nat), l, r, m)) fun v1 => (.br (decide ((0 : Int) ≤ (64 : Int) ∧ (64 : Int) ≤ (↑r.size : Int) ∧ (↑r.size : Int) ≤ (↑r.size : Int))) (.leaf (Sum.inl (v1, r.extract (64 : Nat) (↑r.size : Int).toNat))) .stuck)) .stuck) .stuck) (.leaf (Sum.inr (l, r))))
noncomputable def wrA : Eng.Loop ((Int)) (((List Int) × ByteArray)) (((List Int) × ByteArray)) := ⟨wrA_E, wrA_D, wrA_O, wrA_B, wrA_t, fun m (l, r) => r.size / 64 + 1, default⟩
noncomputable def wrA_S : LSpec := wrA.spec 49 ⟨[0,4], []⟩
theorem wrA_e0 (L : Tab) (m : Int) (l : List Int) (r : ByteArray) : round K0 c4.F L ⟨[0,4], []⟩ 49 200 (lp Tryz.f50 0) (wrA_E m (l, r)) = (wrA_t m (l, r)).bind fun zz => .leaf (wrA.endOf m zz) := by kernel_rfl
theorem wrA_lok (L : Tab) (hL : L (codeKey (lp Tryz.f50 0)) = some wrA_S) (hin : ∀ b ∈ loopsOf (lp Tryz.f50 0), ∀ s, L (codeKey b) = some s → LOk K0 c4.F L s b) : LOk K0 c4.F L wrA_S (lp Tryz.f50 0) := by
  refine wrA.lok (n := 200) hL hin ?_ ?_ ?_ ?_
  · rintro p a; exact wrA_e0 L _ _ _
  · intro l H s h; simp only [wrA] at h ⊢; unfold wrA_D at h; split at h <;> first | (cases h; rfl) | cases h
  · rintro p r h <;> cases h
  · rintro p r <;> rfl

noncomputable def LT50 : Tab := fun k => if k = 5 then some wrA_S else none
theorem LT50_k0 : codeKey (lp Tryz.f50 0) = 5 := by kernel_rfl
theorem LT50_i0 : loopsOf (lp Tryz.f50 0) = [] := by kernel_rfl
theorem LT50_l0 : LOk K0 c4.F LT50 wrA_S (lp Tryz.f50 0) := by
  refine wrA_lok LT50 (by rw [LT50_k0]; rfl) ?_
  intro b hb s hs
  rw [LT50_i0] at hb
  cases hb
theorem LT50_ok {b : Code} (hb : Tryz.f50.body = some b) : ∀ a ∈ loopsOf b, ∀ s, LT50 (codeKey a) = some s → LOk K0 c4.F LT50 s a := by
  have e : loopsOf (Tryz.f50.body.getD .skip) = [lp Tryz.f50 0] := by kernel_rfl
  rw [hb] at e
  intro b hb s hs
  simp only [Option.getD_some] at e
  rw [e] at hb
  simp only [List.mem_cons, List.not_mem_nil, or_false] at hb
  subst hb
  rw [LT50_k0] at hs
  simp only [LT50] at hs
  cases hs
  exact LT50_l0

/-! function 50 -/
def write_E (a : (ByteArray × (List Int) × ByteArray × Int)) : List AV × Heap := (fun (s : ByteArray) (l : List Int) (r : ByteArray) (m : Int) => (([.ptr (.o 0) 0, .v (.string s) false], ⟨[.cells [.arr .u32 8 l, .v (.string r) false, .v (.int .i64 m) false] 126], []⟩) : List AV × Heap)) a.1 a.2.1 a.2.2.1 a.2.2.2
def write_D : List AV → Heap → Option ((ByteArray × (List Int) × ByteArray × Int))
  | [.ptr (.o 0) 0, .v (.string s) false], ⟨[.cells [.arr .u32 8 l, .v (.string r) false, .v (.int .i64 m) false] 126], []⟩ => some (s, l, r, m)
  | _, _ => none
def write_O : (ByteArray × (List Int) × ByteArray × Int) → ((List Int) × ByteArray × Int) → AV × Heap
  | q, r => (fun (s : ByteArray) (l : List Int) (r : ByteArray) (m : Int) (l2 : List Int) (r2 : ByteArray) (m2 : Int) => ((.tup [], ⟨[.cells [.arr .u32 8 l2, .v (.string r2) false, .v (.int .i64 m2) false] 126], []⟩) : AV × Heap)) q.1 q.2.1 q.2.2.1 q.2.2.2 r.1 r.2.1 r.2.2
def write_B : (ByteArray × (List Int) × ByteArray × Int) → ((List Int) × ByteArray × Int) → T (AV × Heap)
  | q, r => (.leaf ((fun (s : ByteArray) (l : List Int) (r : ByteArray) (m : Int) (l2 : List Int) (r2 : ByteArray) (m2 : Int) => ((.tup [], ⟨[.cells [.arr .u32 8 l2, .v (.string r2) false, .v (.int .i64 m2) false] 126], []⟩) : AV × Heap)) q.1 q.2.1 q.2.2.1 q.2.2.2 (r).1 (r).2.1 (r).2.2))
noncomputable def write_t : (ByteArray × (List Int) × ByteArray × Int) → T (((List Int) × ByteArray × Int))
  | (s, l, r, m) => (.br (decide (r.size + s.size ≤ (9223372036854775807 : Nat))) (.br (wrA.ok (IntKind.i64.wrap (m + (↑s.size : Int))) (l, r ++ s)) (.seq (wrA.res (IntKind.i64.wrap (m + (↑s.size : Int))) (l, r ++ s)) fun v1 => (.leaf ((v1.fst, v1.snd, IntKind.i64.wrap (m + (↑s.size : Int)))))) .stuck) .stuck)
noncomputable def write : Eng.Fun ((ByteArray × (List Int) × ByteArray × Int)) (((List Int) × ByteArray × Int)) := ⟨write_E, write_D, write_O, write_B, write_t, default⟩
theorem write_e0 (s : ByteArray) (l : List Int) (r : ByteArray) (m : Int) : (body2 K0 c4.F LT50 400 [] Tryz.f50 (write_E (s, l, r, m)).1 (write_E (s, l, r, m)).2).bind (polish K0 []) = (write_t (s, l, r, m)).bind fun zz => .leaf (write_O (s, l, r, m) zz) := by kernel_rfl
theorem write_ok : FnOk K0 50 (fgt write.g) := by
  refine c4.fn write (L := LT50) 400 [] [] (fn := Tryz.f50) Tryz.func50 (b := _) (by exact rfl) (LT50_ok rfl) ?_ ?_ ?_
  · rintro a; exact write_e0 _ _ _ _
  · intro l H s h; simp only [write] at h ⊢; unfold write_D at h; split at h <;> first | (cases h; rfl) | cases h
  · rintro q r <;> rfl

/-! function 110, loop 0 -/
def byA_E (p : ((List Int) × ByteArray × Int)) (a : (Nat × Int × (List Int))) : List AV × Heap := (fun (l : List Int) (r : ByteArray) (m : Int) (n : Nat) (i : Int) (x : List Int) => (([.sl (.n 0) 1 [] n, .ptr (.o 0) 0, .v (.int .i64 i) false], ⟨[.cells [.arr .u32 8 l, .v (.string r) false, .v (.int .i64 m) false] 126], [.row (.ints .u8 x) 5]⟩) : List AV × Heap)) p.1 p.2.1 p.2.2 a.1 a.2.1 a.2.2
def byA_D : List AV → Heap → Option ((((List Int) × ByteArray × Int)) × ((Nat × Int × (List Int))))
  | [.sl (.n 0) 1 [] n, .ptr (.o 0) 0, .v (.int .i64 i) false], ⟨[.cells [.arr .u32 8 l, .v (.string r) false, .v (.int .i64 m) false] 126], [.row (.ints .u8 x) 5]⟩ => some ((l, r, m), (n, i, x))
  | _, _ => none
def byA_O : ((List Int) × ByteArray × Int) → (Nat × Int × (List Int)) → X × List AV × Heap
  | q, r => (fun (l : List Int) (r : ByteArray) (m : Int) (n : Nat) (i : Int) (x : List Int) => ((X.exit 0, [.sl (.n 0) 1 [] n, .ptr (.o 0) 0, .v (.int .i64 i) false], ⟨[.cells [.arr .u32 8 l, .v (.string r) false, .v (.int .i64 m) false] 126], [.row (.ints .u8 x) 5]⟩) : X × List AV × Heap)) q.1 q.2.1 q.2.2 r.1 r.2.1 r.2.2
def byA_B : ((List Int) × ByteArray × Int) → (Nat × Int × (List Int)) → T (X × List AV × Heap)
  | q, r => (.leaf ((fun (l : List Int) (r : ByteArray) (m : Int) (n : Nat) (i : Int) (x : List Int) => ((X.exit 0, [.sl (.n 0) 1 [] n, .ptr (.o 0) 0, .v (.int .i64 i) false], ⟨[.cells [.arr .u32 8 l, .v (.string r) false, .v (.int .i64 m) false] 126], [.row (.ints .u8 x) 5]⟩) : X × List AV × Heap)) q.1 q.2.1 q.2.2 (r).1 (r).2.1 (r).2.2))
noncomputable def byA_t : ((List Int) × ByteArray × Int) → (Nat × Int × (List Int)) → T (((Nat × Int × (List Int))) ⊕ ((Nat × Int × (List Int))))
  | (l, r, m), (n, i, x) => (.br (decide (i < (8 : Int))) (.br (decide ((0 : Int) ≤ i ∧ i < (8 : Int))) (.br (decide (i.toNat < (8 : Nat))) (.br (decide ((4 : Nat) ≤ (Row.ints IntKind.u8 [IntKind.u8.wrap ((l.getD i.toNat (0 : Int)).fdiv (16777216 : Int)), IntKind.u8.wrap ((l.getD i.toNat (0 : Int)).fdiv (65536 : Int)), IntKind.u8.wrap ((l.getD i.toNat (0 : Int)).fdiv (256 : Int)), IntKind.u8.wrap (l.getD i.toNat (0 : Int))]).length)) (.br (decide (n ≤ (Row.ints IntKind.u8 x).length ∧ (Row.ints IntKind.u8 (List.take n (List.drop (0 : Nat) x) ++ List.take (4 : Nat) (List.drop (0 : Nat) [IntKind.u8.wrap ((l.getD i.toNat (0 : Int)).fdiv (16777216 : Int)), IntKind.u8.wrap ((l.getD i.toNat (0 : Int)).fdiv (65536 : Int)), IntKind.u8.wrap ((l.getD i.toNat (0 : Int)).fdiv (256 : Int)), IntKind.u8.wrap (l.getD i.toNat (0 : Int))]))).length * (1 : Nat) ≤ (140737488355328 : Nat) ∧ (Row.ints IntKind.u8 (List.take n (List.drop (0 : Nat) x) ++ List.take (4 : Nat) (List.drop (0 : Nat) [IntKind.u8.wrap ((l.getD i.toNat (0 : Int)).fdiv (16777216 : Int)), IntKind.u8.wrap ((l.getD i.toNat (0 : Int)).fdiv (65536 : Int)), IntKind.u8.wrap ((l.getD i.toNat (0 : Int)).fdiv (256 : Int)), IntKind.u8.wrap (l.getD i.toNat (0 : Int))]))).length ≤ (9223372036854775807 : Nat))) (.leaf (Sum.inl ((Row.ints IntKind.u8 (List.take n (List.drop (0 : Nat) x) ++ List.take (4 : Nat) (List.drop (0 : Nat) [IntKind.u8.wrap ((l.getD i.toNat (0 : Int)).fdiv (16777216 : Int)), IntKind.u8.wrap ((l.getD i.toNat (0 : Int)).fdiv (65536 : Int)), IntKind.u8.wrap ((l.getD i.toNat (0 : Int)).fdiv (256 : Int)), IntKind.u8.wrap (l.getD i.toNat (0 : Int))]))).length, IntKind.i64.wrap (i + (1 : Int)), List.take n (List.drop (0 : Nat) x) ++ List.take (4 : Nat) (List.drop (0 : Nat) [IntKind.u8.wrap ((l.getD i.toNat (0 : Int)).fdiv (16777216 : Int)), IntKind.u8.wrap ((l.getD i.toNat (0 : Int)).fdiv (65536 : Int)), IntKind.u8.wrap ((l.getD i.toNat (0 : Int)).fdiv (256 : Int)), IntKind.u8.wrap (l.getD i.toNat (0 : Int))])))) .stuck) .stuck) .stuck) .stuck) (.leaf (Sum.inr (n, i, x))))
noncomputable def byA : Eng.Loop (((List Int) × ByteArray × Int)) ((Nat × Int × (List Int))) ((Nat × Int × (List Int))) := ⟨byA_E, byA_D, byA_O, byA_B, byA_t, fun (l, r, m) (n, i, x) => (8 - i).toNat + 1, default⟩
noncomputable def byA_S : LSpec := byA.spec 29 ⟨[3,6,7], [(3,5)]⟩
theorem byA_e0 (L : Tab) (l : List Int) (r : ByteArray) (m : Int) (n : Nat) (i : Int) (x : List Int) : round K0 c4.F L ⟨[3,6,7], [(3,5)]⟩ 29 200 (lp Tryz.f110 0) (byA_E (l, r, m) (n, i, x)) = (byA_t (l, r, m) (n, i, x)).bind fun zz => .leaf (byA.endOf (l, r, m) zz) := by kernel_rfl
theorem byA_lok (L : Tab) (hL : L (codeKey (lp Tryz.f110 0)) = some byA_S) (hin : ∀ b ∈ loopsOf (lp Tryz.f110 0), ∀ s, L (codeKey b) = some s → LOk K0 c4.F L s b) : LOk K0 c4.F L byA_S (lp Tryz.f110 0) := by
  refine byA.lok (n := 200) hL hin ?_ ?_ ?_ ?_
  · rintro p a; exact byA_e0 L _ _ _ _ _ _
  · intro l H s h; simp only [byA] at h ⊢; unfold byA_D at h; split at h <;> first | (cases h; rfl) | cases h
  · rintro p r h <;> cases h
  · rintro p r <;> rfl

noncomputable def LT110 : Tab := fun k => if k = 4 then some byA_S else none
theorem LT110_k0 : codeKey (lp Tryz.f110 0) = 4 := by kernel_rfl
theorem LT110_i0 : loopsOf (lp Tryz.f110 0) = [] := by kernel_rfl
theorem LT110_l0 : LOk K0 c4.F LT110 byA_S (lp Tryz.f110 0) := by
  refine byA_lok LT110 (by rw [LT110_k0]; rfl) ?_
  intro b hb s hs
  rw [LT110_i0] at hb
  cases hb
theorem LT110_ok {b : Code} (hb : Tryz.f110.body = some b) : ∀ a ∈ loopsOf b, ∀ s, LT110 (codeKey a) = some s → LOk K0 c4.F LT110 s a := by
  have e : loopsOf (Tryz.f110.body.getD .skip) = [lp Tryz.f110 0] := by kernel_rfl
  rw [hb] at e
  intro b hb s hs
  simp only [Option.getD_some] at e
  rw [e] at hb
  simp only [List.mem_cons, List.not_mem_nil, or_false] at hb
  subst hb
  rw [LT110_k0] at hs
  simp only [LT110] at hs
  cases hs
  exact LT110_l0

/-! function 110 -/
def bytes_E (a : ((List Int) × ByteArray × Int)) : List AV × Heap := (fun (l : List Int) (r : ByteArray) (m : Int) => (([.ptr (.o 0) 0], ⟨[.cells [.arr .u32 8 l, .v (.string r) false, .v (.int .i64 m) false] 126], []⟩) : List AV × Heap)) a.1 a.2.1 a.2.2
def bytes_D : List AV → Heap → Option (((List Int) × ByteArray × Int))
  | [.ptr (.o 0) 0], ⟨[.cells [.arr .u32 8 l, .v (.string r) false, .v (.int .i64 m) false] 126], []⟩ => some (l, r, m)
  | _, _ => none
def bytes_O : ((List Int) × ByteArray × Int) → (ByteArray) → AV × Heap
  | q, r => (fun (l : List Int) (r : ByteArray) (m : Int) (t : ByteArray) => ((.v (.string t) false, ⟨[.cells [.arr .u32 8 l, .v (.string r) false, .v (.int .i64 m) false] 126], []⟩) : AV × Heap)) q.1 q.2.1 q.2.2 r
def bytes_B : ((List Int) × ByteArray × Int) → (ByteArray) → T (AV × Heap)
  | q, r => (.leaf ((fun (l : List Int) (r : ByteArray) (m : Int) (t : ByteArray) => ((.v (.string t) false, ⟨[.cells [.arr .u32 8 l, .v (.string r) false, .v (.int .i64 m) false] 126], []⟩) : AV × Heap)) q.1 q.2.1 q.2.2 (r)))
noncomputable def bytes_t : ((List Int) × ByteArray × Int) → T ((ByteArray))
  | (l, r, m) => (.br (byA.ok (l, r, m) ((0 : Nat), (0 : Int), [])) (.seq (byA.res (l, r, m) ((0 : Nat), (0 : Int), [])) fun v1 => (.br (decide ((0 : Nat) + v1.fst ≤ v1.snd.snd.length)) (.leaf (bytesOf (List.take v1.fst (List.drop (0 : Nat) v1.snd.snd)))) .stuck)) .stuck)
noncomputable def bytes : Eng.Fun (((List Int) × ByteArray × Int)) ((ByteArray)) := ⟨bytes_E, bytes_D, bytes_O, bytes_B, bytes_t, default⟩
theorem bytes_e0 (l : List Int) (r : ByteArray) (m : Int) : (body2 K0 c4.F LT110 400 [] Tryz.f110 (bytes_E (l, r, m)).1 (bytes_E (l, r, m)).2).bind (polish K0 []) = (bytes_t (l, r, m)).bind fun zz => .leaf (bytes_O (l, r, m) zz) := by kernel_rfl
theorem bytes_ok : FnOk K0 110 (fgt bytes.g) := by
  refine c4.fn bytes (L := LT110) 400 [] [] (fn := Tryz.f110) Tryz.func110 (b := _) (by exact rfl) (LT110_ok rfl) ?_ ?_ ?_
  · rintro a; exact bytes_e0 _ _ _
  · intro l H s h; simp only [bytes] at h ⊢; unfold bytes_D at h; split at h <;> first | (cases h; rfl) | cases h
  · rintro q r <;> rfl

noncomputable def c5a : Con := (c4.add 50 write write_ok).add 110 bytes bytes_ok
/-! function 75, loop 0 -/
def suA_E (p : ((List Int) × ByteArray × Int × (List Int) × ByteArray × Int)) (a : (Nat × (List Int))) : List AV × Heap := (fun (l : List Int) (r : ByteArray) (m : Int) (l2 : List Int) (r2 : ByteArray) (m2 : Int) (n : Nat) (x : List Int) => (([.ptr (.o 0) 0, .ptr (.n 0) 0, .sl (.n 1) 1 [] n], ⟨[.cells [.arr .u32 8 l, .v (.string r) false, .v (.int .i64 m) false] 126], [.cells [.arr .u32 8 l2, .v (.string r2) false, .v (.int .i64 m2) false] 126, .row (.ints .u8 x) 5]⟩) : List AV × Heap)) p.1 p.2.1 p.2.2.1 p.2.2.2.1 p.2.2.2.2.1 p.2.2.2.2.2 a.1 a.2
def suA_D : List AV → Heap → Option ((((List Int) × ByteArray × Int × (List Int) × ByteArray × Int)) × ((Nat × (List Int))))
  | [.ptr (.o 0) 0, .ptr (.n 0) 0, .sl (.n 1) 1 [] n], ⟨[.cells [.arr .u32 8 l, .v (.string r) false, .v (.int .i64 m) false] 126], [.cells [.arr .u32 8 l2, .v (.string r2) false, .v (.int .i64 m2) false] 126, .row (.ints .u8 x) 5]⟩ => some ((l, r, m, l2, r2, m2), (n, x))
  | _, _ => none
def suA_O : ((List Int) × ByteArray × Int × (List Int) × ByteArray × Int) → (Nat × (List Int)) → X × List AV × Heap
  | q, r => (fun (l : List Int) (r : ByteArray) (m : Int) (l2 : List Int) (r2 : ByteArray) (m2 : Int) (n : Nat) (x : List Int) => ((X.exit 0, [.ptr (.o 0) 0, .ptr (.n 0) 0, .sl (.n 1) 1 [] n], ⟨[.cells [.arr .u32 8 l, .v (.string r) false, .v (.int .i64 m) false] 126], [.cells [.arr .u32 8 l2, .v (.string r2) false, .v (.int .i64 m2) false] 126, .row (.ints .u8 x) 5]⟩) : X × List AV × Heap)) q.1 q.2.1 q.2.2.1 q.2.2.2.1 q.2.2.2.2.1 q.2.2.2.2.2 r.1 r.2
def suA_B : ((List Int) × ByteArray × Int × (List Int) × ByteArray × Int) → (Nat × (List Int)) → T (X × List AV × Heap)
  | q, r => (.leaf ((fun (l : List Int) (r : ByteArray) (m : Int) (l2 : List Int) (r2 : ByteArray) (m2 : Int) (n : Nat) (x : List Int) => ((X.exit 0, [.ptr (.o 0) 0, .ptr (.n 0) 0, .sl (.n 1) 1 [] n], ⟨[.cells [.arr .u32 8 l, .v (.string r) false, .v (.int .i64 m) false] 126], [.cells [.arr .u32 8 l2, .v (.string r2) false, .v (.int .i64 m2) false] 126, .row (.ints .u8 x) 5]⟩) : X × List AV × Heap)) q.1 q.2.1 q.2.2.1 q.2.2.2.1 q.2.2.2.2.1 q.2.2.2.2.2 (r).1 (r).2))
noncomputable def suA_t : ((List Int) × ByteArray × Int × (List Int) × ByteArray × Int) → (Nat × (List Int)) → T (((Nat × (List Int))) ⊕ ((Nat × (List Int))))
  | (l, r, m, l2, r2, m2), (n, x) => (.br ((IntKind.i64.wrap ((↑r.size : Int) + (↑n : Int))).tmod (64 : Int) != (56 : Int)) (.br (true) (.br (decide (n ≤ (Row.ints IntKind.u8 x).length ∧ (Row.ints IntKind.u8 (List.take n (List.drop (0 : Nat) x) ++ List.take (1 : Nat) (List.drop (0 : Nat) [(0 : Int)]))).length * (1 : Nat) ≤ (140737488355328 : Nat) ∧ (Row.ints IntKind.u8 (List.take n (List.drop (0 : Nat) x) ++ List.take (1 : Nat) (List.drop (0 : Nat) [(0 : Int)]))).length ≤ (9223372036854775807 : Nat))) (.leaf (Sum.inl ((Row.ints IntKind.u8 (List.take n (List.drop (0 : Nat) x) ++ List.take (1 : Nat) (List.drop (0 : Nat) [(0 : Int)]))).length, List.take n (List.drop (0 : Nat) x) ++ List.take (1 : Nat) (List.drop (0 : Nat) [(0 : Int)])))) .stuck) .stuck) (.leaf (Sum.inr (n, x))))
noncomputable def suA : Eng.Loop (((List Int) × ByteArray × Int × (List Int) × ByteArray × Int)) ((Nat × (List Int))) ((Nat × (List Int))) := ⟨suA_E, suA_D, suA_O, suA_B, suA_t, fun (l, r, m, l2, r2, m2) (n, x) => 64 - n + 1, default⟩
noncomputable def suA_S : LSpec := suA.spec 54 ⟨[0,3,4], []⟩
theorem suA_e0 (L : Tab) (l : List Int) (r : ByteArray) (m : Int) (l2 : List Int) (r2 : ByteArray) (m2 : Int) (n : Nat) (x : List Int) : round K0 c5a.F L ⟨[0,3,4], []⟩ 54 200 (lp Tryz.f75 0) (suA_E (l, r, m, l2, r2, m2) (n, x)) = (suA_t (l, r, m, l2, r2, m2) (n, x)).bind fun zz => .leaf (suA.endOf (l, r, m, l2, r2, m2) zz) := by kernel_rfl
theorem suA_lok (L : Tab) (hL : L (codeKey (lp Tryz.f75 0)) = some suA_S) (hin : ∀ b ∈ loopsOf (lp Tryz.f75 0), ∀ s, L (codeKey b) = some s → LOk K0 c5a.F L s b) : LOk K0 c5a.F L suA_S (lp Tryz.f75 0) := by
  refine suA.lok (n := 200) hL hin ?_ ?_ ?_ ?_
  · rintro p a; exact suA_e0 L _ _ _ _ _ _ _ _
  · intro l H s h; simp only [suA] at h ⊢; unfold suA_D at h; split at h <;> first | (cases h; rfl) | cases h
  · rintro p r h <;> cases h
  · rintro p r <;> rfl

/-! function 75, loop 1 -/
def suB_E (p : ((List Int) × ByteArray × Int × (List Int) × ByteArray × Int × Int)) (a : (Nat × Int × (List Int))) : List AV × Heap := (fun (l : List Int) (r : ByteArray) (m : Int) (l2 : List Int) (r2 : ByteArray) (m2 : Int) (b : Int) (n : Nat) (i : Int) (x : List Int) => (([.ptr (.n 0) 0, .sl (.n 1) 1 [] n, .v (.int .u64 b) false, .v (.int .i64 i) false], ⟨[.cells [.arr .u32 8 l, .v (.string r) false, .v (.int .i64 m) false] 126], [.cells [.arr .u32 8 l2, .v (.string r2) false, .v (.int .i64 m2) false] 126, .row (.ints .u8 x) 5]⟩) : List AV × Heap)) p.1 p.2.1 p.2.2.1 p.2.2.2.1 p.2.2.2.2.1 p.2.2.2.2.2.1 p.2.2.2.2.2.2 a.1 a.2.1 a.2.2
def suB_D : List AV → Heap → Option ((((List Int) × ByteArray × Int × (List Int) × ByteArray × Int × Int)) × ((Nat × Int × (List Int))))
  | [.ptr (.n 0) 0, .sl (.n 1) 1 [] n, .v (.int .u64 b) false, .v (.int .i64 i) false], ⟨[.cells [.arr .u32 8 l, .v (.string r) false, .v (.int .i64 m) false] 126], [.cells [.arr .u32 8 l2, .v (.string r2) false, .v (.int .i64 m2) false] 126, .row (.ints .u8 x) 5]⟩ => some ((l, r, m, l2, r2, m2, b), (n, i, x))
  | _, _ => none
def suB_O : ((List Int) × ByteArray × Int × (List Int) × ByteArray × Int × Int) → (Nat × Int × (List Int)) → X × List AV × Heap
  | q, r => (fun (l : List Int) (r : ByteArray) (m : Int) (l2 : List Int) (r2 : ByteArray) (m2 : Int) (b : Int) (n : Nat) (i : Int) (x : List Int) => ((X.exit 2, [.ptr (.n 0) 0, .sl (.n 1) 1 [] n, .v (.int .u64 b) false, .v (.int .i64 i) false], ⟨[.cells [.arr .u32 8 l, .v (.string r) false, .v (.int .i64 m) false] 126], [.cells [.arr .u32 8 l2, .v (.string r2) false, .v (.int .i64 m2) false] 126, .row (.ints .u8 x) 5]⟩) : X × List AV × Heap)) q.1 q.2.1 q.2.2.1 q.2.2.2.1 q.2.2.2.2.1 q.2.2.2.2.2.1 q.2.2.2.2.2.2 r.1 r.2.1 r.2.2
def suB_B : ((List Int) × ByteArray × Int × (List Int) × ByteArray × Int × Int) → (Nat × Int × (List Int)) → T (X × List AV × Heap)
  | q, r => (.leaf ((fun (l : List Int) (r : ByteArray) (m : Int) (l2 : List Int) (r2 : ByteArray) (m2 : Int) (b : Int) (n : Nat) (i : Int) (x : List Int) => ((X.exit 2, [.ptr (.n 0) 0, .sl (.n 1) 1 [] n, .v (.int .u64 b) false, .v (.int .i64 i) false], ⟨[.cells [.arr .u32 8 l, .v (.string r) false, .v (.int .i64 m) false] 126], [.cells [.arr .u32 8 l2, .v (.string r2) false, .v (.int .i64 m2) false] 126, .row (.ints .u8 x) 5]⟩) : X × List AV × Heap)) q.1 q.2.1 q.2.2.1 q.2.2.2.1 q.2.2.2.2.1 q.2.2.2.2.2.1 q.2.2.2.2.2.2 (r).1 (r).2.1 (r).2.2))
noncomputable def suB_t : ((List Int) × ByteArray × Int × (List Int) × ByteArray × Int × Int) → (Nat × Int × (List Int)) → T (((Nat × Int × (List Int))) ⊕ ((Nat × Int × (List Int))))
  | (l, r, m, l2, r2, m2, b), (n, i, x) => (.br (decide (i < (8 : Int))) (.br (decide ((0 : Int) ≤ IntKind.i64.wrap ((56 : Int) - IntKind.i64.wrap ((8 : Int) * i)))) (.br (decide ((1 : Nat) ≤ (Row.ints IntKind.u8 [IntKind.u8.wrap (b.fdiv ((2 : Int) ^ min (IntKind.i64.wrap ((56 : Int) - IntKind.i64.wrap ((8 : Int) * i))).toNat (64 : Nat)))]).length)) (.br (decide (n ≤ (Row.ints IntKind.u8 x).length ∧ (Row.ints IntKind.u8 (List.take n (List.drop (0 : Nat) x) ++ List.take (1 : Nat) (List.drop (0 : Nat) [IntKind.u8.wrap (b.fdiv ((2 : Int) ^ min (IntKind.i64.wrap ((56 : Int) - IntKind.i64.wrap ((8 : Int) * i))).toNat (64 : Nat)))]))).length * (1 : Nat) ≤ (140737488355328 : Nat) ∧ (Row.ints IntKind.u8 (List.take n (List.drop (0 : Nat) x) ++ List.take (1 : Nat) (List.drop (0 : Nat) [IntKind.u8.wrap (b.fdiv ((2 : Int) ^ min (IntKind.i64.wrap ((56 : Int) - IntKind.i64.wrap ((8 : Int) * i))).toNat (64 : Nat)))]))).length ≤ (9223372036854775807 : Nat))) (.leaf (Sum.inl ((Row.ints IntKind.u8 (List.take n (List.drop (0 : Nat) x) ++ List.take (1 : Nat) (List.drop (0 : Nat) [IntKind.u8.wrap (b.fdiv ((2 : Int) ^ min (IntKind.i64.wrap ((56 : Int) - IntKind.i64.wrap ((8 : Int) * i))).toNat (64 : Nat)))]))).length, IntKind.i64.wrap (i + (1 : Int)), List.take n (List.drop (0 : Nat) x) ++ List.take (1 : Nat) (List.drop (0 : Nat) [IntKind.u8.wrap (b.fdiv ((2 : Int) ^ min (IntKind.i64.wrap ((56 : Int) - IntKind.i64.wrap ((8 : Int) * i))).toNat (64 : Nat)))])))) .stuck) .stuck) .stuck) (.leaf (Sum.inr (n, i, x))))
noncomputable def suB : Eng.Loop (((List Int) × ByteArray × Int × (List Int) × ByteArray × Int × Int)) ((Nat × Int × (List Int))) ((Nat × Int × (List Int))) := ⟨suB_E, suB_D, suB_O, suB_B, suB_t, fun (l, r, m, l2, r2, m2, b) (n, i, x) => (8 - i).toNat + 1, default⟩
noncomputable def suB_S : LSpec := suB.spec 54 ⟨[3,4,5,36], []⟩
theorem suB_e0 (L : Tab) (l : List Int) (r : ByteArray) (m : Int) (l2 : List Int) (r2 : ByteArray) (m2 : Int) (b : Int) (n : Nat) (i : Int) (x : List Int) : round K0 c5a.F L ⟨[3,4,5,36], []⟩ 54 200 (lp Tryz.f75 1) (suB_E (l, r, m, l2, r2, m2, b) (n, i, x)) = (suB_t (l, r, m, l2, r2, m2, b) (n, i, x)).bind fun zz => .leaf (suB.endOf (l, r, m, l2, r2, m2, b) zz) := by kernel_rfl
theorem suB_lok (L : Tab) (hL : L (codeKey (lp Tryz.f75 1)) = some suB_S) (hin : ∀ b ∈ loopsOf (lp Tryz.f75 1), ∀ s, L (codeKey b) = some s → LOk K0 c5a.F L s b) : LOk K0 c5a.F L suB_S (lp Tryz.f75 1) := by
  refine suB.lok (n := 200) hL hin ?_ ?_ ?_ ?_
  · rintro p a; exact suB_e0 L _ _ _ _ _ _ _ _ _ _
  · intro l H s h; simp only [suB] at h ⊢; unfold suB_D at h; split at h <;> first | (cases h; rfl) | cases h
  · rintro p r h <;> cases h
  · rintro p r <;> rfl

noncomputable def LT75 : Tab := fun k => if k = 4 then some suA_S else if k = 8 then some suB_S else none
theorem LT75_k0 : codeKey (lp Tryz.f75 0) = 4 := by kernel_rfl
theorem LT75_i0 : loopsOf (lp Tryz.f75 0) = [] := by kernel_rfl
theorem LT75_l0 : LOk K0 c5a.F LT75 suA_S (lp Tryz.f75 0) := by
  refine suA_lok LT75 (by rw [LT75_k0]; rfl) ?_
  intro b hb s hs
  rw [LT75_i0] at hb
  cases hb
theorem LT75_k1 : codeKey (lp Tryz.f75 1) = 8 := by kernel_rfl
theorem LT75_i1 : loopsOf (lp Tryz.f75 1) = [] := by kernel_rfl
theorem LT75_l1 : LOk K0 c5a.F LT75 suB_S (lp Tryz.f75 1) := by
  refine suB_lok LT75 (by rw [LT75_k1]; rfl) ?_
  intro b hb s hs
  rw [LT75_i1] at hb
  cases hb
theorem LT75_ok {b : Code} (hb : Tryz.f75.body = some b) : ∀ a ∈ loopsOf b, ∀ s, LT75 (codeKey a) = some s → LOk K0 c5a.F LT75 s a := by
  have e : loopsOf (Tryz.f75.body.getD .skip) = [lp Tryz.f75 0, lp Tryz.f75 1] := by kernel_rfl
  rw [hb] at e
  intro b hb s hs
  simp only [Option.getD_some] at e
  rw [e] at hb
  simp only [List.mem_cons, List.not_mem_nil, or_false] at hb
  rcases hb with rfl | rfl
  · rw [LT75_k0] at hs
    simp only [LT75] at hs
    cases hs
    exact LT75_l0
  · rw [LT75_k1] at hs
    simp only [LT75] at hs
    cases hs
    exact LT75_l1

/-! function 75 -/
def sum_E (a : ((List Int) × ByteArray × Int)) : List AV × Heap := (fun (l : List Int) (r : ByteArray) (m : Int) => (([.ptr (.o 0) 0], ⟨[.cells [.arr .u32 8 l, .v (.string r) false, .v (.int .i64 m) false] 126], []⟩) : List AV × Heap)) a.1 a.2.1 a.2.2
def sum_D : List AV → Heap → Option (((List Int) × ByteArray × Int))
  | [.ptr (.o 0) 0], ⟨[.cells [.arr .u32 8 l, .v (.string r) false, .v (.int .i64 m) false] 126], []⟩ => some (l, r, m)
  | _, _ => none
def sum_O : ((List Int) × ByteArray × Int) → (ByteArray) → AV × Heap
  | q, r => (fun (l : List Int) (r : ByteArray) (m : Int) (t : ByteArray) => ((.v (.string t) false, ⟨[.cells [.arr .u32 8 l, .v (.string r) false, .v (.int .i64 m) false] 126], []⟩) : AV × Heap)) q.1 q.2.1 q.2.2 r
def sum_B : ((List Int) × ByteArray × Int) → (ByteArray) → T (AV × Heap)
  | q, r => (.leaf ((fun (l : List Int) (r : ByteArray) (m : Int) (t : ByteArray) => ((.v (.string t) false, ⟨[.cells [.arr .u32 8 l, .v (.string r) false, .v (.int .i64 m) false] 126], []⟩) : AV × Heap)) q.1 q.2.1 q.2.2 (r)))
noncomputable def sum_t : ((List Int) × ByteArray × Int) → T ((ByteArray))
  | (l, r, m) => (.br (suA.ok (l, r, m, l, r, (0 : Int)) ((1 : Nat), [(128 : Int)])) (.seq (suA.res (l, r, m, l, r, (0 : Int)) ((1 : Nat), [(128 : Int)])) fun v1 => (.br (suB.ok (l, r, m, l, r, (0 : Int), IntKind.u64.wrap (IntKind.u64.wrap m * (8 : Int))) (v1.fst, (0 : Int), v1.snd)) (.seq (suB.res (l, r, m, l, r, (0 : Int), IntKind.u64.wrap (IntKind.u64.wrap m * (8 : Int))) (v1.fst, (0 : Int), v1.snd)) fun v2 => (.br (decide ((0 : Nat) + v2.fst ≤ v2.snd.snd.length)) (.br (write.ok (bytesOf (List.take v2.fst (List.drop (0 : Nat) v2.snd.snd)), l, r, (0 : Int))) (.seq (write.res (bytesOf (List.take v2.fst (List.drop (0 : Nat) v2.snd.snd)), l, r, (0 : Int))) fun v3 => (.br (bytes.ok (v3.fst, v3.snd.fst, v3.snd.snd)) (.seq (bytes.res (v3.fst, v3.snd.fst, v3.snd.snd)) fun v4 => (.leaf (v4))) .stuck)) .stuck) .stuck)) .stuck)) .stuck)
noncomputable def sum : Eng.Fun (((List Int) × ByteArray × Int)) ((ByteArray)) := ⟨sum_E, sum_D, sum_O, sum_B, sum_t, default⟩
theorem sum_e0 (l : List Int) (r : ByteArray) (m : Int) : (body2 K0 c5a.F LT75 400 [] Tryz.f75 (sum_E (l, r, m)).1 (sum_E (l, r, m)).2).bind (polish K0 []) = (sum_t (l, r, m)).bind fun zz => .leaf (sum_O (l, r, m) zz) := by kernel_rfl
theorem sum_ok : FnOk K0 75 (fgt sum.g) := by
  refine c5a.fn sum (L := LT75) 400 [] [] (fn := Tryz.f75) Tryz.func75 (b := _) (by exact rfl) (LT75_ok rfl) ?_ ?_ ?_
  · rintro a; exact sum_e0 _ _ _
  · intro l H s h; simp only [sum] at h ⊢; unfold sum_D at h; split at h <;> first | (cases h; rfl) | cases h
  · rintro q r <;> rfl

noncomputable def c5b : Con := c5a.add 75 sum sum_ok
/-! function 51, loop 0 -/
def heA_E (p : ((List Int) × ByteArray × Int × Nat × Int × (List Int))) (a : (Nat × Int × (List Int))) : List AV × Heap := (fun (l : List Int) (r : ByteArray) (m : Int) (k : Nat) (q : Int) (y : List Int) (n : Nat) (i : Int) (x : List Int) => (([.sl (.n 0) 1 [] n, .sl (.n 1) 1 [] k, .v (.int .i64 q) false, .v (.int .i64 i) false], ⟨[.cells [.arr .u32 8 l, .v (.string r) false, .v (.int .i64 m) false] 126], [.row (.ints .u8 x) 5, .frow (.ints .u8 y)]⟩) : List AV × Heap)) p.1 p.2.1 p.2.2.1 p.2.2.2.1 p.2.2.2.2.1 p.2.2.2.2.2 a.1 a.2.1 a.2.2
def heA_D : List AV → Heap → Option ((((List Int) × ByteArray × Int × Nat × Int × (List Int))) × ((Nat × Int × (List Int))))
  | [.sl (.n 0) 1 [] n, .sl (.n 1) 1 [] k, .v (.int .i64 q) false, .v (.int .i64 i) false], ⟨[.cells [.arr .u32 8 l, .v (.string r) false, .v (.int .i64 m) false] 126], [.row (.ints .u8 x) 5, .frow (.ints .u8 y)]⟩ => some ((l, r, m, k, q, y), (n, i, x))
  | _, _ => none
def heA_O : ((List Int) × ByteArray × Int × Nat × Int × (List Int)) → (Nat × Int × (List Int)) → X × List AV × Heap
  | q, r => (fun (l : List Int) (r : ByteArray) (m : Int) (k : Nat) (q : Int) (y : List Int) (n : Nat) (i : Int) (x : List Int) => ((X.exit 0, [.sl (.n 0) 1 [] n, .sl (.n 1) 1 [] k, .v (.int .i64 q) false, .v (.int .i64 i) false], ⟨[.cells [.arr .u32 8 l, .v (.string r) false, .v (.int .i64 m) false] 126], [.row (.ints .u8 x) 5, .frow (.ints .u8 y)]⟩) : X × List AV × Heap)) q.1 q.2.1 q.2.2.1 q.2.2.2.1 q.2.2.2.2.1 q.2.2.2.2.2 r.1 r.2.1 r.2.2
def heA_B : ((List Int) × ByteArray × Int × Nat × Int × (List Int)) → (Nat × Int × (List Int)) → T (X × List AV × Heap)
  | q, r => (.leaf ((fun (l : List Int) (r : ByteArray) (m : Int) (k : Nat) (q : Int) (y : List Int) (n : Nat) (i : Int) (x : List Int) => ((X.exit 0, [.sl (.n 0) 1 [] n, .sl (.n 1) 1 [] k, .v (.int .i64 q) false, .v (.int .i64 i) false], ⟨[.cells [.arr .u32 8 l, .v (.string r) false, .v (.int .i64 m) false] 126], [.row (.ints .u8 x) 5, .frow (.ints .u8 y)]⟩) : X × List AV × Heap)) q.1 q.2.1 q.2.2.1 q.2.2.2.1 q.2.2.2.2.1 q.2.2.2.2.2 (r).1 (r).2.1 (r).2.2))
noncomputable def heA_t : ((List Int) × ByteArray × Int × Nat × Int × (List Int)) → (Nat × Int × (List Int)) → T (((Nat × Int × (List Int))) ⊕ ((Nat × Int × (List Int))))
  | (l, r, m, k, q, y), (n, i, x) => (.br (decide (i < q)) (.br (decide ((0 : Int) ≤ i ∧ i < (↑k : Int) ∧ (0 : Nat) + i.toNat < (Row.ints IntKind.u8 y).length)) (.br (decide ((0 : Nat) + i.toNat < y.length)) (.br (decide ((0 : Int) ≤ (y.getD ((0 : Nat) + i.toNat) (0 : Int)).fdiv (16 : Int) ∧ (y.getD ((0 : Nat) + i.toNat) (0 : Int)).fdiv (16 : Int) < (16 : Int))) (.br (decide ((0 : Int) ≤ IntKind.u8.wrap (↑(BitVec.ofInt (8 : Nat) (y.getD ((0 : Nat) + i.toNat) (0 : Int)) &&& BitVec.ofInt (8 : Nat) (15 : Int)).toNat : Int) ∧ IntKind.u8.wrap (↑(BitVec.ofInt (8 : Nat) (y.getD ((0 : Nat) + i.toNat) (0 : Int)) &&& BitVec.ofInt (8 : Nat) (15 : Int)).toNat : Int) < (16 : Int))) (.br (decide ((2 : Nat) ≤ (Row.ints IntKind.u8 [(↑((ByteArray.mk #[(48 : UInt8), (49 : UInt8), (50 : UInt8), (51 : UInt8), (52 : UInt8), (53 : UInt8), (54 : UInt8), (55 : UInt8), (56 : UInt8), (57 : UInt8), (97 : UInt8), (98 : UInt8), (99 : UInt8), (100 : UInt8), (101 : UInt8), (102 : UInt8)]).data.getD ((y.getD ((0 : Nat) + i.toNat) (0 : Int)).fdiv (16 : Int)).toNat (0 : UInt8)).toNat : Int), (↑((ByteArray.mk #[(48 : UInt8), (49 : UInt8), (50 : UInt8), (51 : UInt8), (52 : UInt8), (53 : UInt8), (54 : UInt8), (55 : UInt8), (56 : UInt8), (57 : UInt8), (97 : UInt8), (98 : UInt8), (99 : UInt8), (100 : UInt8), (101 : UInt8), (102 : UInt8)]).data.getD (IntKind.u8.wrap (↑(BitVec.ofInt (8 : Nat) (y.getD ((0 : Nat) + i.toNat) (0 : Int)) &&& BitVec.ofInt (8 : Nat) (15 : Int)).toNat : Int)).toNat (0 : UInt8)).toNat : Int)]).length)) (.br (decide (n ≤ (Row.ints IntKind.u8 x).length ∧ (Row.ints IntKind.u8 (List.take n (List.drop (0 : Nat) x) ++ List.take (2 : Nat) (List.drop (0 : Nat) [(↑((ByteArray.mk #[(48 : UInt8), (49 : UInt8), (50 : UInt8), (51 : UInt8), (52 : UInt8), (53 : UInt8), (54 : UInt8), (55 : UInt8), (56 : UInt8), (57 : UInt8), (97 : UInt8), (98 : UInt8), (99 : UInt8), (100 : UInt8), (101 : UInt8), (102 : UInt8)]).data.getD ((y.getD ((0 : Nat) + i.toNat) (0 : Int)).fdiv (16 : Int)).toNat (0 : UInt8)).toNat : Int), (↑((ByteArray.mk #[(48 : UInt8), (49 : UInt8), (50 : UInt8), (51 : UInt8), (52 : UInt8), (53 : UInt8), (54 : UInt8), (55 : UInt8), (56 : UInt8), (57 : UInt8), (97 : UInt8), (98 : UInt8), (99 : UInt8), (100 : UInt8), (101 : UInt8), (102 : UInt8)]).data.getD (IntKind.u8.wrap (↑(BitVec.ofInt (8 : Nat) (y.getD ((0 : Nat) + i.toNat) (0 : Int)) &&& BitVec.ofInt (8 : Nat) (15 : Int)).toNat : Int)).toNat (0 : UInt8)).toNat : Int)]))).length * (1 : Nat) ≤ (140737488355328 : Nat) ∧ (Row.ints IntKind.u8 (List.take n (List.drop (0 : Nat) x) ++ List.take (2 : Nat) (List.drop (0 : Nat) [(↑((ByteArray.mk #[(48 : UInt8), (49 : UInt8), (50 : UInt8), (51 : UInt8), (52 : UInt8), (53 : UInt8), (54 : UInt8), (55 : UInt8), (56 : UInt8), (57 : UInt8), (97 : UInt8), (98 : UInt8), (99 : UInt8), (100 : UInt8), (101 : UInt8), (102 : UInt8)]).data.getD ((y.getD ((0 : Nat) + i.toNat) (0 : Int)).fdiv (16 : Int)).toNat (0 : UInt8)).toNat : Int), (↑((ByteArray.mk #[(48 : UInt8), (49 : UInt8), (50 : UInt8), (51 : UInt8), (52 : UInt8), (53 : UInt8), (54 : UInt8), (55 : UInt8), (56 : UInt8), (57 : UInt8), (97 : UInt8), (98 : UInt8), (99 : UInt8), (100 : UInt8), (101 : UInt8), (102 : UInt8)]).data.getD (IntKind.u8.wrap (↑(BitVec.ofInt (8 : Nat) (y.getD ((0 : Nat) + i.toNat) (0 : Int)) &&& BitVec.ofInt (8 : Nat) (15 : Int)).toNat : Int)).toNat (0 : UInt8)).toNat : Int)]))).length ≤ (9223372036854775807 : Nat))) (.leaf (Sum.inl ((Row.ints IntKind.u8 (List.take n (List.drop (0 : Nat) x) ++ List.take (2 : Nat) (List.drop (0 : Nat) [(↑((ByteArray.mk #[(48 : UInt8), (49 : UInt8), (50 : UInt8), (51 : UInt8), (52 : UInt8), (53 : UInt8), (54 : UInt8), (55 : UInt8), (56 : UInt8), (57 : UInt8), (97 : UInt8), (98 : UInt8), (99 : UInt8), (100 : UInt8), (101 : UInt8), (102 : UInt8)]).data.getD ((y.getD ((0 : Nat) + i.toNat) (0 : Int)).fdiv (16 : Int)).toNat (0 : UInt8)).toNat : Int), (↑((ByteArray.mk #[(48 : UInt8), (49 : UInt8), (50 : UInt8), (51 : UInt8), (52 : UInt8), (53 : UInt8), (54 : UInt8), (55 : UInt8), (56 : UInt8), (57 : UInt8), (97 : UInt8), (98 : UInt8), (99 : UInt8), (100 : UInt8), (101 : UInt8), (102 : UInt8)]).data.getD (IntKind.u8.wrap (↑(BitVec.ofInt (8 : Nat) (y.getD ((0 : Nat) + i.toNat) (0 : Int)) &&& BitVec.ofInt (8 : Nat) (15 : Int)).toNat : Int)).toNat (0 : UInt8)).toNat : Int)]))).length, IntKind.i64.wrap (i + (1 : Int)), List.take n (List.drop (0 : Nat) x) ++ List.take (2 : Nat) (List.drop (0 : Nat) [(↑((ByteArray.mk #[(48 : UInt8), (49 : UInt8), (50 : UInt8), (51 : UInt8), (52 : UInt8), (53 : UInt8), (54 : UInt8), (55 : UInt8), (56 : UInt8), (57 : UInt8), (97 : UInt8), (98 : UInt8), (99 : UInt8), (100 : UInt8), (101 : UInt8), (102 : UInt8)]).data.getD ((y.getD ((0 : Nat) + i.toNat) (0 : Int)).fdiv (16 : Int)).toNat (0 : UInt8)).toNat : Int), (↑((ByteArray.mk #[(48 : UInt8), (49 : UInt8), (50 : UInt8), (51 : UInt8), (52 : UInt8), (53 : UInt8), (54 : UInt8), (55 : UInt8), (56 : UInt8), (57 : UInt8), (97 : UInt8), (98 : UInt8), (99 : UInt8), (100 : UInt8), (101 : UInt8), (102 : UInt8)]).data.getD (IntKind.u8.wrap (↑(BitVec.ofInt (8 : Nat) (y.getD ((0 : Nat) + i.toNat) (0 : Int)) &&& BitVec.ofInt (8 : Nat) (15 : Int)).toNat : Int)).toNat (0 : UInt8)).toNat : Int)])))) .stuck) .stuck) .stuck) .stuck) .stuck) .stuck) (.leaf (Sum.inr (n, i, x))))
noncomputable def heA : Eng.Loop (((List Int) × ByteArray × Int × Nat × Int × (List Int))) ((Nat × Int × (List Int))) ((Nat × Int × (List Int))) := ⟨heA_E, heA_D, heA_O, heA_B, heA_t, fun (l, r, m, k, q, y) (n, i, x) => (q - i).toNat + 1, default⟩
noncomputable def heA_S : LSpec := heA.spec 28 ⟨[3,10,11,12], [(3,5)]⟩
theorem heA_e0 (L : Tab) (l : List Int) (r : ByteArray) (m : Int) (k : Nat) (q : Int) (y : List Int) (n : Nat) (i : Int) (x : List Int) : round K0 c5b.F L ⟨[3,10,11,12], [(3,5)]⟩ 28 200 (lp Tryz.f51 0) (heA_E (l, r, m, k, q, y) (n, i, x)) = (heA_t (l, r, m, k, q, y) (n, i, x)).bind fun zz => .leaf (heA.endOf (l, r, m, k, q, y) zz) := by kernel_rfl
theorem heA_lok (L : Tab) (hL : L (codeKey (lp Tryz.f51 0)) = some heA_S) (hin : ∀ b ∈ loopsOf (lp Tryz.f51 0), ∀ s, L (codeKey b) = some s → LOk K0 c5b.F L s b) : LOk K0 c5b.F L heA_S (lp Tryz.f51 0) := by
  refine heA.lok (n := 200) hL hin ?_ ?_ ?_ ?_
  · rintro p a; exact heA_e0 L _ _ _ _ _ _ _ _ _
  · intro l H s h; simp only [heA] at h ⊢; unfold heA_D at h; split at h <;> first | (cases h; rfl) | cases h
  · rintro p r h <;> cases h
  · rintro p r <;> rfl

noncomputable def LT51 : Tab := fun k => if k = 6 then some heA_S else none
theorem LT51_k0 : codeKey (lp Tryz.f51 0) = 6 := by kernel_rfl
theorem LT51_i0 : loopsOf (lp Tryz.f51 0) = [] := by kernel_rfl
theorem LT51_l0 : LOk K0 c5b.F LT51 heA_S (lp Tryz.f51 0) := by
  refine heA_lok LT51 (by rw [LT51_k0]; rfl) ?_
  intro b hb s hs
  rw [LT51_i0] at hb
  cases hb
theorem LT51_ok {b : Code} (hb : Tryz.f51.body = some b) : ∀ a ∈ loopsOf b, ∀ s, LT51 (codeKey a) = some s → LOk K0 c5b.F LT51 s a := by
  have e : loopsOf (Tryz.f51.body.getD .skip) = [lp Tryz.f51 0] := by kernel_rfl
  rw [hb] at e
  intro b hb s hs
  simp only [Option.getD_some] at e
  rw [e] at hb
  simp only [List.mem_cons, List.not_mem_nil, or_false] at hb
  subst hb
  rw [LT51_k0] at hs
  simp only [LT51] at hs
  cases hs
  exact LT51_l0

/-! function 51 -/
def hexM_E (a : ((List Int) × ByteArray × Int)) : List AV × Heap := (fun (l : List Int) (r : ByteArray) (m : Int) => (([.ptr (.o 0) 0], ⟨[.cells [.arr .u32 8 l, .v (.string r) false, .v (.int .i64 m) false] 126], []⟩) : List AV × Heap)) a.1 a.2.1 a.2.2
def hexM_D : List AV → Heap → Option (((List Int) × ByteArray × Int))
  | [.ptr (.o 0) 0], ⟨[.cells [.arr .u32 8 l, .v (.string r) false, .v (.int .i64 m) false] 126], []⟩ => some (l, r, m)
  | _, _ => none
def hexM_O : ((List Int) × ByteArray × Int) → (ByteArray) → AV × Heap
  | q, r => (fun (l : List Int) (r : ByteArray) (m : Int) (t : ByteArray) => ((.v (.string t) false, ⟨[.cells [.arr .u32 8 l, .v (.string r) false, .v (.int .i64 m) false] 126], []⟩) : AV × Heap)) q.1 q.2.1 q.2.2 r
def hexM_B : ((List Int) × ByteArray × Int) → (ByteArray) → T (AV × Heap)
  | q, r => (.leaf ((fun (l : List Int) (r : ByteArray) (m : Int) (t : ByteArray) => ((.v (.string t) false, ⟨[.cells [.arr .u32 8 l, .v (.string r) false, .v (.int .i64 m) false] 126], []⟩) : AV × Heap)) q.1 q.2.1 q.2.2 (r)))
noncomputable def hexM_t : ((List Int) × ByteArray × Int) → T ((ByteArray))
  | (l, r, m) => (.br (sum.ok (l, r, m)) (.seq (sum.res (l, r, m)) fun v1 => (.br (decide (v1.size ≤ (9223372036854775807 : Nat))) (.br (heA.ok (l, r, m, v1.size, (↑v1.size : Int), List.map (fun b ↦ (↑b.toNat : Int)) v1.data.toList) ((0 : Nat), (0 : Int), [])) (.seq (heA.res (l, r, m, v1.size, (↑v1.size : Int), List.map (fun b ↦ (↑b.toNat : Int)) v1.data.toList) ((0 : Nat), (0 : Int), [])) fun v2 => (.br (decide ((0 : Nat) + v2.fst ≤ v2.snd.snd.length)) (.leaf (bytesOf (List.take v2.fst (List.drop (0 : Nat) v2.snd.snd)))) .stuck)) .stuck) .stuck)) .stuck)
noncomputable def hexM : Eng.Fun (((List Int) × ByteArray × Int)) ((ByteArray)) := ⟨hexM_E, hexM_D, hexM_O, hexM_B, hexM_t, default⟩
theorem hexM_e0 (l : List Int) (r : ByteArray) (m : Int) : (body2 K0 c5b.F LT51 400 [] Tryz.f51 (hexM_E (l, r, m)).1 (hexM_E (l, r, m)).2).bind (polish K0 []) = (hexM_t (l, r, m)).bind fun zz => .leaf (hexM_O (l, r, m) zz) := by kernel_rfl
theorem hexM_ok : FnOk K0 51 (fgt hexM.g) := by
  refine c5b.fn hexM (L := LT51) 400 [] [] (fn := Tryz.f51) Tryz.func51 (b := _) (by exact rfl) (LT51_ok rfl) ?_ ?_ ?_
  · rintro a; exact hexM_e0 _ _ _
  · intro l H s h; simp only [hexM] at h ⊢; unfold hexM_D at h; split at h <;> first | (cases h; rfl) | cases h
  · rintro q r <;> rfl

/-! function 225 -/
def lenM_E (a : ((List Int) × ByteArray × Int)) : List AV × Heap := (fun (l : List Int) (r : ByteArray) (m : Int) => (([.ptr (.o 0) 0], ⟨[.cells [.arr .u32 8 l, .v (.string r) false, .v (.int .i64 m) false] 126], []⟩) : List AV × Heap)) a.1 a.2.1 a.2.2
def lenM_D : List AV → Heap → Option (((List Int) × ByteArray × Int))
  | [.ptr (.o 0) 0], ⟨[.cells [.arr .u32 8 l, .v (.string r) false, .v (.int .i64 m) false] 126], []⟩ => some (l, r, m)
  | _, _ => none
def lenM_O : ((List Int) × ByteArray × Int) → (Int) → AV × Heap
  | q, r => (fun (l : List Int) (r : ByteArray) (m : Int) (k : Int) => ((.v (.int .i64 k) false, ⟨[.cells [.arr .u32 8 l, .v (.string r) false, .v (.int .i64 m) false] 126], []⟩) : AV × Heap)) q.1 q.2.1 q.2.2 r
def lenM_B : ((List Int) × ByteArray × Int) → (Int) → T (AV × Heap)
  | q, r => (.leaf ((fun (l : List Int) (r : ByteArray) (m : Int) (k : Int) => ((.v (.int .i64 k) false, ⟨[.cells [.arr .u32 8 l, .v (.string r) false, .v (.int .i64 m) false] 126], []⟩) : AV × Heap)) q.1 q.2.1 q.2.2 (r)))
noncomputable def lenM_t : ((List Int) × ByteArray × Int) → T ((Int))
  | (l, r, m) => (.leaf (m))
noncomputable def lenM : Eng.Fun (((List Int) × ByteArray × Int)) ((Int)) := ⟨lenM_E, lenM_D, lenM_O, lenM_B, lenM_t, default⟩
theorem lenM_e0 (l : List Int) (r : ByteArray) (m : Int) : (body2 K0 c5b.F L0 400 [] Tryz.f225 (lenM_E (l, r, m)).1 (lenM_E (l, r, m)).2).bind (polish K0 []) = (lenM_t (l, r, m)).bind fun zz => .leaf (lenM_O (l, r, m) zz) := by kernel_rfl
theorem lenM_ok : FnOk K0 225 (fgt lenM.g) := by
  refine c5b.fn lenM (L := L0) 400 [] [] (fn := Tryz.f225) Tryz.func225 (b := _) (by exact rfl) L0_ok ?_ ?_ ?_
  · rintro a; exact lenM_e0 _ _ _
  · intro l H s h; simp only [lenM] at h ⊢; unfold lenM_D at h; split at h <;> first | (cases h; rfl) | cases h
  · rintro q r <;> rfl

noncomputable def c5c : Con := (c5b.add 51 hexM hexM_ok).add 225 lenM lenM_ok
/-! function 27 -/
def hex_E (a : (ByteArray)) : List AV × Heap := (fun (s : ByteArray) => (([.v (.string s) false], ⟨[], []⟩) : List AV × Heap)) a
def hex_D : List AV → Heap → Option ((ByteArray))
  | [.v (.string s) false], ⟨[], []⟩ => some s
  | _, _ => none
def hex_O : (ByteArray) → (ByteArray) → AV × Heap
  | q, r => (fun (s : ByteArray) (t : ByteArray) => ((.v (.string t) false, ⟨[], []⟩) : AV × Heap)) q r
def hex_B : (ByteArray) → (ByteArray) → T (AV × Heap)
  | q, r => (.leaf ((fun (s : ByteArray) (t : ByteArray) => ((.v (.string t) false, ⟨[], []⟩) : AV × Heap)) q (r)))
noncomputable def hex_t : (ByteArray) → T ((ByteArray))
  | s => (.br (newHash.ok PUnit.unit) (.seq (newHash.res PUnit.unit) fun v1 => (.br (write.ok (s, v1.fst, v1.snd.fst, v1.snd.snd)) (.seq (write.res (s, v1.fst, v1.snd.fst, v1.snd.snd)) fun v2 => (.br (hexM.ok (v2.fst, v2.snd.fst, v2.snd.snd)) (.seq (hexM.res (v2.fst, v2.snd.fst, v2.snd.snd)) fun v3 => (.leaf (v3))) .stuck)) .stuck)) .stuck)
noncomputable def hex : Eng.Fun ((ByteArray)) ((ByteArray)) := ⟨hex_E, hex_D, hex_O, hex_B, hex_t, default⟩
theorem hex_e0 (s : ByteArray) : (body2 K0 c5c.F L0 400 [] Tryz.f27 (hex_E s).1 (hex_E s).2).bind (polish K0 []) = (hex_t s).bind fun zz => .leaf (hex_O s zz) := by kernel_rfl
theorem hex_ok : FnOk K0 27 (fgt hex.g) := by
  refine c5c.fn hex (L := L0) 400 [] [] (fn := Tryz.f27) Tryz.func27 (b := _) (by exact rfl) L0_ok ?_ ?_ ?_
  · rintro a; exact hex_e0 _
  · intro l H s h; simp only [hex] at h ⊢; unfold hex_D at h; split at h <;> first | (cases h; rfl) | cases h
  · rintro q r <;> rfl

noncomputable def c5 : Con := c5c.add 27 hex hex_ok

end Go.Proofs.YtcmnnggpeloanaaGreatDoor

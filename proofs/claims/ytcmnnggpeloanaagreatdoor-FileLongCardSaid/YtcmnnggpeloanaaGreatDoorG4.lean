/- Contracts of functions of the program, printed by a program of this session and proved by the kernel, or plain laws about them: part G4. No condition. -/
import Derived.Test.YtcmnnggpeloanaaGreatDoorG3
namespace Go.Proofs.YtcmnnggpeloanaaGreatDoor
open Eng Go
set_option maxRecDepth 100000

noncomputable def cx : Con := c3.add 109 rot rot_ok

/-! function 74, loop 0 -/
def adA_E (p : (ByteArray × (List Int) × ByteArray × Int)) (a : (Int × (List Int))) : List AV × Heap := (fun (s : ByteArray) (l : List Int) (r : ByteArray) (m : Int) (t : Int) (w : List Int) => (([.ptr (.o 0) 0, .v (.string s) false, .ptr (.n 0) 0, .v (.int .i64 t) false], ⟨[.cells [.arr .u32 8 l, .v (.string r) false, .v (.int .i64 m) false] 126], [.cells [.arr .u32 64 w] 179]⟩) : List AV × Heap)) p.1 p.2.1 p.2.2.1 p.2.2.2 a.1 a.2
def adA_D : List AV → Heap → Option (((ByteArray × (List Int) × ByteArray × Int)) × ((Int × (List Int))))
  | [.ptr (.o 0) 0, .v (.string s) false, .ptr (.n 0) 0, .v (.int .i64 t) false], ⟨[.cells [.arr .u32 8 l, .v (.string r) false, .v (.int .i64 m) false] 126], [.cells [.arr .u32 64 w] 179]⟩ => some ((s, l, r, m), (t, w))
  | _, _ => none
def adA_O : (ByteArray × (List Int) × ByteArray × Int) → (Int × (List Int)) → X × List AV × Heap
  | q, r => (fun (s : ByteArray) (l : List Int) (r : ByteArray) (m : Int) (t : Int) (w : List Int) => ((X.exit 0, [.ptr (.o 0) 0, .v (.string s) false, .ptr (.n 0) 0, .v (.int .i64 t) false], ⟨[.cells [.arr .u32 8 l, .v (.string r) false, .v (.int .i64 m) false] 126], [.cells [.arr .u32 64 w] 179]⟩) : X × List AV × Heap)) q.1 q.2.1 q.2.2.1 q.2.2.2 r.1 r.2
def adA_B : (ByteArray × (List Int) × ByteArray × Int) → (Int × (List Int)) → T (X × List AV × Heap)
  | q, r => (.leaf ((fun (s : ByteArray) (l : List Int) (r : ByteArray) (m : Int) (t : Int) (w : List Int) => ((X.exit 0, [.ptr (.o 0) 0, .v (.string s) false, .ptr (.n 0) 0, .v (.int .i64 t) false], ⟨[.cells [.arr .u32 8 l, .v (.string r) false, .v (.int .i64 m) false] 126], [.cells [.arr .u32 64 w] 179]⟩) : X × List AV × Heap)) q.1 q.2.1 q.2.2.1 q.2.2.2 (r).1 (r).2))
noncomputable def adA_t : (ByteArray × (List Int) × ByteArray × Int) → (Int × (List Int)) → T (((Int × (List Int))) ⊕ ((Int × (List Int))))
  | (s, l, r, m), (t, w) => (.br (decide (t < (16 : Int))) (.br (decide ((0 : Int) ≤ IntKind.i64.wrap ((4 : Int) * t) ∧ IntKind.i64.wrap ((4 : Int) * t) < (↑s.size : Int))) (.br (decide ((0 : Int) ≤ IntKind.i64.wrap (IntKind.i64.wrap ((4 : Int) * t) + (1 : Int)) ∧ IntKind.i64.wrap (IntKind.i64.wrap ((4 : Int) * t) + (1 : Int)) < (↑s.size : Int))) (.br (decide ((0 : Int) ≤ IntKind.i64.wrap (IntKind.i64.wrap ((4 : Int) * t) + (2 : Int)) ∧ IntKind.i64.wrap (IntKind.i64.wrap ((4 : Int) * t) + (2 : Int)) < (↑s.size : Int))) (.br (decide ((0 : Int) ≤ IntKind.i64.wrap (IntKind.i64.wrap ((4 : Int) * t) + (3 : Int)) ∧ IntKind.i64.wrap (IntKind.i64.wrap ((4 : Int) * t) + (3 : Int)) < (↑s.size : Int))) (.br (decide ((0 : Int) ≤ t ∧ t < (64 : Int))) (.br (decide (t.toNat < (64 : Nat))) (.leaf (Sum.inl (IntKind.i64.wrap (t + (1 : Int)), w.set t.toNat (IntKind.u32.wrap (↑(BitVec.ofInt (32 : Nat) (IntKind.u32.wrap (↑(BitVec.ofInt (32 : Nat) (IntKind.u32.wrap (↑(BitVec.ofInt (32 : Nat) (IntKind.u32.wrap (IntKind.u32.wrap (↑(s.data.getD (IntKind.i64.wrap ((4 : Int) * t)).toNat (0 : UInt8)).toNat : Int) * (16777216 : Int))) ||| BitVec.ofInt (32 : Nat) (IntKind.u32.wrap (IntKind.u32.wrap (↑(s.data.getD (IntKind.i64.wrap (IntKind.i64.wrap ((4 : Int) * t) + (1 : Int))).toNat (0 : UInt8)).toNat : Int) * (65536 : Int)))).toNat : Int)) ||| BitVec.ofInt (32 : Nat) (IntKind.u32.wrap (IntKind.u32.wrap (↑(s.data.getD (IntKind.i64.wrap (IntKind.i64.wrap ((4 : Int) * t) + (2 : Int))).toNat (0 : UInt8)).toNat : Int) * (256 : Int)))).toNat : Int)) ||| BitVec.ofInt (32 : Nat) (IntKind.u32.wrap (↑(s.data.getD (IntKind.i64.wrap (IntKind.i64.wrap ((4 : Int) * t) + (3 : Int))).toNat (0 : UInt8)).toNat : Int))).toNat : Int))))) .stuck) .stuck) .stuck) .stuck) .stuck) .stuck) (.leaf (Sum.inr (t, w))))
noncomputable def adA : Eng.Loop ((ByteArray × (List Int) × ByteArray × Int)) ((Int × (List Int))) ((Int × (List Int))) := ⟨adA_E, adA_D, adA_O, adA_B, adA_t, fun (s, l, r, m) (t, w) => (16 - t).toNat + 1, default⟩
noncomputable def adA_S : LSpec := adA.spec 196 ⟨[0,1,4,22], []⟩
theorem adA_e0 (L : Tab) (s : ByteArray) (l : List Int) (r : ByteArray) (m : Int) (t : Int) (w : List Int) : round K0 cx.F L ⟨[0,1,4,22], []⟩ 196 200 (lp Tryz.f74 0) (adA_E (s, l, r, m) (t, w)) = (adA_t (s, l, r, m) (t, w)).bind fun zz => .leaf (adA.endOf (s, l, r, m) zz) := by kernel_rfl
theorem adA_lok (L : Tab) (hL : L (codeKey (lp Tryz.f74 0)) = some adA_S) (hin : ∀ b ∈ loopsOf (lp Tryz.f74 0), ∀ s, L (codeKey b) = some s → LOk K0 cx.F L s b) : LOk K0 cx.F L adA_S (lp Tryz.f74 0) := by
  refine adA.lok (n := 200) hL hin ?_ ?_ ?_ ?_
  · rintro p a; exact adA_e0 L _ _ _ _ _ _
  · intro l H s h; simp only [adA] at h ⊢; unfold adA_D at h; split at h <;> first | (cases h; rfl) | cases h
  · rintro p r h <;> cases h
  · rintro p r <;> rfl

/-! function 74, loop 1 -/
def adB_E (p : ((List Int) × ByteArray × Int)) (a : (Int × (List Int))) : List AV × Heap := (fun (l : List Int) (r : ByteArray) (m : Int) (t : Int) (w : List Int) => (([.ptr (.o 0) 0, .ptr (.n 0) 0, .v (.int .i64 t) false], ⟨[.cells [.arr .u32 8 l, .v (.string r) false, .v (.int .i64 m) false] 126], [.cells [.arr .u32 64 w] 179]⟩) : List AV × Heap)) p.1 p.2.1 p.2.2 a.1 a.2
def adB_D : List AV → Heap → Option ((((List Int) × ByteArray × Int)) × ((Int × (List Int))))
  | [.ptr (.o 0) 0, .ptr (.n 0) 0, .v (.int .i64 t) false], ⟨[.cells [.arr .u32 8 l, .v (.string r) false, .v (.int .i64 m) false] 126], [.cells [.arr .u32 64 w] 179]⟩ => some ((l, r, m), (t, w))
  | _, _ => none
def adB_O : ((List Int) × ByteArray × Int) → (Int × (List Int)) → X × List AV × Heap
  | q, r => (fun (l : List Int) (r : ByteArray) (m : Int) (t : Int) (w : List Int) => ((X.exit 2, [.ptr (.o 0) 0, .ptr (.n 0) 0, .v (.int .i64 t) false], ⟨[.cells [.arr .u32 8 l, .v (.string r) false, .v (.int .i64 m) false] 126], [.cells [.arr .u32 64 w] 179]⟩) : X × List AV × Heap)) q.1 q.2.1 q.2.2 r.1 r.2
def adB_B : ((List Int) × ByteArray × Int) → (Int × (List Int)) → T (X × List AV × Heap)
  | q, r => (.leaf ((fun (l : List Int) (r : ByteArray) (m : Int) (t : Int) (w : List Int) => ((X.exit 2, [.ptr (.o 0) 0, .ptr (.n 0) 0, .v (.int .i64 t) false], ⟨[.cells [.arr .u32 8 l, .v (.string r) false, .v (.int .i64 m) false] 126], [.cells [.arr .u32 64 w] 179]⟩) : X × List AV × Heap)) q.1 q.2.1 q.2.2 (r).1 (r).2))
noncomputable def adB_t : ((List Int) × ByteArray × Int) → (Int × (List Int)) → T (((Int × (List Int))) ⊕ ((Int × (List Int))))
  | (l, r, m), (t, w) => (.br (decide (t < (64 : Int))) (.br (decide ((0 : Int) ≤ IntKind.i64.wrap (t - (15 : Int)) ∧ IntKind.i64.wrap (t - (15 : Int)) < (64 : Int))) (.br (decide ((IntKind.i64.wrap (t - (15 : Int))).toNat < (64 : Nat))) (.br (decide ((0 : Int) ≤ IntKind.i64.wrap (t - (2 : Int)) ∧ IntKind.i64.wrap (t - (2 : Int)) < (64 : Int))) (.br (decide ((IntKind.i64.wrap (t - (2 : Int))).toNat < (64 : Nat))) (.br (rot.ok (w.getD (IntKind.i64.wrap (t - (15 : Int))).toNat (0 : Int), (7 : Int))) (.seq (rot.res (w.getD (IntKind.i64.wrap (t - (15 : Int))).toNat (0 : Int), (7 : Int))) fun v1 => (.br (rot.ok (w.getD (IntKind.i64.wrap (t - (15 : Int))).toNat (0 : Int), (18 : Int))) (.seq (rot.res (w.getD (IntKind.i64.wrap (t - (15 : Int))).toNat (0 : Int), (18 : Int))) fun v2 => (.br (rot.ok (w.getD (IntKind.i64.wrap (t - (2 : Int))).toNat (0 : Int), (17 : Int))) (.seq (rot.res (w.getD (IntKind.i64.wrap (t - (2 : Int))).toNat (0 : Int), (17 : Int))) fun v3 => (.br (rot.ok (w.getD (IntKind.i64.wrap (t - (2 : Int))).toNat (0 : Int), (19 : Int))) (.seq (rot.res (w.getD (IntKind.i64.wrap (t - (2 : Int))).toNat (0 : Int), (19 : Int))) fun v4 => (.br (decide ((0 : Int) ≤ IntKind.i64.wrap (t - (16 : Int)) ∧ IntKind.i64.wrap (t - (16 : Int)) < (64 : Int))) (.br (decide ((IntKind.i64.wrap (t - (16 : Int))).toNat < (64 : Nat))) (.br (decide ((0 : Int) ≤ IntKind.i64.wrap (t - (7 : Int)) ∧ IntKind.i64.wrap (t - (7 : Int)) < (64 : Int))) (.br (decide ((IntKind.i64.wrap (t - (7 : Int))).toNat < (64 : Nat))) (.br (decide ((0 : Int) ≤ t ∧ t < (64 : Int))) (.br (decide (t.toNat < (64 : Nat))) (.leaf (Sum.inl (IntKind.i64.wrap (t + (1 : Int)), w.set t.toNat (IntKind.u32.wrap (IntKind.u32.wrap (IntKind.u32.wrap (w.getD (IntKind.i64.wrap (t - (16 : Int))).toNat (0 : Int) + IntKind.u32.wrap (↑(BitVec.ofInt (32 : Nat) (IntKind.u32.wrap (↑(BitVec.ofInt (32 : Nat) v1 ^^^ BitVec.ofInt (32 : Nat) v2).toNat : Int)) ^^^ BitVec.ofInt (32 : Nat) ((w.getD (IntKind.i64.wrap (t - (15 : Int))).toNat (0 : Int)).fdiv (8 : Int))).toNat : Int)) + w.getD (IntKind.i64.wrap (t - (7 : Int))).toNat (0 : Int)) + IntKind.u32.wrap (↑(BitVec.ofInt (32 : Nat) (IntKind.u32.wrap (↑(BitVec.ofInt (32 : Nat) v3 ^^^ BitVec.ofInt (32 : Nat) v4).toNat : Int)) ^^^ BitVec.ofInt (32 : Nat) ((w.getD (IntKind.i64.wrap (t - (2 : Int))).toNat (0 : Int)).fdiv (1024 : Int))).toNat : Int)))))) .stuck) .stuck) .stuck) .stuck) .stuck) .stuck)) .stuck)) .stuck)) .stuck)) .stuck) .stuck) .stuck) .stuck) .stuck) (.leaf (Sum.inr (t, w))))
noncomputable def adB : Eng.Loop (((List Int) × ByteArray × Int)) ((Int × (List Int))) ((Int × (List Int))) := ⟨adB_E, adB_D, adB_O, adB_B, adB_t, fun (l, r, m) (t, w) => (64 - t).toNat + 1, default⟩
noncomputable def adB_S : LSpec := adB.spec 196 ⟨[0,4,6], []⟩
theorem adB_e0 (L : Tab) (l : List Int) (r : ByteArray) (m : Int) (t : Int) (w : List Int) : round K0 cx.F L ⟨[0,4,6], []⟩ 196 200 (lp Tryz.f74 1) (adB_E (l, r, m) (t, w)) = (adB_t (l, r, m) (t, w)).bind fun zz => .leaf (adB.endOf (l, r, m) zz) := by kernel_rfl
theorem adB_lok (L : Tab) (hL : L (codeKey (lp Tryz.f74 1)) = some adB_S) (hin : ∀ b ∈ loopsOf (lp Tryz.f74 1), ∀ s, L (codeKey b) = some s → LOk K0 cx.F L s b) : LOk K0 cx.F L adB_S (lp Tryz.f74 1) := by
  refine adB.lok (n := 200) hL hin ?_ ?_ ?_ ?_
  · rintro p a; exact adB_e0 L _ _ _ _ _
  · intro l H s h; simp only [adB] at h ⊢; unfold adB_D at h; split at h <;> first | (cases h; rfl) | cases h
  · rintro p r h <;> cases h
  · rintro p r <;> rfl

/-! function 74, loop 2 -/
def adC_E (p : ((List Int) × ByteArray × Int × (List Int))) (a : (Int × (List Int))) : List AV × Heap := (fun (l : List Int) (r : ByteArray) (m : Int) (w : List Int) (t : Int) (v : List Int) => (([.ptr (.o 0) 0, .ptr (.n 0) 0, .ptr (.n 1) 0, .v (.int .i64 t) false], ⟨[.cells [.arr .u32 8 l, .v (.string r) false, .v (.int .i64 m) false] 126], [.cells [.arr .u32 64 w] 179, .cells [.arr .u32 8 v] 123]⟩) : List AV × Heap)) p.1 p.2.1 p.2.2.1 p.2.2.2 a.1 a.2
def adC_D : List AV → Heap → Option ((((List Int) × ByteArray × Int × (List Int))) × ((Int × (List Int))))
  | [.ptr (.o 0) 0, .ptr (.n 0) 0, .ptr (.n 1) 0, .v (.int .i64 t) false], ⟨[.cells [.arr .u32 8 l, .v (.string r) false, .v (.int .i64 m) false] 126], [.cells [.arr .u32 64 w] 179, .cells [.arr .u32 8 v] 123]⟩ => some ((l, r, m, w), (t, v))
  | _, _ => none
def adC_O : ((List Int) × ByteArray × Int × (List Int)) → (Int × (List Int)) → X × List AV × Heap
  | q, r => (fun (l : List Int) (r : ByteArray) (m : Int) (w : List Int) (t : Int) (v : List Int) => ((X.exit 4, [.ptr (.o 0) 0, .ptr (.n 0) 0, .ptr (.n 1) 0, .v (.int .i64 t) false], ⟨[.cells [.arr .u32 8 l, .v (.string r) false, .v (.int .i64 m) false] 126], [.cells [.arr .u32 64 w] 179, .cells [.arr .u32 8 v] 123]⟩) : X × List AV × Heap)) q.1 q.2.1 q.2.2.1 q.2.2.2 r.1 r.2
def adC_B : ((List Int) × ByteArray × Int × (List Int)) → (Int × (List Int)) → T (X × List AV × Heap)
  | q, r => (.leaf ((fun (l : List Int) (r : ByteArray) (m : Int) (w : List Int) (t : Int) (v : List Int) => ((X.exit 4, [.ptr (.o 0) 0, .ptr (.n 0) 0, .ptr (.n 1) 0, .v (.int .i64 t) false], ⟨[.cells [.arr .u32 8 l, .v (.string r) false, .v (.int .i64 m) false] 126], [.cells [.arr .u32 64 w] 179, .cells [.arr .u32 8 v] 123]⟩) : X × List AV × Heap)) q.1 q.2.1 q.2.2.1 q.2.2.2 (r).1 (r).2))
noncomputable def adC_t : ((List Int) × ByteArray × Int × (List Int)) → (Int × (List Int)) → T (((Int × (List Int))) ⊕ ((Int × (List Int))))
  | (l, r, m, w), (t, v) => (.br (decide (t < (64 : Int))) (.br (rot.ok (v.getD (4 : Nat) (0 : Int), (6 : Int))) (.seq (rot.res (v.getD (4 : Nat) (0 : Int), (6 : Int))) fun v1 => (.br (rot.ok (v.getD (4 : Nat) (0 : Int), (11 : Int))) (.seq (rot.res (v.getD (4 : Nat) (0 : Int), (11 : Int))) fun v2 => (.br (rot.ok (v.getD (4 : Nat) (0 : Int), (25 : Int))) (.seq (rot.res (v.getD (4 : Nat) (0 : Int), (25 : Int))) fun v3 => (.br (decide ((0 : Int) ≤ t ∧ t < (64 : Int))) (.br (decide (t.toNat < (64 : Nat))) (.br (decide ((0 : Int) ≤ t ∧ t < (64 : Int))) (.br (decide (t.toNat < (64 : Nat))) (.br (rot.ok (v.getD (0 : Nat) (0 : Int), (2 : Int))) (.seq (rot.res (v.getD (0 : Nat) (0 : Int), (2 : Int))) fun v4 => (.br (rot.ok (v.getD (0 : Nat) (0 : Int), (13 : Int))) (.seq (rot.res (v.getD (0 : Nat) (0 : Int), (13 : Int))) fun v5 => (.br (rot.ok (v.getD (0 : Nat) (0 : Int), (22 : Int))) (.seq (rot.res (v.getD (0 : Nat) (0 : Int), (22 : Int))) fun v6 => (.leaf (Sum.inl (IntKind.i64.wrap (t + (1 : Int)), [IntKind.u32.wrap (IntKind.u32.wrap (IntKind.u32.wrap (IntKind.u32.wrap (IntKind.u32.wrap (v.getD (7 : Nat) (0 : Int) + IntKind.u32.wrap (↑(BitVec.ofInt (32 : Nat) (IntKind.u32.wrap (↑(BitVec.ofInt (32 : Nat) v1 ^^^ BitVec.ofInt (32 : Nat) v2).toNat : Int)) ^^^ BitVec.ofInt (32 : Nat) v3).toNat : Int)) + IntKind.u32.wrap (↑(BitVec.ofInt (32 : Nat) (IntKind.u32.wrap (↑(BitVec.ofInt (32 : Nat) (v.getD (4 : Nat) (0 : Int)) &&& BitVec.ofInt (32 : Nat) (v.getD (5 : Nat) (0 : Int))).toNat : Int)) ^^^ BitVec.ofInt (32 : Nat) (IntKind.u32.wrap (↑(BitVec.ofInt (32 : Nat) (IntKind.u32.wrap (↑(BitVec.ofInt (32 : Nat) (4294967295 : Int) ^^^ BitVec.ofInt (32 : Nat) (v.getD (4 : Nat) (0 : Int))).toNat : Int)) &&& BitVec.ofInt (32 : Nat) (v.getD (6 : Nat) (0 : Int))).toNat : Int))).toNat : Int)) + shaC.getD t.toNat (0 : Int)) + w.getD t.toNat (0 : Int)) + IntKind.u32.wrap (IntKind.u32.wrap (↑(BitVec.ofInt (32 : Nat) (IntKind.u32.wrap (↑(BitVec.ofInt (32 : Nat) v4 ^^^ BitVec.ofInt (32 : Nat) v5).toNat : Int)) ^^^ BitVec.ofInt (32 : Nat) v6).toNat : Int) + IntKind.u32.wrap (↑(BitVec.ofInt (32 : Nat) (IntKind.u32.wrap (↑(BitVec.ofInt (32 : Nat) (IntKind.u32.wrap (↑(BitVec.ofInt (32 : Nat) (v.getD (0 : Nat) (0 : Int)) &&& BitVec.ofInt (32 : Nat) (v.getD (1 : Nat) (0 : Int))).toNat : Int)) ^^^ BitVec.ofInt (32 : Nat) (IntKind.u32.wrap (↑(BitVec.ofInt (32 : Nat) (v.getD (0 : Nat) (0 : Int)) &&& BitVec.ofInt (32 : Nat) (v.getD (2 : Nat) (0 : Int))).toNat : Int))).toNat : Int)) ^^^ BitVec.ofInt (32 : Nat) (IntKind.u32.wrap (↑(BitVec.ofInt (32 : Nat) (v.getD (1 : Nat) (0 : Int)) &&& BitVec.ofInt (32 : Nat) (v.getD (2 : Nat) (0 : Int))).toNat : Int))).toNat : Int))), v.getD (0 : Nat) (0 : Int), v.getD (1 : Nat) (0 : Int), v.getD (2 : Nat) (0 : Int), IntKind.u32.wrap (v.getD (3 : Nat) (0 : Int) + IntKind.u32.wrap (IntKind.u32.wrap (IntKind.u32.wrap (IntKind.u32.wrap (v.getD (7 : Nat) (0 : Int) + IntKind.u32.wrap (↑(BitVec.ofInt (32 : Nat) (IntKind.u32.wrap (↑(BitVec.ofInt (32 : Nat) v1 ^^^ BitVec.ofInt (32 : Nat) v2).toNat : Int)) ^^^ BitVec.ofInt (32 : Nat) v3).toNat : Int)) + IntKind.u32.wrap (↑(BitVec.ofInt (32 : Nat) (IntKind.u32.wrap (↑(BitVec.ofInt (32 : Nat) (v.getD (4 : Nat) (0 : Int)) &&& BitVec.ofInt (32 : Nat) (v.getD (5 : Nat) (0 : Int))).toNat : Int)) ^^^ BitVec.ofInt (32 : Nat) (IntKind.u32.wrap (↑(BitVec.ofInt (32 : Nat) (IntKind.u32.wrap (↑(BitVec.ofInt (32 : Nat) (4294967295 : Int) ^^^ BitVec.ofInt (32 : Nat) (v.getD (4 : Nat) (0 : Int))).toNat : Int)) &&& BitVec.ofInt (32 : Nat) (v.getD (6 : Nat) (0 : Int))).toNat : Int))).toNat : Int)) + shaC.getD t.toNat (0 : Int)) + w.getD t.toNat (0 : Int))), v.getD (4 : Nat) (0 : Int), v.getD (5 : Nat) (0 : Int), v.getD (6 : Nat) (0 : Int)])))) .stuck)) .stuck)) .stuck) .stuck) .stuck) .stuck) .stuck)) .stuck)) .stuck)) .stuck) (.leaf (Sum.inr (t, v))))
noncomputable def adC : Eng.Loop (((List Int) × ByteArray × Int × (List Int))) ((Int × (List Int))) ((Int × (List Int))) := ⟨adC_E, adC_D, adC_O, adC_B, adC_t, fun (l, r, m, w) (t, v) => (64 - t).toNat + 1, default⟩
noncomputable def adC_S : LSpec := adC.spec 196 ⟨[0,4,11,103], []⟩
theorem adC_e0 (L : Tab) (l : List Int) (r : ByteArray) (m : Int) (w : List Int) (t : Int) (v : List Int) : round K0 cx.F L ⟨[0,4,11,103], []⟩ 196 200 (lp Tryz.f74 2) (adC_E (l, r, m, w) (t, v)) = (adC_t (l, r, m, w) (t, v)).bind fun zz => .leaf (adC.endOf (l, r, m, w) zz) := by kernel_rfl
theorem adC_lok (L : Tab) (hL : L (codeKey (lp Tryz.f74 2)) = some adC_S) (hin : ∀ b ∈ loopsOf (lp Tryz.f74 2), ∀ s, L (codeKey b) = some s → LOk K0 cx.F L s b) : LOk K0 cx.F L adC_S (lp Tryz.f74 2) := by
  refine adC.lok (n := 200) hL hin ?_ ?_ ?_ ?_
  · rintro p a; exact adC_e0 L _ _ _ _ _ _
  · intro l H s h; simp only [adC] at h ⊢; unfold adC_D at h; split at h <;> first | (cases h; rfl) | cases h
  · rintro p r h <;> cases h
  · rintro p r <;> rfl

/-! function 74, loop 3 -/
def adD_E (p : (ByteArray × Int × (List Int))) (a : (Int × (List Int))) : List AV × Heap := (fun (r : ByteArray) (m : Int) (v : List Int) (t : Int) (l : List Int) => (([.ptr (.o 0) 0, .ptr (.n 0) 0, .v (.int .i64 t) false], ⟨[.cells [.arr .u32 8 l, .v (.string r) false, .v (.int .i64 m) false] 126], [.cells [.arr .u32 8 v] 123]⟩) : List AV × Heap)) p.1 p.2.1 p.2.2 a.1 a.2
def adD_D : List AV → Heap → Option (((ByteArray × Int × (List Int))) × ((Int × (List Int))))
  | [.ptr (.o 0) 0, .ptr (.n 0) 0, .v (.int .i64 t) false], ⟨[.cells [.arr .u32 8 l, .v (.string r) false, .v (.int .i64 m) false] 126], [.cells [.arr .u32 8 v] 123]⟩ => some ((r, m, v), (t, l))
  | _, _ => none
def adD_O : (ByteArray × Int × (List Int)) → (Int × (List Int)) → X × List AV × Heap
  | q, r => (fun (r : ByteArray) (m : Int) (v : List Int) (t : Int) (l : List Int) => ((X.exit 6, [.ptr (.o 0) 0, .ptr (.n 0) 0, .v (.int .i64 t) false], ⟨[.cells [.arr .u32 8 l, .v (.string r) false, .v (.int .i64 m) false] 126], [.cells [.arr .u32 8 v] 123]⟩) : X × List AV × Heap)) q.1 q.2.1 q.2.2 r.1 r.2
def adD_B : (ByteArray × Int × (List Int)) → (Int × (List Int)) → T (X × List AV × Heap)
  | q, r => (.leaf ((fun (r : ByteArray) (m : Int) (v : List Int) (t : Int) (l : List Int) => ((X.exit 6, [.ptr (.o 0) 0, .ptr (.n 0) 0, .v (.int .i64 t) false], ⟨[.cells [.arr .u32 8 l, .v (.string r) false, .v (.int .i64 m) false] 126], [.cells [.arr .u32 8 v] 123]⟩) : X × List AV × Heap)) q.1 q.2.1 q.2.2 (r).1 (r).2))
noncomputable def adD_t : (ByteArray × Int × (List Int)) → (Int × (List Int)) → T (((Int × (List Int))) ⊕ ((Int × (List Int))))
  | (r, m, v), (t, l) => (.br (decide (t < (8 : Int))) (.br (decide ((0 : Int) ≤ t ∧ t < (8 : Int))) (.br (decide (t.toNat < (8 : Nat))) (.br (decide ((0 : Int) ≤ t ∧ t < (8 : Int))) (.br (decide (t.toNat < (8 : Nat))) (.br (decide ((0 : Int) ≤ t ∧ t < (8 : Int))) (.br (decide (t.toNat < (8 : Nat))) (.leaf (Sum.inl (IntKind.i64.wrap (t + (1 : Int)), l.set t.toNat (IntKind.u32.wrap (l.getD t.toNat (0 : Int) + v.getD t.toNat (0 : Int)))))) .stuck) .stuck) .stuck) .stuck) .stuck) .stuck) (.leaf (Sum.inr (t, l))))
noncomputable def adD : Eng.Loop ((ByteArray × Int × (List Int))) ((Int × (List Int))) ((Int × (List Int))) := ⟨adD_E, adD_D, adD_O, adD_B, adD_t, fun (r, m, v) (t, l) => (8 - t).toNat + 1, default⟩
noncomputable def adD_S : LSpec := adD.spec 196 ⟨[0,11,181], []⟩
theorem adD_e0 (L : Tab) (r : ByteArray) (m : Int) (v : List Int) (t : Int) (l : List Int) : round K0 cx.F L ⟨[0,11,181], []⟩ 196 200 (lp Tryz.f74 3) (adD_E (r, m, v) (t, l)) = (adD_t (r, m, v) (t, l)).bind fun zz => .leaf (adD.endOf (r, m, v) zz) := by kernel_rfl
theorem adD_lok (L : Tab) (hL : L (codeKey (lp Tryz.f74 3)) = some adD_S) (hin : ∀ b ∈ loopsOf (lp Tryz.f74 3), ∀ s, L (codeKey b) = some s → LOk K0 cx.F L s b) : LOk K0 cx.F L adD_S (lp Tryz.f74 3) := by
  refine adD.lok (n := 200) hL hin ?_ ?_ ?_ ?_
  · rintro p a; exact adD_e0 L _ _ _ _ _
  · intro l H s h; simp only [adD] at h ⊢; unfold adD_D at h; split at h <;> first | (cases h; rfl) | cases h
  · rintro p r h <;> cases h
  · rintro p r <;> rfl

noncomputable def LT74 : Tab := fun k => if k = 3 then some adA_S else if k = 8 then some adB_S else if k = 16 then some adC_S else if k = 24 then some adD_S else none
theorem LT74_k0 : codeKey (lp Tryz.f74 0) = 3 := by kernel_rfl
theorem LT74_i0 : loopsOf (lp Tryz.f74 0) = [] := by kernel_rfl
theorem LT74_l0 : LOk K0 cx.F LT74 adA_S (lp Tryz.f74 0) := by
  refine adA_lok LT74 (by rw [LT74_k0]; rfl) ?_
  intro b hb s hs
  rw [LT74_i0] at hb
  cases hb
theorem LT74_k1 : codeKey (lp Tryz.f74 1) = 8 := by kernel_rfl
theorem LT74_i1 : loopsOf (lp Tryz.f74 1) = [] := by kernel_rfl
theorem LT74_l1 : LOk K0 cx.F LT74 adB_S (lp Tryz.f74 1) := by
  refine adB_lok LT74 (by rw [LT74_k1]; rfl) ?_
  intro b hb s hs
  rw [LT74_i1] at hb
  cases hb
theorem LT74_k2 : codeKey (lp Tryz.f74 2) = 16 := by kernel_rfl
theorem LT74_i2 : loopsOf (lp Tryz.f74 2) = [] := by kernel_rfl
theorem LT74_l2 : LOk K0 cx.F LT74 adC_S (lp Tryz.f74 2) := by
  refine adC_lok LT74 (by rw [LT74_k2]; rfl) ?_
  intro b hb s hs
  rw [LT74_i2] at hb
  cases hb
theorem LT74_k3 : codeKey (lp Tryz.f74 3) = 24 := by kernel_rfl
theorem LT74_i3 : loopsOf (lp Tryz.f74 3) = [] := by kernel_rfl
theorem LT74_l3 : LOk K0 cx.F LT74 adD_S (lp Tryz.f74 3) := by
  refine adD_lok LT74 (by rw [LT74_k3]; rfl) ?_
  intro b hb s hs
  rw [LT74_i3] at hb
  cases hb
theorem LT74_ok {b : Code} (hb : Tryz.f74.body = some b) : ∀ a ∈ loopsOf b, ∀ s, LT74 (codeKey a) = some s → LOk K0 cx.F LT74 s a := by
  have e : loopsOf (Tryz.f74.body.getD .skip) = [lp Tryz.f74 0, lp Tryz.f74 1, lp Tryz.f74 2, lp Tryz.f74 3] := by kernel_rfl
  rw [hb] at e
  intro b hb s hs
  simp only [Option.getD_some] at e
  rw [e] at hb
  simp only [List.mem_cons, List.not_mem_nil, or_false] at hb
  rcases hb with rfl | rfl | rfl | rfl
  · rw [LT74_k0] at hs
    simp only [LT74] at hs
    cases hs
    exact LT74_l0
  · rw [LT74_k1] at hs
    simp only [LT74] at hs
    cases hs
    exact LT74_l1
  · rw [LT74_k2] at hs
    simp only [LT74] at hs
    cases hs
    exact LT74_l2
  · rw [LT74_k3] at hs
    simp only [LT74] at hs
    cases hs
    exact LT74_l3

/-! function 74 -/
def add_E (a : (ByteArray × (List Int) × ByteArray × Int)) : List AV × Heap := (fun (s : ByteArray) (l : List Int) (r : ByteArray) (m : Int) => (([.ptr (.o 0) 0, .v (.string s) false], ⟨[.cells [.arr .u32 8 l, .v (.string r) false, .v (.int .i64 m) false] 126], []⟩) : List AV × Heap)) a.1 a.2.1 a.2.2.1 a.2.2.2
def add_D : List AV → Heap → Option ((ByteArray × (List Int) × ByteArray × Int))
  | [.ptr (.o 0) 0, .v (.string s) false], ⟨[.cells [.arr .u32 8 l, .v (.string r) false, .v (.int .i64 m) false] 126], []⟩ => some (s, l, r, m)
  | _, _ => none
def add_O : (ByteArray × (List Int) × ByteArray × Int) → ((List Int)) → AV × Heap
  | q, r => (fun (s : ByteArray) (l : List Int) (r : ByteArray) (m : Int) (z : List Int) => ((.tup [], ⟨[.cells [.arr .u32 8 z, .v (.string r) false, .v (.int .i64 m) false] 126], []⟩) : AV × Heap)) q.1 q.2.1 q.2.2.1 q.2.2.2 r
def add_B : (ByteArray × (List Int) × ByteArray × Int) → ((List Int)) → T (AV × Heap)
  | q, r => (.leaf ((fun (s : ByteArray) (l : List Int) (r : ByteArray) (m : Int) (z : List Int) => ((.tup [], ⟨[.cells [.arr .u32 8 z, .v (.string r) false, .v (.int .i64 m) false] 126], []⟩) : AV × Heap)) q.1 q.2.1 q.2.2.1 q.2.2.2 (r)))
noncomputable def add_t : (ByteArray × (List Int) × ByteArray × Int) → T (((List Int)))
  | (s, l, r, m) => (.br (adA.ok (s, l, r, m) ((0 : Int), List.replicate (64 : Nat) (0 : Int))) (.seq (adA.res (s, l, r, m) ((0 : Int), List.replicate (64 : Nat) (0 : Int))) fun v1 => (.br (adB.ok (l, r, m) ((16 : Int), v1.snd)) (.seq (adB.res (l, r, m) ((16 : Int), v1.snd)) fun v2 => (.br (adC.ok (l, r, m, v2.snd) ((0 : Int), l)) (.seq (adC.res (l, r, m, v2.snd) ((0 : Int), l)) fun v3 => (.br (adD.ok (r, m, v3.snd) ((0 : Int), l)) (.seq (adD.res (r, m, v3.snd) ((0 : Int), l)) fun v4 => (.leaf (v4.snd))) .stuck)) .stuck)) .stuck)) .stuck)
noncomputable def add : Eng.Fun ((ByteArray × (List Int) × ByteArray × Int)) (((List Int))) := ⟨add_E, add_D, add_O, add_B, add_t, default⟩
theorem add_e0 (s : ByteArray) (l : List Int) (r : ByteArray) (m : Int) : (body2 K0 cx.F LT74 400 [] Tryz.f74 (add_E (s, l, r, m)).1 (add_E (s, l, r, m)).2).bind (polish K0 []) = (add_t (s, l, r, m)).bind fun zz => .leaf (add_O (s, l, r, m) zz) := by kernel_rfl
theorem add_ok : FnOk K0 74 (fgt add.g) := by
  refine cx.fn add (L := LT74) 400 [] [] (fn := Tryz.f74) Tryz.func74 (b := _) (by exact rfl) (LT74_ok rfl) ?_ ?_ ?_
  · rintro a; exact add_e0 _ _ _ _
  · intro l H s h; simp only [add] at h ⊢; unfold add_D at h; split at h <;> first | (cases h; rfl) | cases h
  · rintro q r <;> rfl

/-! function 73 -/
def begin_E (a : (Unit)) : List AV × Heap := (([], ⟨[], []⟩) : List AV × Heap) 
def begin_D : List AV → Heap → Option ((Unit))
  | [], ⟨[], []⟩ => some ()
  | _, _ => none
def begin_O : (Unit) → ((List Int)) → AV × Heap
  | q, r => (fun (l : List Int) => ((.agg [.arr .u32 8 l], ⟨[], []⟩) : AV × Heap))  r
def begin_B : (Unit) → ((List Int)) → T (AV × Heap)
  | q, r => (.leaf ((fun (l : List Int) => ((.agg [.arr .u32 8 l], ⟨[], []⟩) : AV × Heap))  (r)))
noncomputable def begin_t : (Unit) → T (((List Int)))
  | () => (.leaf ([(1779033703 : Int), (3144134277 : Int), (1013904242 : Int), (2773480762 : Int), (1359893119 : Int), (2600822924 : Int), (528734635 : Int), (1541459225 : Int)]))
noncomputable def begin : Eng.Fun ((Unit)) (((List Int))) := ⟨begin_E, begin_D, begin_O, begin_B, begin_t, default⟩
theorem begin_e0  : (body2 K0 cx.F L0 400 [] Tryz.f73 (begin_E ()).1 (begin_E ()).2).bind (polish K0 []) = (begin_t ()).bind fun zz => .leaf (begin_O () zz) := by kernel_rfl
theorem begin_ok : FnOk K0 73 (fgt begin.g) := by
  refine cx.fn begin (L := L0) 400 [] [] (fn := Tryz.f73) Tryz.func73 (b := _) (by exact rfl) L0_ok ?_ ?_ ?_
  · rintro a; exact begin_e0 
  · intro l H s h; simp only [begin] at h ⊢; unfold begin_D at h; split at h <;> first | (cases h; rfl) | cases h
  · rintro q r <;> rfl

noncomputable def c4a : Con := (cx.add 74 add add_ok).add 73 begin begin_ok
/-! function 49 -/
def newHash_E (a : (Unit)) : List AV × Heap := (([], ⟨[], []⟩) : List AV × Heap) 
def newHash_D : List AV → Heap → Option ((Unit))
  | [], ⟨[], []⟩ => some ()
  | _, _ => none
def newHash_O : (Unit) → ((List Int) × ByteArray × Int) → AV × Heap
  | q, r => (fun (l : List Int) (r : ByteArray) (m : Int) => ((.ptr (.n 0) 0, ⟨[], [.cells [.arr .u32 8 l, .v (.string r) false, .v (.int .i64 m) false] 126]⟩) : AV × Heap))  r.1 r.2.1 r.2.2
def newHash_B : (Unit) → ((List Int) × ByteArray × Int) → T (AV × Heap)
  | q, r => (.leaf ((fun (l : List Int) (r : ByteArray) (m : Int) => ((.ptr (.n 0) 0, ⟨[], [.cells [.arr .u32 8 l, .v (.string r) false, .v (.int .i64 m) false] 126]⟩) : AV × Heap))  (r).1 (r).2.1 (r).2.2))
noncomputable def newHash_t : (Unit) → T (((List Int) × ByteArray × Int))
  | () => (.br (begin.ok PUnit.unit) (.seq (begin.res PUnit.unit) fun v1 => (.leaf ((v1, (ByteArray.mk #[]), (0 : Int))))) .stuck)
noncomputable def newHash : Eng.Fun ((Unit)) (((List Int) × ByteArray × Int)) := ⟨newHash_E, newHash_D, newHash_O, newHash_B, newHash_t, default⟩
theorem newHash_e0  : (body2 K0 c4a.F L0 400 [] Tryz.f49 (newHash_E ()).1 (newHash_E ()).2).bind (polish K0 []) = (newHash_t ()).bind fun zz => .leaf (newHash_O () zz) := by kernel_rfl
theorem newHash_ok : FnOk K0 49 (fgt newHash.g) := by
  refine c4a.fn newHash (L := L0) 400 [] [] (fn := Tryz.f49) Tryz.func49 (b := _) (by exact rfl) L0_ok ?_ ?_ ?_
  · rintro a; exact newHash_e0 
  · intro l H s h; simp only [newHash] at h ⊢; unfold newHash_D at h; split at h <;> first | (cases h; rfl) | cases h
  · rintro q r <;> rfl

noncomputable def c4 : Con := c4a.add 49 newHash newHash_ok

end Go.Proofs.YtcmnnggpeloanaaGreatDoor

/- Contracts of functions of the program, printed by a program of this session and proved by the kernel, or plain laws about them: part G2. No condition. -/
import Derived.Test.YtcmnnggpeloanaaGreatDoorG1
namespace Go.Proofs.YtcmnnggpeloanaaGreatDoor
open Eng Go
set_option maxRecDepth 100000

/-! function 109 -/
def rot_E (a : (Int × Int)) : List AV × Heap := (fun (x : Int) (n : Int) => (([.v (.int .u32 x) false, .v (.int .i64 n) false], ⟨[], []⟩) : List AV × Heap)) a.1 a.2
def rot_D : List AV → Heap → Option ((Int × Int))
  | [.v (.int .u32 x) false, .v (.int .i64 n) false], ⟨[], []⟩ => some (x, n)
  | _, _ => none
def rot_O : (Int × Int) → (Int) → AV × Heap
  | q, r => (fun (x : Int) (n : Int) (y : Int) => ((.v (.int .u32 y) false, ⟨[], []⟩) : AV × Heap)) q.1 q.2 r
def rot_B : (Int × Int) → (Int) → T (AV × Heap)
  | q, r => (.leaf ((fun (x : Int) (n : Int) (y : Int) => ((.v (.int .u32 y) false, ⟨[], []⟩) : AV × Heap)) q.1 q.2 (r)))
noncomputable def rot_t : (Int × Int) → T ((Int))
  | (x, n) => (.br (decide ((0 : Int) ≤ n)) (.br (decide ((0 : Int) ≤ IntKind.i64.wrap ((32 : Int) - n))) (.leaf (IntKind.u32.wrap (↑(BitVec.ofInt (32 : Nat) (x.fdiv ((2 : Int) ^ min n.toNat (32 : Nat))) ||| BitVec.ofInt (32 : Nat) (IntKind.u32.wrap (x * (2 : Int) ^ min (IntKind.i64.wrap ((32 : Int) - n)).toNat (32 : Nat)))).toNat : Int))) .stuck) .stuck)
noncomputable def rot : Eng.Fun ((Int × Int)) ((Int)) := ⟨rot_E, rot_D, rot_O, rot_B, rot_t, default⟩
theorem rot_e0 (x : Int) (n : Int) : (body2 K0 Con.nil.F L0 400 [] Tryz.f109 (rot_E (x, n)).1 (rot_E (x, n)).2).bind (polish K0 []) = (rot_t (x, n)).bind fun zz => .leaf (rot_O (x, n) zz) := by kernel_rfl
theorem rot_ok : FnOk K0 109 (fgt rot.g) := by
  refine Con.nil.fn rot (L := L0) 400 [] [] (fn := Tryz.f109) Tryz.func109 (b := _) (by exact rfl) L0_ok ?_ ?_ ?_
  · rintro a; exact rot_e0 _ _
  · intro l H s h; simp only [rot] at h ⊢; unfold rot_D at h; split at h <;> first | (cases h; rfl) | cases h
  · rintro q r <;> rfl

/-! function 72 -/
def pre72_E (a : (ByteArray × ByteArray)) : List AV × Heap := (fun (s : ByteArray) (t : ByteArray) => (([.v (.string s) false, .v (.string t) false], ⟨[], []⟩) : List AV × Heap)) a.1 a.2
def pre72_D : List AV → Heap → Option ((ByteArray × ByteArray))
  | [.v (.string s) false, .v (.string t) false], ⟨[], []⟩ => some (s, t)
  | _, _ => none
def pre72_O : (ByteArray × ByteArray) → (Bool) → AV × Heap
  | q, r => (fun (s : ByteArray) (t : ByteArray) (b : Bool) => ((.v (.bool b) false, ⟨[], []⟩) : AV × Heap)) q.1 q.2 r
def pre72_B : (ByteArray × ByteArray) → (Bool) → T (AV × Heap)
  | q, r => (.leaf ((fun (s : ByteArray) (t : ByteArray) (b : Bool) => ((.v (.bool b) false, ⟨[], []⟩) : AV × Heap)) q.1 q.2 (r)))
noncomputable def pre72_t : (ByteArray × ByteArray) → T ((Bool))
  | (s, t) => (.br (decide ((↑s.size : Int) ≥ (↑t.size : Int))) (.br (decide ((0 : Int) ≤ (0 : Int) ∧ (0 : Int) ≤ (↑t.size : Int) ∧ (↑t.size : Int) ≤ (↑s.size : Int))) (.leaf ((s.extract (0 : Nat) (↑t.size : Int).toNat).toList == t.toList)) .stuck) (.leaf (false)))
noncomputable def pre72 : Eng.Fun ((ByteArray × ByteArray)) ((Bool)) := ⟨pre72_E, pre72_D, pre72_O, pre72_B, pre72_t, default⟩
theorem pre72_e0 (s : ByteArray) (t : ByteArray) : (body2 K0 Con.nil.F L0 400 [] Tryz.f72 (pre72_E (s, t)).1 (pre72_E (s, t)).2).bind (polish K0 []) = (pre72_t (s, t)).bind fun zz => .leaf (pre72_O (s, t) zz) := by kernel_rfl
theorem pre72_ok : FnOk K0 72 (fgt pre72.g) := by
  refine Con.nil.fn pre72 (L := L0) 400 [] [] (fn := Tryz.f72) Tryz.func72 (b := _) (by exact rfl) L0_ok ?_ ?_ ?_
  · rintro a; exact pre72_e0 _ _
  · intro l H s h; simp only [pre72] at h ⊢; unfold pre72_D at h; split at h <;> first | (cases h; rfl) | cases h
  · rintro q r <;> rfl

/-! function 47 -/
def pre47_E (a : (ByteArray × ByteArray)) : List AV × Heap := (fun (s : ByteArray) (t : ByteArray) => (([.v (.string s) false, .v (.string t) false], ⟨[], []⟩) : List AV × Heap)) a.1 a.2
def pre47_D : List AV → Heap → Option ((ByteArray × ByteArray))
  | [.v (.string s) false, .v (.string t) false], ⟨[], []⟩ => some (s, t)
  | _, _ => none
def pre47_O : (ByteArray × ByteArray) → (Bool) → AV × Heap
  | q, r => (fun (s : ByteArray) (t : ByteArray) (b : Bool) => ((.v (.bool b) false, ⟨[], []⟩) : AV × Heap)) q.1 q.2 r
def pre47_B : (ByteArray × ByteArray) → (Bool) → T (AV × Heap)
  | q, r => (.leaf ((fun (s : ByteArray) (t : ByteArray) (b : Bool) => ((.v (.bool b) false, ⟨[], []⟩) : AV × Heap)) q.1 q.2 (r)))
noncomputable def pre47_t : (ByteArray × ByteArray) → T ((Bool))
  | (s, t) => (.br (decide ((↑s.size : Int) ≥ (↑t.size : Int))) (.br (decide ((0 : Int) ≤ (0 : Int) ∧ (0 : Int) ≤ (↑t.size : Int) ∧ (↑t.size : Int) ≤ (↑s.size : Int))) (.leaf ((s.extract (0 : Nat) (↑t.size : Int).toNat).toList == t.toList)) .stuck) (.leaf (false)))
noncomputable def pre47 : Eng.Fun ((ByteArray × ByteArray)) ((Bool)) := ⟨pre47_E, pre47_D, pre47_O, pre47_B, pre47_t, default⟩
theorem pre47_e0 (s : ByteArray) (t : ByteArray) : (body2 K0 Con.nil.F L0 400 [] Tryz.f47 (pre47_E (s, t)).1 (pre47_E (s, t)).2).bind (polish K0 []) = (pre47_t (s, t)).bind fun zz => .leaf (pre47_O (s, t) zz) := by kernel_rfl
theorem pre47_ok : FnOk K0 47 (fgt pre47.g) := by
  refine Con.nil.fn pre47 (L := L0) 400 [] [] (fn := Tryz.f47) Tryz.func47 (b := _) (by exact rfl) L0_ok ?_ ?_ ?_
  · rintro a; exact pre47_e0 _ _
  · intro l H s h; simp only [pre47] at h ⊢; unfold pre47_D at h; split at h <;> first | (cases h; rfl) | cases h
  · rintro q r <;> rfl

noncomputable def c1 : Con := Con.nil.add 72 pre72 pre72_ok
/-! function 46 -/
def pre46_E (a : (ByteArray × ByteArray)) : List AV × Heap := (fun (s : ByteArray) (t : ByteArray) => (([.v (.string s) false, .v (.string t) false], ⟨[], []⟩) : List AV × Heap)) a.1 a.2
def pre46_D : List AV → Heap → Option ((ByteArray × ByteArray))
  | [.v (.string s) false, .v (.string t) false], ⟨[], []⟩ => some (s, t)
  | _, _ => none
def pre46_O : (ByteArray × ByteArray) → (Bool) → AV × Heap
  | q, r => (fun (s : ByteArray) (t : ByteArray) (b : Bool) => ((.v (.bool b) false, ⟨[], []⟩) : AV × Heap)) q.1 q.2 r
def pre46_B : (ByteArray × ByteArray) → (Bool) → T (AV × Heap)
  | q, r => (.leaf ((fun (s : ByteArray) (t : ByteArray) (b : Bool) => ((.v (.bool b) false, ⟨[], []⟩) : AV × Heap)) q.1 q.2 (r)))
noncomputable def pre46_t : (ByteArray × ByteArray) → T ((Bool))
  | (s, t) => (.br (pre72.ok (s, t)) (.seq (pre72.res (s, t)) fun v1 => (.leaf (v1))) .stuck)
noncomputable def pre46 : Eng.Fun ((ByteArray × ByteArray)) ((Bool)) := ⟨pre46_E, pre46_D, pre46_O, pre46_B, pre46_t, default⟩
theorem pre46_e0 (s : ByteArray) (t : ByteArray) : (body2 K0 c1.F L0 400 [] Tryz.f46 (pre46_E (s, t)).1 (pre46_E (s, t)).2).bind (polish K0 []) = (pre46_t (s, t)).bind fun zz => .leaf (pre46_O (s, t) zz) := by kernel_rfl
theorem pre46_ok : FnOk K0 46 (fgt pre46.g) := by
  refine c1.fn pre46 (L := L0) 400 [] [] (fn := Tryz.f46) Tryz.func46 (b := _) (by exact rfl) L0_ok ?_ ?_ ?_
  · rintro a; exact pre46_e0 _ _
  · intro l H s h; simp only [pre46] at h ⊢; unfold pre46_D at h; split at h <;> first | (cases h; rfl) | cases h
  · rintro q r <;> rfl

noncomputable def c2 : Con := (c1.add 46 pre46 pre46_ok).add 47 pre47 pre47_ok

end Go.Proofs.YtcmnnggpeloanaaGreatDoor

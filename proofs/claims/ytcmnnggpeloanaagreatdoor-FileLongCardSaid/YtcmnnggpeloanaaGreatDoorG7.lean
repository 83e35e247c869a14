/- Contracts of functions of the program, printed by a program of this session and proved by the kernel, or plain laws about them: part G7. No condition. -/
import Derived.Test.YtcmnnggpeloanaaGreatDoorG6
namespace Go.Proofs.YtcmnnggpeloanaaGreatDoor
open Eng Go
set_option maxRecDepth 100000

noncomputable def c7 : Con := (((c6e.add 24 exWrite exWrite_ok).addG 25 (exSize.or exSizeN.g) (fn_or exSize_ok exSizeN_ok)).addG 26 (exClose.or exCloseN.g) (fn_or exClose_ok exCloseN_ok))
/-! function 19 -/
def lives_E (a : (Unit)) : List AV × Heap := (([], ⟨[], []⟩) : List AV × Heap) 
def lives_D : List AV → Heap → Option ((Unit))
  | [], ⟨[], []⟩ => some ()
  | _, _ => none
def lives_O : (Unit) → (Bool) → AV × Heap
  | q, r => (fun (b : Bool) => ((.v (.bool b) false, ⟨[], []⟩) : AV × Heap))  r
def lives_B : (Unit) → (Bool) → T (AV × Heap)
  | q, r => (.leaf ((fun (b : Bool) => ((.v (.bool b) false, ⟨[], []⟩) : AV × Heap))  (r)))
noncomputable def lives_t : (Unit) → T ((Bool))
  | () => (.br (budget.ok PUnit.unit) (.seq (budget.res PUnit.unit) fun v1 => (.br (fnew.ok ((ByteArray.mk #[(120 : UInt8)]), v1.fst, v1.snd)) (.seq (fnew.res ((ByteArray.mk #[(120 : UInt8)]), v1.fst, v1.snd)) fun v2 => (.br (isL v2) .stuck (.br (exWrite.ok ((ByteArray.mk #[(97 : UInt8), (98 : UInt8)]), (ByteArray.mk #[(120 : UInt8)]), (gr v2).fst, (gr v2).snd.fst, (gr v2).snd.snd.snd.snd.snd.snd.snd.snd.snd, v1.fst, v1.snd, (gr v2).snd.snd.fst, (gr v2).snd.snd.snd.fst, (gr v2).snd.snd.snd.snd.fst, (gr v2).snd.snd.snd.snd.snd.fst, (gr v2).snd.snd.snd.snd.snd.snd.fst, (gr v2).snd.snd.snd.snd.snd.snd.snd.fst, (gr v2).snd.snd.snd.snd.snd.snd.snd.snd.fst)) (.seq (exWrite.res ((ByteArray.mk #[(97 : UInt8), (98 : UInt8)]), (ByteArray.mk #[(120 : UInt8)]), (gr v2).fst, (gr v2).snd.fst, (gr v2).snd.snd.snd.snd.snd.snd.snd.snd.snd, v1.fst, v1.snd, (gr v2).snd.snd.fst, (gr v2).snd.snd.snd.fst, (gr v2).snd.snd.snd.snd.fst, (gr v2).snd.snd.snd.snd.snd.fst, (gr v2).snd.snd.snd.snd.snd.snd.fst, (gr v2).snd.snd.snd.snd.snd.snd.snd.fst, (gr v2).snd.snd.snd.snd.snd.snd.snd.snd.fst)) fun v3 => (.br (exSize.ok ((ByteArray.mk #[(120 : UInt8)]), v3.fst, (gr v2).snd.fst, (gr v2).snd.snd.snd.snd.snd.snd.snd.snd.snd, v1.fst, v1.snd, v3.snd.fst, v3.snd.snd.fst, (gr v2).snd.snd.snd.snd.fst, v3.snd.snd.snd.fst, v3.snd.snd.snd.snd.fst, v3.snd.snd.snd.snd.snd, (gr v2).snd.snd.snd.snd.snd.snd.snd.snd.fst)) (.seq (exSize.res ((ByteArray.mk #[(120 : UInt8)]), v3.fst, (gr v2).snd.fst, (gr v2).snd.snd.snd.snd.snd.snd.snd.snd.snd, v1.fst, v1.snd, v3.snd.fst, v3.snd.snd.fst, (gr v2).snd.snd.snd.snd.fst, v3.snd.snd.snd.fst, v3.snd.snd.snd.snd.fst, v3.snd.snd.snd.snd.snd, (gr v2).snd.snd.snd.snd.snd.snd.snd.snd.fst)) fun v4 => (.br (exClose.ok ((ByteArray.mk #[(120 : UInt8)]), v3.fst, (gr v2).snd.fst, (gr v2).snd.snd.snd.snd.snd.snd.snd.snd.snd, v1.fst, v1.snd, v3.snd.fst, v3.snd.snd.fst, (gr v2).snd.snd.snd.snd.fst, v3.snd.snd.snd.fst, v3.snd.snd.snd.snd.fst, v3.snd.snd.snd.snd.snd, (gr v2).snd.snd.snd.snd.snd.snd.snd.snd.fst)) (.seq (exClose.res ((ByteArray.mk #[(120 : UInt8)]), v3.fst, (gr v2).snd.fst, (gr v2).snd.snd.snd.snd.snd.snd.snd.snd.snd, v1.fst, v1.snd, v3.snd.fst, v3.snd.snd.fst, (gr v2).snd.snd.snd.snd.fst, v3.snd.snd.snd.fst, v3.snd.snd.snd.snd.fst, v3.snd.snd.snd.snd.snd, (gr v2).snd.snd.snd.snd.snd.snd.snd.snd.fst)) fun v5 => (.br (v4 == (2 : Int)) (.br (true) (.br (decide ((0 : Int) ≤ (0 : Int) ∧ (0 : Int) < (1 : Int) ∧ (0 : Nat) < (Row.recs [Kind.s, Kind.s, Kind.s, Kind.i IntKind.i64, Kind.i IntKind.i64, Kind.b] [[Atom.s (ByteArray.mk #[(120 : UInt8)]), Atom.s v3.fst, Atom.s v5.fst, Atom.i v5.snd.fst, Atom.i v5.snd.snd.fst, Atom.b v5.snd.snd.snd]]).length)) (.br (decide ((0 : Nat) < [[Atom.s (ByteArray.mk #[(120 : UInt8)]), Atom.s v3.fst, Atom.s v5.fst, Atom.i v5.snd.fst, Atom.i v5.snd.snd.fst, Atom.b v5.snd.snd.snd]].length)) (.br (hex.ok (ByteArray.mk #[(97 : UInt8), (98 : UInt8)])) (.seq (hex.res (ByteArray.mk #[(97 : UInt8), (98 : UInt8)])) fun v6 => (.br ((([[Atom.s (ByteArray.mk #[(120 : UInt8)]), Atom.s v3.fst, Atom.s v5.fst, Atom.i v5.snd.fst, Atom.i v5.snd.snd.fst, Atom.b v5.snd.snd.snd]].getD (0 : Nat) []).headD (Atom.i (0 : Int))).str.toList == (ByteArray.mk #[(120 : UInt8)]).toList && ((([[Atom.s (ByteArray.mk #[(120 : UInt8)]), Atom.s v3.fst, Atom.s v5.fst, Atom.i v5.snd.fst, Atom.i v5.snd.snd.fst, Atom.b v5.snd.snd.snd]].getD (0 : Nat) []).tail.headD (Atom.i (0 : Int))).str.toList == (ByteArray.mk #[(97 : UInt8), (98 : UInt8)]).toList && ((([[Atom.s (ByteArray.mk #[(120 : UInt8)]), Atom.s v3.fst, Atom.s v5.fst, Atom.i v5.snd.fst, Atom.i v5.snd.snd.fst, Atom.b v5.snd.snd.snd]].getD (0 : Nat) []).tail.tail.headD (Atom.i (0 : Int))).str.toList == v6.toList && ((([[Atom.s (ByteArray.mk #[(120 : UInt8)]), Atom.s v3.fst, Atom.s v5.fst, Atom.i v5.snd.fst, Atom.i v5.snd.snd.fst, Atom.b v5.snd.snd.snd]].getD (0 : Nat) []).tail.tail.tail.headD (Atom.i (0 : Int))).int == (1 : Int) && ((([[Atom.s (ByteArray.mk #[(120 : UInt8)]), Atom.s v3.fst, Atom.s v5.fst, Atom.i v5.snd.fst, Atom.i v5.snd.snd.fst, Atom.b v5.snd.snd.snd]].getD (0 : Nat) []).tail.tail.tail.tail.headD (Atom.i (0 : Int))).int == (2 : Int) && ((([[Atom.s (ByteArray.mk #[(120 : UInt8)]), Atom.s v3.fst, Atom.s v5.fst, Atom.i v5.snd.fst, Atom.i v5.snd.snd.fst, Atom.b v5.snd.snd.snd]].getD (0 : Nat) []).tail.tail.tail.tail.tail.headD (Atom.i (0 : Int))).bl == true && true)))))) (.br (exSizeN.ok (ByteArray.mk #[(120 : UInt8)])) (.seq (exSizeN.res (ByteArray.mk #[(120 : UInt8)])) fun v7 => (.br (v7 == (0 : Int)) (.br (exCloseN.ok (ByteArray.mk #[(120 : UInt8)])) (.seq (exCloseN.res (ByteArray.mk #[(120 : UInt8)])) fun v8 => (.br (type.ok (ByteArray.mk #[(35 : UInt8), (33 : UInt8), (47 : UInt8), (98 : UInt8), (105 : UInt8), (110 : UInt8), (47 : UInt8), (115 : UInt8), (104 : UInt8)])) (.seq (type.res (ByteArray.mk #[(35 : UInt8), (33 : UInt8), (47 : UInt8), (98 : UInt8), (105 : UInt8), (110 : UInt8), (47 : UInt8), (115 : UInt8), (104 : UInt8)])) fun v9 => (.br (v9 == (8 : Int)) (.br (type.ok (ByteArray.mk #[])) (.seq (type.res (ByteArray.mk #[])) fun v10 => (.leaf (v10 == (0 : Int)))) .stuck) (.leaf (false)))) .stuck)) .stuck) (.leaf (false)))) .stuck) (.leaf (false)))) .stuck) .stuck) .stuck) (.leaf (false))) (.leaf (false)))) .stuck)) .stuck)) .stuck))) .stuck)) .stuck)
noncomputable def lives : Eng.Fun ((Unit)) ((Bool)) := ⟨lives_E, lives_D, lives_O, lives_B, lives_t, default⟩
theorem lives_e0  : (body2 K0 c7.F L0 400 [] Tryz.f19 (lives_E ()).1 (lives_E ()).2).bind (polish K0 []) = (lives_t ()).bind fun zz => .leaf (lives_O () zz) := by kernel_rfl
theorem lives_ok : FnOk K0 19 (fgt lives.g) := by
  refine c7.fn lives (L := L0) 400 [] [] (fn := Tryz.f19) Tryz.func19 (b := _) (by exact rfl) L0_ok ?_ ?_ ?_
  · rintro a; exact lives_e0 
  · intro l H s h; simp only [lives] at h ⊢; unfold lives_D at h; split at h <;> first | (cases h; rfl) | cases h
  · rintro q r <;> rfl

noncomputable def c7a : Con := c7.add 19 lives lives_ok
/-! function 5 -/
def law5_E (a : (ByteArray)) : List AV × Heap := (fun (s : ByteArray) => (([.v (.string s) false], ⟨[], []⟩) : List AV × Heap)) a
def law5_D : List AV → Heap → Option ((ByteArray))
  | [.v (.string s) false], ⟨[], []⟩ => some s
  | _, _ => none
def law5_O : (ByteArray) → (Bool) → AV × Heap
  | q, r => (fun (s : ByteArray) (b : Bool) => ((.v (.bool b) false, ⟨[], []⟩) : AV × Heap)) q r
def law5_B : (ByteArray) → (Bool) → T (AV × Heap)
  | q, r => (.leaf ((fun (s : ByteArray) (b : Bool) => ((.v (.bool b) false, ⟨[], []⟩) : AV × Heap)) q (r)))
noncomputable def law5_t : (ByteArray) → T ((Bool))
  | s => (.br (decide ((↑s.size : Int) > (500 : Int))) (.br (lives.ok PUnit.unit) (.seq (lives.res PUnit.unit) fun v1 => (.leaf (v1))) .stuck) (.br (type.ok s) (.seq (type.res s) fun v1 => (.br (typeR.ok s) (.seq (typeR.res s) fun v2 => (.br (v1 == v2) (.br (lives.ok PUnit.unit) (.seq (lives.res PUnit.unit) fun v3 => (.leaf (v3))) .stuck) (.leaf (false)))) .stuck)) .stuck))
noncomputable def law5 : Eng.Fun ((ByteArray)) ((Bool)) := ⟨law5_E, law5_D, law5_O, law5_B, law5_t, default⟩
theorem law5_e0 (s : ByteArray) : (body2 K0 c7a.F L0 400 [] Tryz.f5 (law5_E s).1 (law5_E s).2).bind (polish K0 []) = (law5_t s).bind fun zz => .leaf (law5_O s zz) := by kernel_rfl
theorem law5_ok : FnOk K0 5 (fgt law5.g) := by
  refine c7a.fn law5 (L := L0) 400 [] [] (fn := Tryz.f5) Tryz.func5 (b := _) (by exact rfl) L0_ok ?_ ?_ ?_
  · rintro a; exact law5_e0 _
  · intro l H s h; simp only [law5] at h ⊢; unfold law5_D at h; split at h <;> first | (cases h; rfl) | cases h
  · rintro q r <;> rfl


end Go.Proofs.YtcmnnggpeloanaaGreatDoor

/- Contracts of functions of the program, printed by a program of this session and proved by the kernel, or plain laws about them: part P4. No condition. -/
import Derived.Test.YtcmnnggpeloanaaGreatDoorP3
namespace Go.Proofs.YtcmnnggpeloanaaGreatDoor
open Eng Go
set_option maxRecDepth 100000

theorem size_ab : (ByteArray.mk #[97, 98]).size = 2 := rfl
theorem size_sh : (ByteArray.mk #[35, 33, 47, 98, 105, 110, 47, 115, 104]).size = 9 := rfl
theorem size_e : (ByteArray.mk #[]).size = 0 := rfl
theorem ab_head : headOf8 (ByteArray.mk #[97, 98]) = ByteArray.mk #[97, 98] := by
  rw [headOf8_eq]
  apply ByteArray.ext
  rw [ByteArray.data_extract]
  rfl

theorem ab_small : (ByteArray.mk #[97, 98]).size ≤ 1000000000000 := by rw [size_ab]; omega
theorem ab_type : typeOf (ByteArray.mk #[97, 98]) ≠ 2 := by rw [typeOf_ab]; omega
theorem ab_write : ∃ ov, exWrite.val (ByteArray.mk #[97, 98], ByteArray.mk #[120], e0, false, 0, 4096, 100, e0, false, e0, hash0.1, hash0.2.1, hash0.2.2, 1) = some (headOf8 (ByteArray.mk #[97, 98]), (ByteArray.mk #[97, 98]), ov, (hash1 (ByteArray.mk #[97, 98])).1, (hash1 (ByteArray.mk #[97, 98])).2.1, (hash1 (ByteArray.mk #[97, 98])).2.2) := exWrite_v _ _ _ _ ab_small (.inr ab_type)
theorem lives_a (ov : Bool) (hw : exWrite.val (ByteArray.mk #[97, 98], ByteArray.mk #[120], e0, false, 0, 4096, 100, e0, false, e0, hash0.1, hash0.2.1, hash0.2.2, 1) = some (headOf8 (ByteArray.mk #[97, 98]), (ByteArray.mk #[97, 98]), ov, (hash1 (ByteArray.mk #[97, 98])).1, (hash1 (ByteArray.mk #[97, 98])).2.1, (hash1 (ByteArray.mk #[97, 98])).2.2)) : lives.val () = some true := by
  have hz := exSize_v (ByteArray.mk #[120]) (headOf8 (ByteArray.mk #[97, 98])) false 0 4096 100 (ByteArray.mk #[97, 98]) ov e0 (hash1 (ByteArray.mk #[97, 98])).1 (hash1 (ByteArray.mk #[97, 98])).2.1 (hash1 (ByteArray.mk #[97, 98])).2.2 1
  have hc := exClose_v (ByteArray.mk #[120]) (headOf8 (ByteArray.mk #[97, 98])) false 0 4096 100 (ByteArray.mk #[97, 98]) ov e0 (ByteArray.mk #[97, 98]) 1 ab_small (by rw [ab_head]; exact ab_small)
  have hx := hex_v (ByteArray.mk #[97, 98]) (by rw [size_ab]; omega)
  have h8 := type_v (ByteArray.mk #[35, 33, 47, 98, 105, 110, 47, 115, 104]) (by rw [size_sh]; omega)
  rw [typeOf_sh] at h8
  have h0 := type_v (ByteArray.mk #[]) (by rw [size_e]; omega)
  rw [typeOf_e0] at h0
  rw [ab_head, typeOf_ab] at hc
  rw [ab_head] at hz hw
  show (lives_t ()).run = _
  unfold lives_t
  refine run_ok budget_v ?_
  dsimp only
  refine run_ok (fnew_v _ _ _) ?_
  dsimp only [gr, isL]
  refine run_ff rfl ?_
  refine run_ok hw ?_
  dsimp only
  refine run_ok hz ?_
  refine run_ok hc ?_
  dsimp only
  refine run_tt rfl ?_
  refine run_tt rfl ?_
  refine run_tt rfl ?_
  refine run_tt rfl ?_
  refine run_ok hx ?_
  refine run_tt ?_ ?_
  · show ((ByteArray.mk #[120]).toList == (ByteArray.mk #[120]).toList && ((ByteArray.mk #[97, 98]).toList == (ByteArray.mk #[97, 98]).toList && ((hexOf (ByteArray.mk #[97, 98])).toList == (hexOf (ByteArray.mk #[97, 98])).toList && ((1 : Int) == 1 && (((ByteArray.mk #[97, 98]).size : Int) == 2 && (!false == true && true)))))) = true
    simp only [beq_self_eq_true, Bool.true_and]
    rfl
  refine run_ok (rfl : exSizeN.val (ByteArray.mk #[120]) = some 0) ?_
  refine run_tt rfl ?_
  refine run_ok (rfl : exCloseN.val (ByteArray.mk #[120]) = some ()) ?_
  refine run_ok h8 ?_
  refine run_tt rfl ?_
  refine run_ok h0 ?_
  rfl

theorem lives_v : lives.val () = some true := by
  obtain ⟨ov, hw⟩ := ab_write
  exact lives_a ov hw

/-- THE LAW -/
theorem law5_v (s : ByteArray) : law5.val s = some true := by
  show (law5_t s).run = _
  unfold law5_t
  dsimp only
  by_cases h : (s.size : Int) > 500
  · exact run_tt (by simp only [decide_eq_true_eq]; exact h) (run_ok lives_v rfl)
  · refine run_ff (by simp only [decide_eq_false_iff_not]; exact h) ?_
    refine run_ok (type_v s (by omega)) ?_
    refine run_ok (typeR_v s (by omega)) ?_
    exact run_tt (by simp) (run_ok lives_v rfl)
end Go.Proofs.YtcmnnggpeloanaaGreatDoor

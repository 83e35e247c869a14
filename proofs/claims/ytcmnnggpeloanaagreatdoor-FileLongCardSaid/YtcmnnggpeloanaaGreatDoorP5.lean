/- Contracts of functions of the program, printed by a program of this session and proved by the kernel, or plain laws about them: part P5. No condition. -/
import Derived.Test.YtcmnnggpeloanaaGreatDoorP4
import Derived.Test.YtcmnnggpeloanaaGreatDoorG8
namespace Go.Proofs.YtcmnnggpeloanaaGreatDoor
open Eng Go
set_option maxRecDepth 100000

/-! ### the type is told by the first bytes -/
theorem hasPre_take (s t : ByteArray) (ht : t.data.toList.length ≤ 64) : hasPre s t = (decide (t.data.toList.length ≤ (s.data.toList.take 64).length) && ((s.data.toList.take 64).take t.data.toList.length == t.data.toList)) := by
  rw [hasPre_list, List.take_take, Nat.min_eq_left ht]
  congr 1
  rw [List.length_take]
  exact decide_eq_decide.2 ⟨fun h => by omega, fun h => by omega⟩
theorem size_list (s : ByteArray) : s.size = s.data.toList.length := by rw [Array.length_toList]; rfl
theorem textAt_take (s : ByteArray) : textAt s ↔ ∀ b ∈ s.data.toList.take 64, textB b = true := by
  have hg : ∀ i, i < s.size → s.data.toList[i]? = some (s.data.getD i 0) := by
    intro i hi
    rw [size_list] at hi
    rw [List.getElem?_eq_getElem hi]
    have hi' : i < s.data.size := by rw [← Array.length_toList]; exact hi
    rw [Array.getElem_toList]
    congr 1
    unfold Array.getD
    rw [dif_pos hi']
    rfl
  constructor
  · intro h b hb
    obtain ⟨i, hi, rfl⟩ := List.getElem_of_mem hb
    have h1 : i < 64 ∧ i < s.size := by rw [List.length_take, ← size_list] at hi; omega
    have e : (List.take 64 s.data.toList)[i] = s.data.getD i 0 := by
      have h2 := hg i h1.2
      rw [List.getElem_take]
      exact (List.getElem?_eq_some_iff.1 h2).2
    rw [e]
    exact h i h1.2 h1.1
  · intro h i h1 h2
    have h3 := hg i h1
    refine h _ ?_
    have h4 : (s.data.toList.take 64)[i]? = some (s.data.getD i 0) := by rw [List.getElem?_take, if_pos h2]; exact h3
    exact List.mem_of_getElem? h4

theorem typeOf_take {s t : ByteArray} (h : s.data.toList.take 64 = t.data.toList.take 64) : typeOf s = typeOf t := by
  have hp : ∀ j, j < 7 → hasPre s (str7 j) = hasPre t (str7 j) := by
    intro j hj
    have hl : (str7 j).data.toList.length ≤ 64 := by
      have : j = 0 ∨ j = 1 ∨ j = 2 ∨ j = 3 ∨ j = 4 ∨ j = 5 ∨ j = 6 := by omega
      rcases this with rfl | rfl | rfl | rfl | rfl | rfl | rfl <;> decide
    rw [hasPre_take s _ hl, hasPre_take t _ hl, h]
  have hx : textAt s = textAt t := propext (by rw [textAt_take, textAt_take, h])
  have h0 : s.size = 0 ↔ t.size = 0 := by
    have e := congrArg List.length h
    rw [List.length_take, List.length_take, ← size_list, ← size_list] at e
    omega
  unfold typeOf
  rw [hp 0 (by omega), hp 1 (by omega), hp 2 (by omega), hp 3 (by omega), hp 4 (by omega), hp 5 (by omega), hp 6 (by omega)]
  rw [hx]
  simp only [h0]

theorem typeOf_head (s : ByteArray) : typeOf (headOf8 s) = typeOf s := by
  apply typeOf_take
  rw [headOf8_eq, extract_list, Nat.sub_zero, List.drop_zero, List.take_take]
  by_cases h : s.size ≤ 8192
  · rw [Nat.min_eq_left h, size_list]
    by_cases h2 : s.data.toList.length ≤ 64
    · rw [Nat.min_eq_right h2, List.take_of_length_le (Nat.le_refl _), List.take_of_length_le h2]
    · rw [Nat.min_eq_left (by omega)]
  · have e : min 64 (min s.size 8192) = 64 := by omega
    rw [e]

/-! ### n equal bytes -/
theorem loA_v (n c : Int) (h0 : 0 ≤ n) (h1 : n ≤ 9000) : loA.ok (n, c, n.toNat) (0, List.replicate n.toNat 0) = true ∧ loA.res (n, c, n.toNat) (0, List.replicate n.toNat 0) = (n, List.replicate n.toNat c) := by
  refine Loop.ind loA (n, c, n.toNat) (fun x => 0 ≤ x.1 ∧ x.1 ≤ n ∧ x.2.length = n.toNat ∧ ∀ j : Nat, (j : Int) < x.1 → x.2[j]? = some c) (fun x => (n - x.1).toNat) (fun r => r = (n, List.replicate n.toNat c)) ?_ ⟨by simp, by simpa using h0, by simp, fun j hj => by simp only at hj; omega⟩ (by simp only [loA]; omega)
  rintro ⟨i, x⟩ ⟨a0, a1, a2, a3⟩
  simp only at a0 a1 a2 a3
  show (∃ s', (loA_t (n, c, n.toNat) (i, x)).run = _ ∧ _) ∨ ∃ r', (loA_t (n, c, n.toNat) (i, x)).run = _ ∧ _
  unfold loA_t
  simp only [T.seq]
  by_cases ht : i < n
  · left
    rw [run_t (by simp only [decide_eq_true_eq]; exact ht)]
    rw [run_t (by simp [Row.length]; omega)]
    rw [run_t (by simp only [decide_eq_true_eq]; omega)]
    have hw : IntKind.i64.wrap (i + 1) = i + 1 := by rw [IntKind.wrap_i64]; omega
    refine ⟨_, rfl, ⟨?_, ?_, ?_, ?_⟩, ?_⟩
    · simp only [hw]; omega
    · simp only [hw]; omega
    · simp only [List.length_set]; exact a2
    · intro j hj
      simp only [hw] at hj
      simp only
      rw [List.getElem?_set]
      split
      · rename_i he
        have : j < x.length := by omega
        simp [this]
        omega
      · exact a3 j (by omega)
    · simp only [hw]; omega
  · right
    rw [run_f (by simp only [decide_eq_false_iff_not]; exact ht)]
    have hi : i = n := by omega
    subst hi
    refine ⟨_, rfl, ?_⟩
    congr 1
    rw [List.eq_replicate_iff]
    refine ⟨a2, fun b hb => ?_⟩
    obtain ⟨j, hj, rfl⟩ := List.getElem_of_mem hb
    have := a3 j (by omega)
    rw [List.getElem?_eq_getElem hj] at this
    exact Option.some.inj this

theorem rep_list (n : Nat) (c : Int) : (bytesOf (List.replicate n c)).data.toList = List.replicate n (UInt8.ofNat c.toNat) := by
  simp [bytesOf]

theorem rep_type (n : Nat) (c : Int) (h0 : 0 ≤ c) (h1 : c < 256) (hc : c ≠ 31) : (bytesOf (List.replicate n c)).size < 2 ∨ typeOf (bytesOf (List.replicate n c)) ≠ 2 := by
  rw [bytesOf_size, List.length_replicate]
  by_cases hn : n < 2
  · exact .inl hn
  right
  have hp : hasPre (bytesOf (List.replicate n c)) (str7 0) = false := by
    rw [hasPre_list, rep_list]
    have e : (str7 0).data.toList = [31, 139] := rfl
    rw [e]
    obtain ⟨m, rfl⟩ : ∃ m, n = m + 2 := ⟨n - 2, by omega⟩
    have hne : UInt8.ofNat c.toNat ≠ 31 := by
      intro h
      have := congrArg UInt8.toNat h
      simp at this
      omega
    simp [List.replicate_succ, hne]
  unfold typeOf
  rw [if_neg (by rw [hp]; simp)]
  split
  · omega
  split
  · omega
  split
  · omega
  split
  · omega
  split
  · omega
  split
  · omega
  split
  · omega
  split <;> omega

theorem law6_v (n c : Int) (hc0 : 0 ≤ c) (hc1 : c < 256) : law6.val (n, c) = some true := by
  show (law6_t (n, c)).run = _
  unfold law6_t
  dsimp only
  by_cases h1 : n < 0
  · exact run_tt (by simp only [decide_eq_true_eq]; exact h1) (run_ok lives_v rfl)
  refine run_ff (by simp only [decide_eq_false_iff_not]; exact h1) ?_
  by_cases h2 : n > 9000
  · exact run_tt (by simp only [decide_eq_true_eq]; exact h2) (run_ok lives_v rfl)
  refine run_ff (by simp only [decide_eq_false_iff_not]; exact h2) ?_
  by_cases h3 : c = 31
  · exact run_tt (by simp [h3]) (run_ok lives_v rfl)
  refine run_ff (by simpa using h3) ?_
  refine run_tt (by simp only [decide_eq_true_eq]; omega) ?_
  obtain ⟨l1, l2⟩ := loA_v n c (by omega) (by omega)
  refine run_okL l1 ?_
  rw [l2]
  dsimp only
  rw [take_drop0 List.length_replicate]
  have hl : (List.replicate n.toNat c).length = n.toNat := List.length_replicate
  refine run_tt (by simp only [decide_eq_true_eq, hl]; omega) ?_
  have ht := rep_type n.toNat c hc0 hc1 h3
  have hs : (bytesOf (List.replicate n.toNat c)).size = n.toNat := by rw [bytesOf_size, hl]
  generalize bytesOf (List.replicate n.toNat c) = s at ht hs ⊢
  have hsz : s.size ≤ 1000000000000 := by omega
  refine run_ok budget_v ?_
  dsimp only
  refine run_ok (fnew_v _ _ _) ?_
  dsimp only [gr, isL]
  refine run_ff rfl ?_
  obtain ⟨ov, hw⟩ := exWrite_v s (ByteArray.mk #[]) 4096 100 hsz ht
  have hh : (headOf8 s).size = min s.size 8192 := by rw [headOf8_eq, ByteArray.size_extract]; omega
  have hz := exSize_v (ByteArray.mk #[]) (headOf8 s) false 0 4096 100 s ov e0 (hash1 s).1 (hash1 s).2.1 (hash1 s).2.2 1
  have hcl := exClose_v (ByteArray.mk #[]) (headOf8 s) false 0 4096 100 s ov e0 s 1 hsz (by omega)
  have hx := hex_v s (by omega)
  have hr := typeR_v s (by omega)
  have hm : (if (8192 : Int) < n then (8192 : Int) else n) = ((min s.size 8192 : Nat) : Int) := by split <;> omega
  rw [hm]
  refine run_ok hw ?_
  dsimp only
  refine run_ok hz ?_
  refine run_ok hcl ?_
  dsimp only
  refine run_ff rfl ?_
  refine run_ff (by rw [hh]; simp) ?_
  refine run_tt rfl (run_tt rfl (run_tt rfl ?_))
  refine run_tt (by simp only [decide_eq_true_eq]; omega) ?_
  refine run_tt (by
    show ((headOf8 s).toList == (s.extract 0 ((min s.size 8192 : Nat) : Int).toNat).toList) = true
    rw [Int.toNat_natCast, headOf8_eq]
    simp) ?_
  refine run_tt rfl (run_tt rfl (run_tt rfl ?_))
  refine run_tt (by
    show ((s.size : Int) == n) = true
    simp; omega) ?_
  refine run_tt rfl (run_tt rfl (run_tt rfl ?_))
  refine run_ok hx ?_
  refine run_tt (by
    show ((hexOf s).toList == (hexOf s).toList) = true
    simp) ?_
  refine run_tt rfl (run_tt rfl (run_tt rfl ?_))
  refine run_tt rfl ?_
  refine run_tt rfl (run_tt rfl (run_tt rfl ?_))
  refine run_ok hr ?_
  refine run_tt (by
    show (typeOf (headOf8 s) == typeOf s) = true
    rw [typeOf_head]; simp) ?_
  exact run_ok lives_v rfl
end Go.Proofs.YtcmnnggpeloanaaGreatDoor

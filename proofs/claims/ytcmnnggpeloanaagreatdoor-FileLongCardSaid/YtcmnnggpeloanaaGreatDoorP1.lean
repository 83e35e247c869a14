/- Contracts of functions of the program, printed by a program of this session and proved by the kernel, or plain laws about them: part P1. No condition. -/
import Derived.Test.YtcmnnggpeloanaaGreatDoorG7
namespace Go.Proofs.YtcmnnggpeloanaaGreatDoor
open Eng Go
set_option maxRecDepth 100000

theorem rot_k (x n : Int) (h0 : 0 ≤ n) (h1 : n ≤ 32) : rot.ok (x, n) = true := by
  unfold Fun.ok Fun.val
  show (rot_t (x, n)).run.isSome = true
  unfold rot_t
  simp only [T.seq]
  rw [run_t (by simp only [decide_eq_true_eq]; omega), run_t (by simp only [decide_eq_true_eq, IntKind.wrap_i64]; omega)]
  rfl

theorem adA_k (s : ByteArray) (l : List Int) (r : ByteArray) (m : Int) (w : List Int) (h : s.size = 64) : adA.ok (s, l, r, m) (0, w) = true := by
  refine (Loop.ind adA (s, l, r, m) (fun x => 0 ≤ x.1 ∧ x.1 ≤ 16) (fun x => (16 - x.1).toNat) (fun _ => True) ?_ (by simp) (by simp only [adA]; omega)).1
  rintro ⟨t, w⟩ ⟨h0, h1⟩
  simp only at h0 h1
  show (∃ s', (adA_t (s, l, r, m) (t, w)).run = _ ∧ _) ∨ ∃ r', (adA_t (s, l, r, m) (t, w)).run = _ ∧ _
  unfold adA_t
  simp only [T.seq]
  by_cases ht : t < 16
  · left
    rw [run_t (by simp only [decide_eq_true_eq]; exact ht)]
    iterate 4 rw [run_t (by simp only [decide_eq_true_eq, IntKind.wrap_i64, h]; omega)]
    iterate 2 rw [run_t (by simp only [decide_eq_true_eq]; omega)]
    refine ⟨_, rfl, ?_⟩
    simp only [IntKind.wrap_i64]
    omega
  · right
    rw [run_f (by simp only [decide_eq_false_iff_not]; exact ht)]
    exact ⟨_, rfl, trivial⟩

theorem adB_k (l : List Int) (r : ByteArray) (m : Int) (w : List Int) : adB.ok (l, r, m) (16, w) = true := by
  refine (Loop.ind adB (l, r, m) (fun x => 16 ≤ x.1 ∧ x.1 ≤ 64) (fun x => (64 - x.1).toNat) (fun _ => True) ?_ (by simp) (by simp only [adB]; omega)).1
  rintro ⟨t, w⟩ ⟨h0, h1⟩
  simp only at h0 h1
  show (∃ s', (adB_t (l, r, m) (t, w)).run = _ ∧ _) ∨ ∃ r', (adB_t (l, r, m) (t, w)).run = _ ∧ _
  unfold adB_t
  simp only [T.seq]
  by_cases ht : t < 64
  · left
    rw [run_t (by simp only [decide_eq_true_eq]; exact ht)]
    iterate 4 rw [run_t (by simp only [decide_eq_true_eq, IntKind.wrap_i64]; omega)]
    iterate 4 rw [run_t (rot_k _ _ (by omega) (by omega))]
    iterate 4 rw [run_t (by simp only [decide_eq_true_eq, IntKind.wrap_i64]; omega)]
    iterate 2 rw [run_t (by simp only [decide_eq_true_eq]; omega)]
    refine ⟨_, rfl, ?_⟩
    simp only [IntKind.wrap_i64]
    omega
  · right
    rw [run_f (by simp only [decide_eq_false_iff_not]; exact ht)]
    exact ⟨_, rfl, trivial⟩

theorem adC_k (l : List Int) (r : ByteArray) (m : Int) (w v : List Int) : adC.ok (l, r, m, w) (0, v) = true := by
  refine (Loop.ind adC (l, r, m, w) (fun x => 0 ≤ x.1 ∧ x.1 ≤ 64) (fun x => (64 - x.1).toNat) (fun _ => True) ?_ (by simp) (by simp only [adC]; omega)).1
  rintro ⟨t, v⟩ ⟨h0, h1⟩
  simp only at h0 h1
  show (∃ s', (adC_t (l, r, m, w) (t, v)).run = _ ∧ _) ∨ ∃ r', (adC_t (l, r, m, w) (t, v)).run = _ ∧ _
  unfold adC_t
  simp only [T.seq]
  by_cases ht : t < 64
  · left
    rw [run_t (by simp only [decide_eq_true_eq]; exact ht)]
    iterate 3 rw [run_t (rot_k _ _ (by omega) (by omega))]
    iterate 4 rw [run_t (by simp only [decide_eq_true_eq]; omega)]
    iterate 3 rw [run_t (rot_k _ _ (by omega) (by omega))]
    refine ⟨_, rfl, ?_⟩
    simp only [IntKind.wrap_i64]
    omega
  · right
    rw [run_f (by simp only [decide_eq_false_iff_not]; exact ht)]
    exact ⟨_, rfl, trivial⟩

theorem adD_k (r : ByteArray) (m : Int) (v l : List Int) : adD.ok (r, m, v) (0, l) = true := by
  refine (Loop.ind adD (r, m, v) (fun x => 0 ≤ x.1 ∧ x.1 ≤ 8) (fun x => (8 - x.1).toNat) (fun _ => True) ?_ (by simp) (by simp only [adD]; omega)).1
  rintro ⟨t, l⟩ ⟨h0, h1⟩
  simp only at h0 h1
  show (∃ s', (adD_t (r, m, v) (t, l)).run = _ ∧ _) ∨ ∃ r', (adD_t (r, m, v) (t, l)).run = _ ∧ _
  unfold adD_t
  simp only [T.seq]
  by_cases ht : t < 8
  · left
    rw [run_t (by simp only [decide_eq_true_eq]; exact ht)]
    iterate 6 rw [run_t (by simp only [decide_eq_true_eq]; omega)]
    refine ⟨_, rfl, ?_⟩
    simp only [IntKind.wrap_i64]
    omega
  · right
    rw [run_f (by simp only [decide_eq_false_iff_not]; exact ht)]
    exact ⟨_, rfl, trivial⟩

theorem add_k (s : ByteArray) (l : List Int) (r : ByteArray) (m : Int) (h : s.size = 64) : add.ok (s, l, r, m) = true := by
  unfold Fun.ok Fun.val
  show (add_t (s, l, r, m)).run.isSome = true
  unfold add_t
  simp only [T.seq]
  rw [run_t (adA_k _ _ _ _ _ h), run_t (adB_k _ _ _ _), run_t (adC_k _ _ _ _ _), run_t (adD_k _ _ _ _)]
  rfl

theorem wrA_k (m : Int) (l : List Int) (r : ByteArray) (h : r.size ≤ 4611686018427387904) : wrA.ok m (l, r) = true ∧ (wrA.res m (l, r)).2.size < 64 := by
  refine Loop.ind wrA m (fun x => x.2.size ≤ 4611686018427387904) (fun x => x.2.size / 64) (fun x => x.2.size < 64) ?_ h (by simp only [wrA]; omega)
  rintro ⟨l, r⟩ h
  simp only at h
  show (∃ s', (wrA_t m (l, r)).run = _ ∧ _) ∨ ∃ r', (wrA_t m (l, r)).run = _ ∧ _
  unfold wrA_t
  simp only [T.seq]
  by_cases ht : (r.size : Int) ≥ 64
  · left
    rw [run_t (by simp only [decide_eq_true_eq]; exact ht)]
    rw [run_t (by simp only [decide_eq_true_eq]; omega)]
    rw [run_t (add_k _ _ _ _ (by simp only [ByteArray.size_extract]; omega))]
    rw [run_t (by simp only [decide_eq_true_eq]; omega)]
    refine ⟨_, rfl, ?_⟩
    simp only [ByteArray.size_extract]
    omega
  · right
    rw [run_f (by simp only [decide_eq_false_iff_not]; exact ht)]
    exact ⟨_, rfl, by simp only; omega⟩

/-- what Write leaves -/
theorem write_k (s : ByteArray) (l : List Int) (r : ByteArray) (m : Int) (h : r.size + s.size ≤ 4611686018427387904) :
    write.ok (s, l, r, m) = true ∧ (write.res (s, l, r, m)).2.1.size < 64 ∧ (write.res (s, l, r, m)).2.2 = IntKind.i64.wrap (m + s.size) := by
  have hs : (r ++ s).size ≤ 4611686018427387904 := by rw [ByteArray.size_append]; omega
  obtain ⟨h1, h2⟩ := wrA_k (IntKind.i64.wrap (m + s.size)) l (r ++ s) hs
  have hv : write.val (s, l, r, m) = some (((wrA.res (IntKind.i64.wrap (m + s.size)) (l, r ++ s)).1, (wrA.res (IntKind.i64.wrap (m + s.size)) (l, r ++ s)).2, IntKind.i64.wrap (m + s.size))) := by
    show (write_t (s, l, r, m)).run = _
    unfold write_t
    simp only [T.seq]
    rw [run_t (by simp only [decide_eq_true_eq]; omega), run_t h1]
    rfl
  rw [Fun.ok_of hv, Fun.res_of hv]
  exact ⟨rfl, h2, rfl⟩

theorem byA_k (l : List Int) (r : ByteArray) (m : Int) : byA.ok (l, r, m) (0, 0, []) = true ∧ (byA.res (l, r, m) (0, 0, [])).2.2.length = (byA.res (l, r, m) (0, 0, [])).1 ∧ (byA.res (l, r, m) (0, 0, [])).1 ≤ 32 := by
  refine Loop.ind byA (l, r, m) (fun x => 0 ≤ x.2.1 ∧ x.2.1 ≤ 8 ∧ x.2.2.length = x.1 ∧ (x.1 : Int) = 4 * x.2.1) (fun x => (8 - x.2.1).toNat) (fun x => x.2.2.length = x.1 ∧ x.1 ≤ 32) ?_ (by simp) (by simp only [byA]; omega)
  rintro ⟨n, i, x⟩ ⟨h0, h1, h2, h3⟩
  simp only at h0 h1 h2 h3
  show (∃ s', (byA_t (l, r, m) (n, i, x)).run = _ ∧ _) ∨ ∃ r', (byA_t (l, r, m) (n, i, x)).run = _ ∧ _
  unfold byA_t
  simp only [T.seq]
  by_cases ht : i < 8
  · left
    rw [run_t (by simp only [decide_eq_true_eq]; exact ht)]
    iterate 2 rw [run_t (by simp only [decide_eq_true_eq]; omega)]
    rw [run_t (by simp [Row.length])]
    rw [run_t (by simp [Row.length]; omega)]
    refine ⟨_, rfl, ?_⟩
    simp [Row.length, IntKind.wrap_i64]
    omega
  · right
    rw [run_f (by simp only [decide_eq_false_iff_not]; exact ht)]
    exact ⟨_, rfl, h2, by simp only; omega⟩

theorem bytesOf_size (l : List Int) : (bytesOf l).size = l.length := by
  show (bytesOf l).data.size = _
  simp [bytesOf]

theorem bytes_k (l : List Int) (r : ByteArray) (m : Int) : bytes.ok (l, r, m) = true ∧ (bytes.res (l, r, m)).size ≤ 32 := by
  obtain ⟨h1, h2, h3⟩ := byA_k l r m
  have hv : bytes.val (l, r, m) = some (bytesOf (List.take (byA.res (l, r, m) (0, 0, [])).1 (List.drop 0 (byA.res (l, r, m) (0, 0, [])).2.2))) := by
    show (bytes_t (l, r, m)).run = _
    unfold bytes_t
    simp only [T.seq]
    rw [run_t h1, run_t (by simp only [decide_eq_true_eq]; omega)]
    rfl
  rw [Fun.ok_of hv, Fun.res_of hv, bytesOf_size]
  exact ⟨rfl, by simp; omega⟩

theorem suA_k (l : List Int) (r : ByteArray) (m : Int) (l2 : List Int) (r2 : ByteArray) (m2 : Int) (h : r.size < 64) :
    suA.ok (l, r, m, l2, r2, m2) (1, [128]) = true ∧ (suA.res (l, r, m, l2, r2, m2) (1, [128])).2.length = (suA.res (l, r, m, l2, r2, m2) (1, [128])).1 ∧ (suA.res (l, r, m, l2, r2, m2) (1, [128])).1 ≤ 64 := by
  -- N: how long the padding is
  obtain ⟨N, hN0, hN1, hN⟩ : ∃ N : Nat, 1 ≤ N ∧ N ≤ 64 ∧ (r.size + N) % 64 = 56 := by
    by_cases hr : r.size < 56
    · exact ⟨56 - r.size, by omega, by omega, by omega⟩
    · exact ⟨120 - r.size, by omega, by omega, by omega⟩
  refine Loop.ind suA (l, r, m, l2, r2, m2) (fun x => 1 ≤ x.1 ∧ x.1 ≤ N ∧ x.2.length = x.1) (fun x => N - x.1) (fun x => x.2.length = x.1 ∧ x.1 ≤ 64) ?_ (by simp; omega) (by simp only [suA]; omega)
  rintro ⟨n, x⟩ ⟨h0, h1, h2⟩
  simp only at h0 h1 h2
  show (∃ s', (suA_t (l, r, m, l2, r2, m2) (n, x)).run = _ ∧ _) ∨ ∃ r', (suA_t (l, r, m, l2, r2, m2) (n, x)).run = _ ∧ _
  unfold suA_t
  simp only [T.seq]
  have hw : IntKind.i64.wrap ((r.size : Int) + (n : Int)) = ((r.size + n : Nat) : Int) := by rw [IntKind.wrap_i64]; omega
  rw [hw]
  have ht : ((r.size + n : Nat) : Int).tmod 64 = (((r.size + n) % 64 : Nat) : Int) := by
    rw [Int.ofNat_tmod]; rfl
  rw [ht]
  by_cases he : (r.size + n) % 64 = 56
  · right
    rw [run_f (by rw [he]; rfl)]
    exact ⟨_, rfl, h2, by simp only; omega⟩
  · left
    rw [run_t (by simp only [bne_iff_ne, ne_eq]; omega)]
    rw [run_t rfl]
    rw [run_t (by simp [Row.length]; omega)]
    have hne : n ≠ N := by intro e; subst e; exact he hN
    refine ⟨_, rfl, ?_⟩
    simp [Row.length]
    omega

theorem suB_k (l : List Int) (r : ByteArray) (m : Int) (l2 : List Int) (r2 : ByteArray) (m2 b : Int) (n : Nat) (x : List Int) (hx : x.length = n) (hn : n ≤ 64) :
    suB.ok (l, r, m, l2, r2, m2, b) (n, 0, x) = true ∧ (suB.res (l, r, m, l2, r2, m2, b) (n, 0, x)).2.2.length = (suB.res (l, r, m, l2, r2, m2, b) (n, 0, x)).1 ∧ (suB.res (l, r, m, l2, r2, m2, b) (n, 0, x)).1 ≤ 72 := by
  refine Loop.ind suB (l, r, m, l2, r2, m2, b) (fun x => 0 ≤ x.2.1 ∧ x.2.1 ≤ 8 ∧ x.2.2.length = x.1 ∧ (x.1 : Int) ≤ 64 + x.2.1) (fun x => (8 - x.2.1).toNat) (fun x => x.2.2.length = x.1 ∧ x.1 ≤ 72) ?_ (by simp; omega) (by simp only [suB]; omega)
  rintro ⟨n, i, x⟩ ⟨h0, h1, h2, h3⟩
  simp only at h0 h1 h2 h3
  show (∃ s', (suB_t (l, r, m, l2, r2, m2, b) (n, i, x)).run = _ ∧ _) ∨ ∃ r', (suB_t (l, r, m, l2, r2, m2, b) (n, i, x)).run = _ ∧ _
  unfold suB_t
  simp only [T.seq]
  by_cases ht : i < 8
  · left
    rw [run_t (by simp only [decide_eq_true_eq]; exact ht)]
    rw [run_t (by simp only [decide_eq_true_eq, IntKind.wrap_i64]; omega)]
    rw [run_t (by simp [Row.length])]
    rw [run_t (by simp [Row.length]; omega)]
    refine ⟨_, rfl, ?_⟩
    simp [Row.length, IntKind.wrap_i64]
    omega
  · right
    rw [run_f (by simp only [decide_eq_false_iff_not]; exact ht)]
    exact ⟨_, rfl, h2, by simp only; omega⟩

theorem sum_k (l : List Int) (r : ByteArray) (m : Int) (h : r.size < 64) : sum.ok (l, r, m) = true ∧ (sum.res (l, r, m)).size ≤ 32 := by
  obtain ⟨a1, a2, a3⟩ := suA_k l r m l r 0 h
  obtain ⟨b1, b2, b3⟩ := suB_k l r m l r 0 (IntKind.u64.wrap (IntKind.u64.wrap m * 8)) _ _ a2 a3
  have hv : ∃ x, sum.val (l, r, m) = some (bytes.res x) := by
    refine ⟨?_, ?_⟩
    rotate_left
    · show (sum_t (l, r, m)).run = _
      unfold sum_t
      simp only [T.seq]
      rw [run_t a1, run_t b1]
      rw [run_t (by simp only [decide_eq_true_eq]; omega)]
      rw [run_t (write_k _ _ _ _ (by rw [bytesOf_size]; simp; omega)).1]
      rw [run_t (bytes_k _ _ _).1]
      rfl
  obtain ⟨⟨x1, x2, x3⟩, hv⟩ := hv
  rw [Fun.ok_of hv, Fun.res_of hv]
  exact ⟨rfl, (bytes_k _ _ _).2⟩

theorem heA_k (l : List Int) (r : ByteArray) (m : Int) (y : List Int) (k : Nat) (hk : y.length = k) (hk2 : k ≤ 1000) (hy : ∀ v ∈ y, 0 ≤ v ∧ v < 256) :
    heA.ok (l, r, m, k, (k : Int), y) (0, 0, []) = true ∧ (heA.res (l, r, m, k, (k : Int), y) (0, 0, [])).2.2.length = (heA.res (l, r, m, k, (k : Int), y) (0, 0, [])).1 := by
  refine Loop.ind heA (l, r, m, k, (k : Int), y) (fun x => 0 ≤ x.2.1 ∧ x.2.1 ≤ k ∧ x.2.2.length = x.1 ∧ (x.1 : Int) = 2 * x.2.1) (fun x => (k - x.2.1).toNat) (fun x => x.2.2.length = x.1) ?_ (by simp) (by simp only [heA]; omega)
  rintro ⟨n, i, x⟩ ⟨h0, h1, h2, h3⟩
  simp only at h0 h1 h2 h3
  show (∃ s', (heA_t (l, r, m, k, (k : Int), y) (n, i, x)).run = _ ∧ _) ∨ ∃ r', (heA_t (l, r, m, k, (k : Int), y) (n, i, x)).run = _ ∧ _
  unfold heA_t
  simp only [T.seq]
  by_cases ht : i < k
  · left
    have hi : i.toNat < y.length := by omega
    have hv := hy (y.getD (0 + i.toNat) 0) (by rw [Nat.zero_add, List.getD_eq_getElem?_getD, List.getElem?_eq_getElem hi]; exact List.getElem_mem hi)
    generalize y.getD (0 + i.toNat) 0 = v at hv ⊢
    have hand : IntKind.u8.wrap ((BitVec.ofInt 8 v &&& BitVec.ofInt 8 15).toNat : Int) < 16 ∧ 0 ≤ IntKind.u8.wrap ((BitVec.ofInt 8 v &&& BitVec.ofInt 8 15).toNat : Int) := by
      have e : (BitVec.ofInt 8 v &&& BitVec.ofInt 8 15).toNat ≤ 15 := by
        rw [BitVec.toNat_and]
        exact Nat.le_trans Nat.and_le_right (by decide)
      have : IntKind.u8.wrap ((BitVec.ofInt 8 v &&& BitVec.ofInt 8 15).toNat : Int) = ((BitVec.ofInt 8 v &&& BitVec.ofInt 8 15).toNat : Int) := by
        generalize (BitVec.ofInt 8 v &&& BitVec.ofInt 8 15).toNat = z at e ⊢
        simp only [IntKind.wrap, IntKind.bits, IntKind.signed]
        simp
        omega
      rw [this]
      omega
    have hq : 0 ≤ v.fdiv 16 ∧ v.fdiv 16 < 16 := by
      rw [Int.fdiv_eq_ediv_of_nonneg _ (by omega)]
      omega
    rw [run_t (by simp only [decide_eq_true_eq]; exact ht)]
    rw [run_t (by simp [Row.length]; omega)]
    rw [run_t (by simp only [decide_eq_true_eq]; omega)]
    rw [run_t (by simp only [decide_eq_true_eq]; exact hq)]
    rw [run_t (by simp only [decide_eq_true_eq]; exact ⟨hand.2, hand.1⟩)]
    rw [run_t (by simp [Row.length])]
    rw [run_t (by simp [Row.length]; omega)]
    refine ⟨_, rfl, ?_⟩
    simp [Row.length, IntKind.wrap_i64]
    omega
  · right
    rw [run_f (by simp only [decide_eq_false_iff_not]; exact ht)]
    exact ⟨_, rfl, h2⟩

theorem hexM_k (l : List Int) (r : ByteArray) (m : Int) (h : r.size < 64) : hexM.ok (l, r, m) = true := by
  obtain ⟨h1, h2⟩ := sum_k l r m h
  have hh := heA_k l r m (List.map (fun b => (b.toNat : Int)) (sum.res (l, r, m)).data.toList) (sum.res (l, r, m)).size (by rw [List.length_map, Array.length_toList]; rfl) (by omega) (by
    intro v hv
    rw [List.mem_map] at hv
    obtain ⟨b, _, rfl⟩ := hv
    have := b.toNat_lt
    omega)
  unfold Fun.ok Fun.val
  show (hexM_t (l, r, m)).run.isSome = true
  unfold hexM_t
  simp only [T.seq]
  rw [run_t h1, run_t (by simp only [decide_eq_true_eq]; omega), run_t hh.1, run_t (by simp only [decide_eq_true_eq]; omega)]
  rfl

/-- the state of a new hash, and that of one to which s was written -/
noncomputable def hash0 : List Int × ByteArray × Int := ([1779033703, 3144134277, 1013904242, 2773480762, 1359893119, 2600822924, 528734635, 1541459225], ByteArray.mk #[], 0)
theorem newHash_v : newHash.val () = some hash0 := by
  show (newHash_t ()).run = _
  unfold newHash_t
  simp only [T.seq]
  rw [run_t (by rfl)]
  rfl
noncomputable def hash1 (s : ByteArray) : List Int × ByteArray × Int := write.res (s, hash0.1, hash0.2.1, hash0.2.2)
theorem hash1_k (s : ByteArray) (h : s.size ≤ 4611686018427387904) : write.ok (s, hash0.1, hash0.2.1, hash0.2.2) = true ∧ (hash1 s).2.1.size < 64 ∧ (hash1 s).2.2 = IntKind.i64.wrap s.size := by
  have := write_k s hash0.1 hash0.2.1 hash0.2.2 (by show 0 + s.size ≤ _; omega)
  refine ⟨this.1, this.2.1, ?_⟩
  rw [hash1, this.2.2]
  show IntKind.i64.wrap (0 + s.size) = _
  rw [Int.zero_add]
noncomputable def hexOf (s : ByteArray) : ByteArray := hexM.res (hash1 s)
theorem hex_v (s : ByteArray) (h : s.size ≤ 4611686018427387904) : hex.val s = some (hexOf s) := by
  obtain ⟨h1, h2, h3⟩ := hash1_k s h
  show (hex_t s).run = _
  unfold hex_t
  simp only [T.seq]
  rw [run_t (Fun.ok_of newHash_v), Fun.res_of newHash_v, run_t h1]
  have h2' : (write.res (s, hash0.1, hash0.2.1, hash0.2.2)).2.1.size < 64 := h2
  rw [run_t (hexM_k _ _ _ h2')]
  rfl
end Go.Proofs.YtcmnnggpeloanaaGreatDoor

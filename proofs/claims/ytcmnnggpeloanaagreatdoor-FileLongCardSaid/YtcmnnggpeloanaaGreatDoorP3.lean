/- Contracts of functions of the program, printed by a program of this session and proved by the kernel, or plain laws about them: part P3. No condition. -/
import Derived.Test.YtcmnnggpeloanaaGreatDoorP2
namespace Go.Proofs.YtcmnnggpeloanaaGreatDoor
open Eng Go
set_option maxRecDepth 100000

theorem extract_list (s : ByteArray) (a b : Nat) : (s.extract a b).data.toList = (s.data.toList.drop a).take (b - a) := by
  rw [ByteArray.data_extract]
  simp [List.extract_eq_take_drop]
theorem hasPre_list (s t : ByteArray) : hasPre s t = (decide (t.data.toList.length ≤ s.data.toList.length) && (s.data.toList.take t.data.toList.length == t.data.toList)) := by
  unfold hasPre
  have e1 : ∀ x : ByteArray, x.size = x.data.toList.length := fun x => by rw [Array.length_toList]; rfl
  rw [ByteArray.toList_eq, ByteArray.toList_eq, extract_list, e1, e1]
  by_cases h : t.data.toList.length ≤ s.data.toList.length
  · rw [if_pos h, decide_eq_true h, Bool.true_and, Nat.sub_zero, List.drop_zero]
  · rw [if_neg h, decide_eq_false h, Bool.false_and]

noncomputable def e0 : ByteArray := ByteArray.mk #[]
theorem e0_append (s : ByteArray) : e0 ++ s = s := by
  apply ByteArray.ext
  rw [ByteArray.data_append]
  show #[] ++ s.data = s.data
  simp

theorem typeOf_sh : typeOf (ByteArray.mk #[35, 33, 47, 98, 105, 110, 47, 115, 104]) = 8 := by
  unfold typeOf
  simp only [hasPre_list]
  rfl
theorem typeOf_e0 : typeOf (ByteArray.mk #[]) = 0 := by
  unfold typeOf
  simp only [hasPre_list]
  rfl
theorem typeOf_ab : typeOf (ByteArray.mk #[97, 98]) = 1 := by
  have ht : textAt (ByteArray.mk #[97, 98]) := by
    intro i h1 h2
    have : i = 0 ∨ i = 1 := by have : i < 2 := h1; omega
    rcases this with rfl | rfl <;> rfl
  unfold typeOf
  simp only [hasPre_list]
  rw [if_neg (by decide), if_neg (by decide), if_neg (by decide), if_neg (by decide), if_neg (by decide), if_neg (by decide), if_neg (by decide), if_neg (by decide), if_pos ht]

theorem budget_v : budget.val () = some (4096, 100) := rfl

theorem content_v (o q k : Int) : content.val (0, o, q, k) = some (.inr (IntKind.i64.wrap (k + 1), e0, false, e0, false, e0, hash0.1, hash0.2.1, hash0.2.2)) := by
  show (content_t (0, o, q, k)).run = _
  unfold content_t
  simp only [T.seq]
  rw [run_t (Fun.ok_of newHash_v), Fun.res_of newHash_v]
  rw [run_f (by simp)]
  rfl
theorem fnew_v (nm : ByteArray) (o q : Int) : fnew.val (nm, o, q) = some (.inr (e0, false, e0, false, e0, hash0.1, hash0.2.1, hash0.2.2, 1, 0)) := by
  show (fnew_t (nm, o, q)).run = _
  unfold fnew_t
  simp only [T.seq]
  rw [run_t (Fun.ok_of (content_v o q 0)), Fun.res_of (content_v o q 0)]
  rfl

/-- what of a content is kept -/
noncomputable def headOf8 (s : ByteArray) : ByteArray := e0 ++ s.extract 0 (if IntKind.i64.wrap ((8192 : Int) - (e0.size : Int)) < (s.size : Int) then IntKind.i64.wrap ((8192 : Int) - (e0.size : Int)) else (s.size : Int)).toNat
theorem headOf8_eq (s : ByteArray) : headOf8 s = s.extract 0 (min s.size 8192) := by
  unfold headOf8
  rw [e0_append]
  have e : e0.size = 0 := rfl
  have w : IntKind.i64.wrap ((8192 : Int) - ((0 : Nat) : Int)) = 8192 := by rw [IntKind.wrap_i64]; rfl
  rw [e, w]
  congr 1
  by_cases h : (8192 : Int) < s.size
  · rw [if_pos h]; omega
  · rw [if_neg h]; omega

theorem plWrite_v (s : ByteArray) (lev o q : Int) (bg : ByteArray) (ov : Bool) (raw : ByteArray) (cn : Int) (hs : s.size ≤ 1000000000000) :
    plWrite.val (s, e0, false, lev, o, q, bg, ov, raw, hash0.1, hash0.2.1, hash0.2.2, cn) = some (headOf8 s, (hash1 s).1, (hash1 s).2.1, (hash1 s).2.2) := by
  obtain ⟨h1, _⟩ := hash1_k s (by omega)
  show (plWrite_t (s, e0, false, lev, o, q, bg, ov, raw, hash0.1, hash0.2.1, hash0.2.2, cn)).run = _
  unfold plWrite_t
  simp only [T.seq]
  have e : e0.size = 0 := rfl
  have w : IntKind.i64.wrap ((8192 : Int) - (e0.size : Int)) = 8192 := by rw [e, IntKind.wrap_i64]; rfl
  rw [run_f rfl, run_t h1]
  rw [run_t (by
    simp only [decide_eq_true_eq, w]
    by_cases h : (8192 : Int) < s.size
    · rw [if_pos h]; omega
    · rw [if_neg h]; omega)]
  rw [run_t (by
    simp only [decide_eq_true_eq, w, ByteArray.size_extract, e]
    omega)]
  rfl

/-- s is written to a new extractor: nothing is unpacked -/
theorem exWrite_v (s nm : ByteArray) (o q : Int) (hs : s.size ≤ 1000000000000) (ht : s.size < 2 ∨ typeOf s ≠ 2) :
    ∃ ov, exWrite.val (s, nm, e0, false, 0, o, q, e0, false, e0, hash0.1, hash0.2.1, hash0.2.2, 1) = some (headOf8 s, s, ov, (hash1 s).1, (hash1 s).2.1, (hash1 s).2.2) := by
  have hw := plWrite_v s 0 o q e0 false e0 1 hs
  have pk : ∃ ov, pkWrite.val (s, e0, false, 0, o, q, e0, false, e0, hash0.1, hash0.2.1, hash0.2.2, 1) = some (headOf8 s, s, ov, (hash1 s).1, (hash1 s).2.1, (hash1 s).2.2) := by
    have h0 : ∀ ov x, (pkWrite_t (s, e0, false, 0, o, q, e0, false, e0, hash0.1, hash0.2.1, hash0.2.2, 1)).run = some (x, s, ov, (hash1 s).1, (hash1 s).2.1, (hash1 s).2.2) → x = headOf8 s → pkWrite.val (s, e0, false, 0, o, q, e0, false, e0, hash0.1, hash0.2.1, hash0.2.2, 1) = some (headOf8 s, s, ov, (hash1 s).1, (hash1 s).2.1, (hash1 s).2.2) := by
      rintro ov x h rfl; exact h
    unfold pkWrite_t at h0
    simp only [T.seq, e0_append] at h0
    rw [run_f rfl, run_t (Fun.ok_of hw), Fun.res_of hw, run_f rfl, run_t (by simp only [decide_eq_true_eq]; have : e0.size = 0 := rfl; omega)] at h0
    by_cases h2 : (s.size : Int) < 2
    · rw [run_t (by simp only [decide_eq_true_eq]; exact h2)] at h0
      exact ⟨_, h0 _ _ rfl rfl⟩
    · rw [run_f (by simp only [decide_eq_false_iff_not]; exact h2), run_t (Fun.ok_of (type_v s (by omega))), Fun.res_of (type_v s (by omega))] at h0
      rw [run_t (by simp only [bne_iff_ne, ne_eq]; exact ht.resolve_left (by omega))] at h0
      exact ⟨_, h0 _ _ rfl rfl⟩
  obtain ⟨ov, pk⟩ := pk
  refine ⟨ov, ?_⟩
  show (exWrite_t (s, nm, e0, false, 0, o, q, e0, false, e0, hash0.1, hash0.2.1, hash0.2.2, 1)).run = _
  unfold exWrite_t
  simp only [T.seq]
  rw [run_t (Fun.ok_of pk), Fun.res_of pk]
  rfl

theorem exSize_v (nm hd : ByteArray) (inc : Bool) (lev o q : Int) (bg : ByteArray) (ov : Bool) (raw : ByteArray) (l : List Int) (r : ByteArray) (m cn : Int) :
    exSize.val (nm, hd, inc, lev, o, q, bg, ov, raw, l, r, m, cn) = some (hd.size : Int) := by
  have h1 : plSize.val (hd, inc, lev, o, q, bg, ov, raw, l, r, m, cn) = some (hd.size : Int) := rfl
  have h2 : pkSize.val (hd, inc, lev, o, q, bg, ov, raw, l, r, m, cn) = some (hd.size : Int) := by
    show (pkSize_t (hd, inc, lev, o, q, bg, ov, raw, l, r, m, cn)).run = _
    unfold pkSize_t
    simp only [T.seq]
    rw [run_t (Fun.ok_of h1), Fun.res_of h1]
    rfl
  show (exSize_t (nm, hd, inc, lev, o, q, bg, ov, raw, l, r, m, cn)).run = _
  unfold exSize_t
  simp only [T.seq]
  rw [run_t (Fun.ok_of h2), Fun.res_of h2]
  rfl

theorem exClose_v (nm hd : ByteArray) (inc : Bool) (lev o q : Int) (bg : ByteArray) (ov : Bool) (raw : ByteArray) (s : ByteArray) (cn : Int) (hs : s.size ≤ 1000000000000) (hd2 : hd.size ≤ 1000000000000) :
    exClose.val (nm, hd, inc, lev, o, q, bg, ov, raw, (hash1 s).1, (hash1 s).2.1, (hash1 s).2.2, cn) = some (hexOf s, typeOf hd, (s.size : Int), !inc) := by
  obtain ⟨_, h2, h3⟩ := hash1_k s (by omega)
  have hx : hexM.ok ((hash1 s).1, (hash1 s).2.1, (hash1 s).2.2) = true := hexM_k _ _ _ h2
  have hm : (hash1 s).2.2 = (s.size : Int) := by rw [h3]; exact wrap_i (by omega) (by omega)
  have hl : lenM.val ((hash1 s).1, (hash1 s).2.1, (hash1 s).2.2) = some (s.size : Int) := by rw [← hm]; rfl
  have p1 : plFiles.val (nm, hd, inc, lev, o, q, bg, ov, raw, (hash1 s).1, (hash1 s).2.1, (hash1 s).2.2, cn) = some (hexOf s, typeOf hd, (s.size : Int), !inc) := by
    show (plFiles_t (nm, hd, inc, lev, o, q, bg, ov, raw, (hash1 s).1, (hash1 s).2.1, (hash1 s).2.2, cn)).run = _
    unfold plFiles_t
    simp only [T.seq]
    rw [run_t hx, run_t (Fun.ok_of (type_v hd (by omega))), Fun.res_of (type_v hd (by omega)), run_t (Fun.ok_of hl), Fun.res_of hl]
    rfl
  have p2 : pkFiles.val (nm, hd, inc, lev, o, q, bg, ov, raw, (hash1 s).1, (hash1 s).2.1, (hash1 s).2.2, cn) = some (hexOf s, typeOf hd, (s.size : Int), !inc) := by
    show (pkFiles_t (nm, hd, inc, lev, o, q, bg, ov, raw, (hash1 s).1, (hash1 s).2.1, (hash1 s).2.2, cn)).run = _
    unfold pkFiles_t
    simp only [T.seq]
    rw [run_t (Fun.ok_of p1), Fun.res_of p1]
    rfl
  show (exClose_t (nm, hd, inc, lev, o, q, bg, ov, raw, (hash1 s).1, (hash1 s).2.1, (hash1 s).2.2, cn)).run = _
  unfold exClose_t
  simp only [T.seq]
  rw [run_t (Fun.ok_of p2), Fun.res_of p2]
  rfl
end Go.Proofs.YtcmnnggpeloanaaGreatDoor

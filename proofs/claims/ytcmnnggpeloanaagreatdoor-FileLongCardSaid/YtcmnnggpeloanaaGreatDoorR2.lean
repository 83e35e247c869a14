/- FileLong answers true for every number and every byte: the card, tied. No condition beyond the row. -/
import Derived.Test.YtcmnnggpeloanaaGreatDoorP5
import Derived.Test.YtcmnnggpeloanaaGreatDoorR0
namespace Go.Proofs.YtcmnnggpeloanaaGreatDoor
open Go.ChangeShapes Go.WideShapes Go.ChangeAt Go.RowKit Go.ChangeMaps
open Eng Go
set_option maxRecDepth 100000

theorem u8_wf {c : Int} (h : (Lit.int .u8 c).wf = true) : 0 ≤ c ∧ c < 256 := by
  simp only [Lit.wf, Bool.and_eq_true, decide_eq_true_eq] at h
  have h1 : IntKind.u8.min = 0 := rfl
  have h2 : IntKind.u8.max = 255 := rfl
  omega

theorem law6_calls (W : World) (n c : Int) (hc : (Lit.int .u8 c).wf = true) (h : Lib.TabIs Tryz.prog W "intrusion/digest.constants" .u32 shaC) :
    Calls Tryz.prog 6 #[.int .i64 n, .int .u8 c] W fun e W' => e = .returned (.bool true) ∧ Old W W' := by
  have hrun : (fgt law6.g [.v (.int .i64 n) false, .v (.int .u8 c) false] ⟨[], []⟩).run = some (law6_O (n, c) true) := by
    show (law6.g [.v (.int .i64 n) false, .v (.int .u8 c) false] ⟨[], []⟩).run = _
    show (T.br (law6.ok (n, c)) (law6_B (n, c) (law6.res (n, c))) .stuck).run = _
    rw [run_t (Fun.ok_of (law6_v n c (u8_wf hc).1 (u8_wf hc).2)), Fun.res_of (law6_v n c (u8_wf hc).1 (u8_wf hc).2)]
    rfl
  have hc := fn_calls K0_good law6_ok (args := [.v (.int .i64 n) false, .v (.int .u8 c) false]) (glob_real h) ⟨trivial, trivial, trivial⟩ hrun
  refine hc.mono ?_
  rintro e W' ⟨⟨E', he⟩, ho⟩
  exact ⟨he, ho⟩

theorem law6_contract (H : Type) (enc : TypeId × Value → H) (W : World) (base : Nat) (args : Array Value) (ds gs : List (DataW H)) (before : List MemPlace)
    (hval : ∀ (j : Nat) t v, Tryz.f6.params[j]? = some t → args[j]? = some v → Value.okWide Tryz.prog W .any base t v)
    (hW : DataW.Whole enc Tryz.prog Tryz.f6.params.toList Rows.fileLongSpec.vars false W args.toList ds gs before) (hL : laidMetH Tryz.prog Rows.fileLongRow.laid W) :
    Calls Tryz.prog 6 args W fun e W' => ∃ v, e = .returned v ∧ Rows.fileLongSpec.post enc Tryz.prog Tryz.f6 false true false false W args v W' := by
  have hW' := hW
  obtain ⟨p, q, hA0, hV, rfl, hfz, hnd⟩ := hW
  have hA : DataW.TrodAll enc Tryz.prog W 0 (fun _ => true) true Tryz.f6.params.toList args.toList ds p := hA0
  rw [Tryz.params6] at hA hval
  obtain ⟨v0, vs0, d0, ds0, p0, q0, hargs, rfl, rfl, h0, r0⟩ := trodAll_cons hA
  obtain ⟨v1, vs1, d1, ds1, p1, q1, rfl, rfl, rfl, h1, r1⟩ := trodAll_cons r0
  obtain ⟨rfl, rfl, rfl⟩ := trodAll_nil r1
  obtain rfl : args = #[v0, v1] := by cases args; simp_all
  obtain ⟨rfl, rfl⟩ := trodVars_none hV
  obtain ⟨n, rfl, rfl, rfl, hn⟩ := open_int Tryz.underlying3 (hval 0 3 v0 rfl rfl) h0
  obtain ⟨c, rfl, rfl, rfl, hc⟩ := open_int Tryz.underlying5 (hval 1 5 v1 rfl rfl) h1
  clear hA0
  simp only [List.append_nil] at hW'
  refine (law6_calls W n c hc (table hL)).mono fun e W' ⟨he, ho⟩ => ?_
  subst he
  exact ⟨_, rfl, post_old (pa := []) (pv := []) hW' (fun _ _ _ => trodAll_cons_mk (shut_bool Tryz.underlying4 _) trodAll_mk0) (fun _ _ => trodAll_cons_mk (shut_int Tryz.underlying3 hn) (trodAll_cons_mk (shut_int Tryz.underlying5 hc) trodAll_mk0)) (fun _ _ => rfl) rfl
    ho (ok_one (by kernel_rfl) rfl (okWide_bool_mk Tryz.underlying4 _))⟩

theorem law6_laid (os : Os) : laidMet Tryz.prog Rows.fileLongRow.laid ((laidWorld os).forCall (fun _ _ => 0) ⟨#[], #[.int .i64 0, .int .u8 0], []⟩).memory :=
  laidMet_of_run' 8 (by kernel_rfl) (by kernel_rfl)
theorem law6_reads (os : Os) {H : Type} (enc : TypeId × Value → H) : ∃ places, DataW.whole enc Tryz.prog ((laidWorld os).forCall (fun _ _ => 0) ⟨#[], #[.int .i64 0, .int .u8 0], []⟩).memory Tryz.f6.params.toList Rows.fileLongSpec.vars false #[Value.int .i64 0, Value.int .u8 0].toList 8 = some ([.lit (.int .i64 0), .lit (.int .u8 0)], [], places) :=
  ⟨[], by kernel_rfl⟩

theorem law6_lifted (os : Os) (started : os.Started) (H : Type) (enc : TypeId × Value → H) (F : Stop.Interp) :
    ReturnsInHanded {} Tryz.checked os 6 .any ((OpenSpec.ofChange Rows.fileLongSpec).preRow enc Tryz.prog Tryz.f6 Rows.fileLongRow.domain false Rows.fileLongRow.laid) (((OpenSpec.ofChange Rows.fileLongSpec).at F).post enc Tryz.prog Tryz.f6 false true false false) := by
  obtain ⟨places, hx⟩ := law6_reads os enc
  refine returnsInHanded_of_row (C := Tryz.checked) (s := OpenSpec.ofChange Rows.fileLongSpec) own started (by kernel_rfl) Tryz.func6
    (witness_row_at (enc := enc) (C := Tryz.checked) false (laidWorld os) #[.int .i64 0, .int .u8 0] rfl (by kernel_rfl) (by kernel_rfl) (by kernel_rfl)
      (OpenSpec.preRow_of_cond 8 hx (by kernel_rfl) (fun k hk => by cases hk) (by kernel_rfl) (law6_laid os))) ?_
  intro W base args ds gs before hval hW _ _ _ hL _ _
  exact law6_contract H enc W base args ds gs before hval hW hL

theorem fileLong_said : Rows.FileLongSaid :=
  OpenClaim.holds_of_cond 6 Tryz.f6 rfl rfl rfl rfl rfl rfl rfl ⟨rfl, rfl, rfl, rfl, rfl⟩ rfl rfl rfl rfl rfl (by kernel_rfl) Tryz.func6 (by kernel_rfl)
    (of_decide_eq_true (by kernel_rfl)) (by unfold Func.isWrapper; first | (rw [if_pos (by decide +kernel)]; kernel_rfl) | (rw [if_neg (by decide +kernel)]; exact ⟨rfl, rfl⟩))
    (fun os started H enc _ F => by rw [OpenClaim.pre_eq_preRow]; exact law6_lifted os started H enc F)

theorem fileLong_plain (f : FuncId) (fn : Func) (hf : Tryz.pinned.checked.prog.funcNamed "intrusion/intrusionlaw39.FileLong" = some f) (hfn : Tryz.pinned.checked.prog.funcs[f]? = some fn) :
    false = Tryz.pinned.checked.prog.looks [] ∧ ∀ (j : Nat) t, fn.params[j]? = some t → Tryz.pinned.checked.prog.wantsStandIn t = false := by
  obtain rfl : f = 6 := Option.some.inj ((show Tryz.prog.funcNamed "intrusion/intrusionlaw39.FileLong" = some 6 by kernel_rfl).symm.trans hf) |>.symm
  obtain rfl : fn = Tryz.f6 := (Option.some.inj (Tryz.func6.symm.trans hfn)).symm
  refine ⟨by kernel_rfl, fun j t ht => ?_⟩
  rw [Tryz.params6] at ht
  have hm : t = 3 ∨ t = 5 := by simpa using Array.mem_of_getElem? ht
  rcases hm with rfl | rfl
  · exact (show Tryz.prog.wantsStandIn 3 = false by kernel_rfl)
  · exact (show Tryz.prog.wantsStandIn 5 = false by kernel_rfl)

/-- THE CARD -/
theorem fileLong_card : Rows.FileLongCardSaid :=
  Claim7.holds_tied_plain_at .later [] _ _ _ _ fileLong_said (fun _ h => by cases h) (by kernel_rfl) (fun _ h => by cases h) fileLong_row_tie rfl ⟨rfl, rfl⟩ (by kernel_rfl) rfl fileLong_plain (by kernel_rfl)
#print axioms fileLong_card
end Go.Proofs.YtcmnnggpeloanaaGreatDoor

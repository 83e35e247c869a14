/- FileTypes answers true for every string: the card, tied. No condition beyond the row. -/
import Derived.Test.YtcmnnggpeloanaaGreatDoorP4
import Derived.Test.YtcmnnggpeloanaaGreatDoorEng29
import Derived.Test.YtcmnnggpeloanaaGreatDoorCards
import Derived.Test.YtcmnnggpeloanaaGreatDoorTie
import Derived.ProofKit
import Derived.OpenShut
import Derived.Deep.DeepHandedRow
import Derived.Lib.LaidTab
namespace Go.Proofs.YtcmnnggpeloanaaGreatDoor
open Go.ChangeShapes Go.WideShapes Go.ChangeAt Go.RowKit Go.ChangeMaps
open Eng Go
set_option maxRecDepth 100000

theorem own : ownKnob Tryz.prog.godebug = none := by kernel_rfl
theorem gTab : Tryz.prog.globalNamed "intrusion/digest.constants" = some 1 := by kernel_rfl
theorem gTabType : (Tryz.prog.globals[1]?).map (·.type) = some 179 := by kernel_rfl
theorem cells179 : Tryz.prog.cellsOf 179 = 64 := by kernel_rfl
theorem cells63 : Tryz.prog.cellsOf 63 = 1 := by kernel_rfl

/-- what the row's list gives -/
theorem table {W : World} (h : laidMetH Tryz.prog Rows.fileTypesRow.laid W) : Lib.TabIs Tryz.prog W "intrusion/digest.constants" .u32 shaC :=
  Lib.tabIs_of_head (rest := []) gTab gTabType Tryz.underlying179 Tryz.underlying63 cells63 cells179 h

theorem glob_real {W : World} (h : Lib.TabIs Tryz.prog W "intrusion/digest.constants" .u32 shaC) : ∀ k s, K0.glob k = some s → s.real W E0 ⟨[k], 0, 0⟩ ∧ k < W.heap.size := by
  intro k s hk
  simp only [K0] at hk
  split at hk
  · rename_i hk1
    subst hk1
    cases hk
    have cell : ∀ j, j < 64 → W.cell? ⟨1, j, none⟩ = some (.int .u32 (shaC.getD j 0)) := fun j hj => h.cell gTab j hj
    refine ⟨⟨1, rfl, ?_⟩, ?_⟩
    · intro j v hj
      have hlen : (cellsOf (concL E0 [AV.arr .u32 64 shaC])).length = 64 := rfl
      have hj64 : j < 64 := by rw [← hlen]; exact (List.getElem?_eq_some_iff.1 hj).1
      show W.cell? ⟨1, 0 + j, none⟩ = _
      rw [Nat.zero_add, cell j hj64]
      have e : cellsOf (concL E0 [AV.arr .u32 64 shaC]) = arrVals .u32 64 shaC := by
        simp [concL, conc, cellsOf, Value.cells]
      rw [e, arrVals_get _ _ _ _ hj64] at hj
      exact hj
    · have := cell 0 (by omega)
      apply Decidable.byContradiction
      intro hb
      have hn : W.heap[1]? = none := Array.getElem?_eq_none (by omega)
      unfold World.cell? at this
      simp [hn] at this
  · cases hk

/-- A WORLD FOR THE WITNESS -/
noncomputable def laidWorld (os : Os) : World :=
  { World.holding Tryz.prog os ⟨#[], #[], []⟩ with heap := (World.holding Tryz.prog os ⟨#[], #[], []⟩).heap.modify 1 fun
      | .cells _ t frozen => .cells (shaC.map fun z => Value.int .u32 z).toArray t frozen
      | o => o }

theorem law5_calls (W : World) (x : ByteArray) (h : Lib.TabIs Tryz.prog W "intrusion/digest.constants" .u32 shaC) :
    Calls Tryz.prog 5 #[.string x] W fun e W' => e = .returned (.bool true) ∧ Old W W' := by
  have hrun : (fgt law5.g [.v (.string x) false] ⟨[], []⟩).run = some (law5_O x true) := by
    show (law5.g [.v (.string x) false] ⟨[], []⟩).run = _
    show (T.br (law5.ok x) (law5_B x (law5.res x)) .stuck).run = _
    rw [run_t (Fun.ok_of (law5_v x)), Fun.res_of (law5_v x)]
    rfl
  have hc := fn_calls K0_good law5_ok (args := [.v (.string x) false]) (glob_real h) ⟨trivial, trivial⟩ hrun
  refine hc.mono ?_
  rintro e W' ⟨⟨E', he⟩, ho⟩
  exact ⟨he, ho⟩

theorem law5_contract (H : Type) (enc : TypeId × Value → H) (W : World) (base : Nat) (args : Array Value) (ds gs : List (DataW H)) (before : List MemPlace)
    (hval : ∀ (j : Nat) t v, Tryz.f5.params[j]? = some t → args[j]? = some v → Value.okWide Tryz.prog W .any base t v)
    (hW : DataW.Whole enc Tryz.prog Tryz.f5.params.toList Rows.fileTypesSpec.vars false W args.toList ds gs before) (hL : laidMetH Tryz.prog Rows.fileTypesRow.laid W) :
    Calls Tryz.prog 5 args W fun e W' => ∃ v, e = .returned v ∧ Rows.fileTypesSpec.post enc Tryz.prog Tryz.f5 false true false false W args v W' := by
  have hW' := hW
  obtain ⟨p, q, hA0, hV, rfl, hfz, hnd⟩ := hW
  have hA : DataW.TrodAll enc Tryz.prog W 0 (fun _ => true) true Tryz.f5.params.toList args.toList ds p := hA0
  rw [Tryz.params5] at hA hval
  obtain ⟨v0, vs0, d0, ds0, p0, q0, hargs, rfl, rfl, h0, r0⟩ := trodAll_cons hA
  obtain ⟨rfl, rfl, rfl⟩ := trodAll_nil r0
  obtain rfl : args = #[v0] := by cases args; simp_all
  obtain ⟨rfl, rfl⟩ := trodVars_none hV
  obtain ⟨x, rfl, rfl, rfl, hx⟩ := open_string Tryz.underlying9 (hval 0 9 v0 rfl rfl) h0
  clear hA0
  simp only [List.append_nil] at hW'
  refine (law5_calls W x (table hL)).mono fun e W' ⟨he, ho⟩ => ?_
  subst he
  exact ⟨_, rfl, post_old (pa := []) (pv := []) hW' (fun _ _ _ => trodAll_cons_mk (shut_bool Tryz.underlying4 _) trodAll_mk0) (fun _ _ => trodAll_cons_mk (shut_string Tryz.underlying9 hx) trodAll_mk0) (fun _ _ => rfl) rfl
    ho (ok_one (by kernel_rfl) rfl (okWide_bool_mk Tryz.underlying4 _))⟩

theorem law5_laid (os : Os) : laidMet Tryz.prog Rows.fileTypesRow.laid ((laidWorld os).forCall (fun _ _ => 0) ⟨#[], #[.string (ByteArray.mk #[])], []⟩).memory :=
  laidMet_of_run' 8 (by kernel_rfl) (by kernel_rfl)
theorem law5_reads (os : Os) {H : Type} (enc : TypeId × Value → H) : ∃ places, DataW.whole enc Tryz.prog ((laidWorld os).forCall (fun _ _ => 0) ⟨#[], #[.string (ByteArray.mk #[])], []⟩).memory Tryz.f5.params.toList Rows.fileTypesSpec.vars false #[Value.string (ByteArray.mk #[])].toList 8 = some ([.lit (.string [])], [], places) :=
  ⟨[], by kernel_rfl⟩

theorem law5_lifted (os : Os) (started : os.Started) (H : Type) (enc : TypeId × Value → H) (F : Stop.Interp) :
    ReturnsInHanded {} Tryz.checked os 5 .any ((OpenSpec.ofChange Rows.fileTypesSpec).preRow enc Tryz.prog Tryz.f5 Rows.fileTypesRow.domain false Rows.fileTypesRow.laid) (((OpenSpec.ofChange Rows.fileTypesSpec).at F).post enc Tryz.prog Tryz.f5 false true false false) := by
  obtain ⟨places, hx⟩ := law5_reads os enc
  refine returnsInHanded_of_row (C := Tryz.checked) (s := OpenSpec.ofChange Rows.fileTypesSpec) own started (by kernel_rfl) Tryz.func5
    (witness_row_at (enc := enc) (C := Tryz.checked) false (laidWorld os) #[.string (ByteArray.mk #[])] rfl (by kernel_rfl) (by kernel_rfl) (by kernel_rfl)
      (OpenSpec.preRow_of_cond 8 hx (by kernel_rfl) (fun k hk => by cases hk) (by kernel_rfl) (law5_laid os))) ?_
  intro W base args ds gs before hval hW _ _ _ hL _ _
  exact law5_contract H enc W base args ds gs before hval hW hL

theorem fileTypes_said : Rows.FileTypesSaid :=
  OpenClaim.holds_of_cond 5 Tryz.f5 rfl rfl rfl rfl rfl rfl rfl ⟨rfl, rfl, rfl, rfl, rfl⟩ rfl rfl rfl rfl rfl (by kernel_rfl) Tryz.func5 (by kernel_rfl)
    (of_decide_eq_true (by kernel_rfl)) (by unfold Func.isWrapper; first | (rw [if_pos (by decide +kernel)]; kernel_rfl) | (rw [if_neg (by decide +kernel)]; exact ⟨rfl, rfl⟩))
    (fun os started H enc _ F => by rw [OpenClaim.pre_eq_preRow]; exact law5_lifted os started H enc F)

theorem fileTypes_plain (f : FuncId) (fn : Func) (hf : Tryz.pinned.checked.prog.funcNamed "intrusion/intrusionlaw39.FileTypes" = some f) (hfn : Tryz.pinned.checked.prog.funcs[f]? = some fn) :
    false = Tryz.pinned.checked.prog.looks [] ∧ ∀ (j : Nat) t, fn.params[j]? = some t → Tryz.pinned.checked.prog.wantsStandIn t = false := by
  obtain rfl : f = 5 := Option.some.inj ((show Tryz.prog.funcNamed "intrusion/intrusionlaw39.FileTypes" = some 5 by kernel_rfl).symm.trans hf) |>.symm
  obtain rfl : fn = Tryz.f5 := (Option.some.inj (Tryz.func5.symm.trans hfn)).symm
  refine ⟨by kernel_rfl, fun j t ht => ?_⟩
  rw [Tryz.params5] at ht
  obtain rfl : t = 9 := by simpa using Array.mem_of_getElem? ht
  exact (show Tryz.prog.wantsStandIn 9 = false by kernel_rfl)

/-- THE CARD -/
theorem fileTypes_card : Rows.FileTypesCardSaid :=
  Claim7.holds_tied_plain_at .later [] _ _ _ _ fileTypes_said (fun _ h => by cases h) (by kernel_rfl) (fun _ h => by cases h) fileTypes_row_tie rfl ⟨rfl, rfl⟩ (by kernel_rfl) rfl fileTypes_plain (by kernel_rfl)
#print axioms fileTypes_card
end Go.Proofs.YtcmnnggpeloanaaGreatDoor

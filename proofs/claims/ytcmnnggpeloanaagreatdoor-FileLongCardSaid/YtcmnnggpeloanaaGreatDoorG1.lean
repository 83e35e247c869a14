/- Contracts of functions of the program, printed by a program of this session and proved by the kernel, or plain laws about them: part G1. No condition. -/
import Derived.Test.YtcmnnggpeloanaaGreatDoorEng28
import Derived.Test.YtcmnnggpeloanaaGreatDoorRows
namespace Go.Proofs.YtcmnnggpeloanaaGreatDoor
open Eng Go

/-! ### the program for the engine -/
def shaC : List Int := [1116352408, 1899447441, 3049323471, 3921009573, 961987163, 1508970993, 2453635748, 2870763221, 3624381080, 310598401, 607225278, 1426881987, 1925078388, 2162078206, 2614888103, 3248222580, 3835390401, 4022224774, 264347078, 604807628, 770255983, 1249150122, 1555081692, 1996064986, 2554220882, 2821834349, 2952996808, 3210313671, 3336571891, 3584528711, 113926993, 338241895, 666307205, 773529912, 1294757372, 1396182291, 1695183700, 1986661051, 2177026350, 2456956037, 2730485921, 2820302411, 3259730800, 3345764771, 3516065817, 3600352804, 4094571909, 275423344, 430227734, 506948616, 659060556, 883997877, 958139571, 1322822218, 1537002063, 1747873779, 1955562222, 2024104815, 2227730452, 2361852424, 2428436474, 2756734187, 3204031479, 3329325298]
noncomputable def K0 : Ctx := { P := Tryz.prog, glob := fun k => if k = 1 then some (.ro [.arr .u32 64 shaC]) else none, ents := [5,6,19,20,21,22,23,24,25,26,27,46,47,48,49,50,51,72,73,74,75,109,110,221,222,223,224,225,226,227,228,10,229,230] }

theorem K0_fns : K0.good := by
  have h : (K0.ents.all fun g => match K0.P.funcs[g]? with | some fn => !fn.body.isNone && !(fn.name == "runtime.NumGoroutine") | none => false) = true := by kernel_rfl
  intro g hg
  have := List.all_eq_true.1 h g (by simpa using hg)
  split at this
  · rename_i fn hfn
    simp only [Bool.and_eq_true, Bool.not_eq_true'] at this
    exact ⟨fn, hfn, this.1, this.2⟩
  · cases this

theorem K0_good : K0.Good := by
  refine ⟨K0_fns, fun k s h => ?_⟩
  simp only [K0] at h
  split at h
  · cases h
    exact ⟨⟨⟨rfl, trivial⟩, rfl⟩, rfl⟩
  · cases h

theorem K0_mixed : K0.P.follows .mixedOrders = true := by kernel_rfl

/-- contracts, and that they hold -/
structure Con where
  G : List (FuncId × (List AV → Heap → T (AV × Heap)))
  ok : ∀ p ∈ G, FnOk K0 p.1 p.2
noncomputable def Con.F (c : Con) : Fns := fnsOf c.G
noncomputable def Con.nil : Con := ⟨[], fun p hp => by cases hp⟩
noncomputable def Con.add (c : Con) (f : FuncId) {α ρ : Type} (D : Fun α ρ) (h : FnOk K0 f (fgt D.g)) : Con where
  G := (f, fgt D.g) :: c.G
  ok := by
    intro p hp
    rcases List.mem_cons.1 hp with rfl | hp
    · exact h
    · exact c.ok p hp

noncomputable def Con.addG (c : Con) (f : FuncId) (g : List AV → Heap → T (AV × Heap)) (h : FnOk K0 f (fgt g)) : Con where
  G := (f, fgt g) :: c.G
  ok := by
    intro p hp
    rcases List.mem_cons.1 hp with rfl | hp
    · exact h
    · exact c.ok p hp

noncomputable def L0 : Tab := fun _ => none
theorem L0_ok {F : Fns} {c : Code} : ∀ a ∈ loopsOf c, ∀ s, L0 (codeKey a) = some s → LOk K0 F L0 s a := by
  intro a _ s h; cases h

theorem Con.fn (c : Con) {α ρ : Type} (D : Fun α ρ) {L : Tab} {f : FuncId} {fn : Func} {b : Code} (n : Nat) (ni no : List (Nat × TypeId)) (hf : K0.P.funcs[f]? = some fn) (hb : fn.body = some b)
    (hL : ∀ a ∈ loopsOf b, ∀ s, L (codeKey a) = some s → LOk K0 c.F L s a)
    (hev : ∀ a, (body2 K0 c.F L n ni fn (D.enc a).1 (D.enc a).2).bind (polish K0 no) = (D.t a).bind fun r => .leaf (D.out a r))
    (hdec : ∀ l H s, D.dec l H = some s → (l, H) = D.enc s) (hout : ∀ a r, (D.outB a r).run = some (D.out a r)) : FnOk K0 f (fgt D.g) :=
  D.fn K0_good (fnsOf_ok c.ok) K0_mixed hf hb hL hev hdec hout

noncomputable def lp (f : Func) (i : Nat) : Code := (loopsOf (f.body.getD .skip)).getD i .skip

end Go.Proofs.YtcmnnggpeloanaaGreatDoor

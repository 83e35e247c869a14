/- The engine, part 27: loops and functions told by values. -/
import Derived.Test.YtcmnnggpeloanaaGreatDoorEng26
namespace Eng
open Go

section
variable {C : Ctx} {F : Fns}

theorem bind_leaf_run {α β : Type} {t : T α} {f : α → β} {b : β} (h : (t.bind fun y => .leaf (f y)).run = some b) : ∃ a, t.run = some a ∧ b = f a := by
  obtain ⟨a, h1, h2⟩ := T.bind_some h
  have := leaf_some h2
  exact ⟨a, h1, this⟩

/-! ### loops -/
/-- rounds, until the loop is left -/
def iter {σ ρ : Type} (rd : σ → T (σ ⊕ ρ)) : Nat → σ → Option ρ
  | 0, _ => none
  | n + 1, s =>
    match (rd s).run with
    | some (.inl s') => iter rd n s'
    | some (.inr r) => some r
    | none => none

/-- a loop: how its states and its ends look, its round, how many rounds there may be; φ: what stays -/
structure Loop (φ σ ρ : Type) where
  enc : φ → σ → List AV × Heap
  dec : List AV → Heap → Option (φ × σ)
  out : φ → ρ → X × List AV × Heap
  outB : φ → ρ → T (X × List AV × Heap)
  rd : φ → σ → T (σ ⊕ ρ)
  fuel : φ → σ → Nat
  d : ρ

section
variable {φ σ ρ : Type}
def Loop.endOf (D : Loop φ σ ρ) (p : φ) : σ ⊕ ρ → X × List AV × Heap
  | .inl s => (.normal, (D.enc p s).1, (D.enc p s).2)
  | .inr r => D.out p r
def Loop.val (D : Loop φ σ ρ) (p : φ) (s : σ) : Option ρ := iter (D.rd p) (D.fuel p s) s
def Loop.ok (D : Loop φ σ ρ) (p : φ) (s : σ) : Bool := (D.val p s).isSome
def Loop.res (D : Loop φ σ ρ) (p : φ) (s : σ) : ρ := (D.val p s).getD D.d
def Loop.spec (D : Loop φ σ ρ) (N : Nat) (live : Live) : LSpec where
  N := N
  live := live
  sp := fun l H =>
    match D.dec l H with
    | some (p, s) => .br (D.ok p s) (D.outB p (D.res p s)) .stuck
    | none => .stuck

theorem Loop.val_of {D : Loop φ σ ρ} {p : φ} {s : σ} {r : ρ} (h : D.val p s = some r) : D.ok p s = true ∧ D.res p s = r := by
  unfold Loop.ok Loop.res; rw [h]; exact ⟨rfl, rfl⟩
theorem Loop.val_ok {D : Loop φ σ ρ} {p : φ} {s : σ} (h : D.ok p s = true) : D.val p s = some (D.res p s) := by
  unfold Loop.ok at h
  unfold Loop.res
  cases hv : D.val p s with
  | none => rw [hv] at h; cases h
  | some r => rfl

def round (C : Ctx) (F : Fns) (L : Tab) (live : Live) (N n : Nat) (a : Code) (x : List AV × Heap) : T (X × List AV × Heap) :=
  (exec2 C F L n a (mkF N (live.l.zip x.1)) x.2).bind fun r => (cleanL C live r.2.1 r.2.2).bind fun z => .leaf (r.1, z.1, z.2)

theorem iter_iter {D : Loop φ σ ρ} {p : φ} {step : List AV → Heap → X × List AV × Heap → Prop} (hst : ∀ x y, (D.rd p x).run = some y → step (D.enc p x).1 (D.enc p x).2 (D.endOf p y)) (hne : ∀ p r, (D.out p r).1 ≠ .normal) :
    ∀ m x o, iter (D.rd p) m x = some o → Iter step (D.enc p x).1 (D.enc p x).2 (D.out p o)
  | 0, x, o, h => by cases h
  | m + 1, x, o, h => by
    unfold iter at h
    split at h
    · rename_i s' hs
      exact .more (l1 := (D.enc p s').1) (H1 := (D.enc p s').2) (hst x (.inl s') hs) (iter_iter hst hne m s' o h)
    · rename_i r hr
      cases h
      exact .done (x := (D.out p o).1) (l' := (D.out p o).2.1) (H' := (D.out p o).2.2) (hst x (.inr o) hr) (hne p o)
    · cases h

theorem Loop.lok (D : Loop φ σ ρ) {L : Tab} {N n : Nat} {live : Live} {a : Code} (hL : L (codeKey a) = some (D.spec N live))
    (hin : ∀ b ∈ loopsOf a, ∀ s, L (codeKey b) = some s → LOk C F L s b)
    (hrd : ∀ p x, round C F L live N n a (D.enc p x) = (D.rd p x).bind fun y => .leaf (D.endOf p y))
    (hdec : ∀ l H s, D.dec l H = some s → (l, H) = D.enc s.1 s.2) (hne : ∀ p r, (D.out p r).1 ≠ .normal) (hout : ∀ p r, (D.outB p r).run = some (D.out p r)) : LOk C F L (D.spec N live) a := by
  refine lok_of_iter (step := fun l H r => ∃ p x y, (l, H) = D.enc p x ∧ (D.rd p x).run = some y ∧ r = D.endOf p y) hL ?_ ?_
  · rintro l H r ⟨p, x, y, he, hy, rfl⟩
    have e1 : l = (D.enc p x).1 := by rw [← he]
    have e2 : H = (D.enc p x).2 := by rw [← he]
    subst e1 e2
    exact step_exec2 (n := n) hin (hrd p x) (bind_run hy rfl)
  · intro l H r h
    simp only [Loop.spec] at h
    split at h
    · rename_i p s hs
      have he := hdec _ _ _ hs
      have e1 : l = (D.enc p s).1 := by rw [← he]
      have e2 : H = (D.enc p s).2 := by rw [← he]
      subst e1 e2
      simp only [T.run] at h
      split at h
      · rename_i hok
        rw [hout] at h
        cases h
        exact iter_iter (fun x y hy => ⟨p, x, y, rfl, hy, rfl⟩) hne _ _ _ (Loop.val_ok hok)
      · cases h
    · cases h
end

/-! ### functions -/
/-- the result alone is kept, and what it leads to -/
def polish (C : Ctx) (nils : List (Nat × TypeId)) (x : AV × Heap) : T (AV × Heap) :=
  match x.1 with
  | .tup vs => (cleanL C ⟨List.range vs.length, nils⟩ vs x.2).bind fun y => must (y.1.all notJunk) (.leaf (.tup y.1, y.2))
  | a => (cleanL C ⟨[0], nils⟩ [a] x.2).bind fun y =>
    match y.1 with
    | [b] => must (notJunk b) (.leaf (b, y.2))
    | _ => .stuck

theorem act_rel {E : Env} {H : Heap} {vs : List AV} (hw : AV.wfL H.o.length H.n.length vs) : Rel E H vs { tmps := (concL E vs).toArray, defers := [] } := by
  refine ⟨by simp [concL_map], rfl, fun t ht => ?_⟩
  have e : vs.getD t U = vs[t] := by simp [List.getD_eq_getElem?_getD, ht]
  rw [e]
  refine ⟨AV.wfL_iff.1 hw _ (List.getElem_mem ht), .inr ?_⟩
  simp [concL_map, ht]

theorem mkF_zip {vs : List AV} : mkF vs.length ((List.range vs.length).zip vs) = vs := by
  apply List.ext_getElem?
  intro i
  unfold mkF
  rw [List.getElem?_map]
  by_cases h : i < vs.length
  · rw [List.getElem?_range h]
    simp only [Option.map_some, List.getElem?_eq_getElem h]
    congr 1
    unfold pickF
    have : ∀ (l : List AV) (b k : Nat), k < l.length → ((List.range' b l.length).zip l).lookup (b + k) = l[k]? := by
      intro l
      induction l with
      | nil => intro b k hk; simp at hk
      | cons a l ih =>
        intro b k hk
        simp only [List.length_cons, List.range'_succ, List.zip_cons_cons, List.lookup_cons]
        cases k with
        | zero => simp
        | succ k =>
          have : (b + (k + 1) == b) = false := by simp
          rw [this]
          have e := ih (b + 1) k (by simpa using hk)
          rw [show b + (k + 1) = b + 1 + k by omega, e]
          simp
    have e := this vs 0 i h
    rw [Nat.zero_add, ← List.range_eq_range'] at e
    rw [e, List.getElem?_eq_getElem h]
  · rw [List.getElem?_eq_none (by simpa using h), List.getElem?_eq_none (by omega)]
    rfl

theorem cleanL_len {live : Live} {fr : List AV} {H : Heap} {y : List AV × Heap} (h : (cleanL C live fr H).run = some y) : y.1.length = live.l.length := by
  unfold cleanL cleanL0 at h
  simp only at h
  split at h
  · rename_i vs Os Ns h1 h2 h3
    have := leaf_some h
    subst this
    have : ∀ (l r : List AV) (m : Id → Option Id), renL m l = some r → r.length = l.length := by
      intro l
      induction l with
      | nil => intro r m h; simp [renL] at h; subst h; rfl
      | cons a l ih =>
        intro r m h
        unfold renL at h
        split at h
        · rename_i x xs _ hx
          cases h
          simp [ih xs m hx]
        · cases h
    rw [this _ _ _ h1, fgL_length, List.length_map]
  · cases h

theorem conc_frame {E : Env} {H : Heap} {a : Act} : ∀ {vs : List AV}, Rel E H vs a → (∀ v ∈ vs, notJunk v = true) → AV.wfL H.o.length H.n.length vs ∧ concL E vs = a.tmps.toList := by
  intro vs hrel hj
  refine ⟨?_, ?_⟩
  · rw [AV.wfL_iff]
    intro v hv
    obtain ⟨t, ht, rfl⟩ := List.getElem_of_mem hv
    have := (hrel.tmps t ht).1
    simpa [List.getD_eq_getElem?_getD, ht] using this
  · apply List.ext_getElem?
    intro t
    by_cases ht : t < vs.length
    · have h1 := (hrel.tmps t ht).2
      have e : vs.getD t U = vs[t] := by simp [List.getD_eq_getElem?_getD, ht]
      rw [e] at h1
      have h2 := h1.resolve_left (by intro h0; have := hj _ (List.getElem_mem ht); rw [h0] at this; cases this)
      have h3 : a.tmps.toList[t]? = some (conc E vs[t]) := by rw [← h2]; simp
      rw [h3]
      simp [concL_map, ht]
    · rw [List.getElem?_eq_none (by simpa [concL_map] using ht), List.getElem?_eq_none (by rw [Array.length_toList, hrel.size]; omega)]

theorem polish_list (hG : C.Good) {E0 E : Env} {H0 H H' : Heap} {w0 w : World} {nils : List (Nat × TypeId)} {vs vs' : List AV} (hn : H0.n = []) (hO : Step C E0 H0 w0 E H w) (hw : AV.wfL H.o.length H.n.length vs)
    (h : (cleanL C ⟨List.range vs.length, nils⟩ vs H).run = some (vs', H')) (hj : vs'.all notJunk = true) :
    ∃ E', Step C E0 H0 w0 E' H' w ∧ AV.wfL H'.o.length H'.n.length vs' ∧ concL E' vs' = concL E vs := by
  have hl : vs'.length = vs.length := by simpa using cleanL_len h
  have hc : (clean C ⟨List.range vs.length, nils⟩ vs H).run = some (vs', H') := by
    rw [clean_eq]
    refine bind_run h ?_
    simp only [T.run, ← hl, mkF_zip]
  obtain ⟨E', hs, hrel⟩ := clean_sound hG hn hO (act_rel hw) hc
  obtain ⟨h1, h2⟩ := conc_frame hrel (fun v hv => List.all_eq_true.1 hj v hv)
  exact ⟨E', hs, h1, h2⟩

theorem fn_polish (hG : C.Good) {f : FuncId} {g : List AV → Heap → T (AV × Heap)} (nils : List (Nat × TypeId)) (h : FnOk C f g) : FnOk C f (fun args H => (g args H).bind (polish C nils)) := by
  intro args H E w r H' hHn hR hw hg
  obtain ⟨⟨r0, H1⟩, h1, h2⟩ := T.bind_some hg
  refine (h args H E w r0 H1 hHn hR hw h1).mono ?_
  rintro e w' ⟨E1, hst, hr0, rfl⟩
  have one : ∀ a : AV, r0 = a → a.wf H1.o.length H1.n.length → ((cleanL C ⟨[0], nils⟩ [a] H1).bind fun y => match y.1 with | [b] => must (notJunk b) (.leaf (b, y.2)) | _ => (.stuck : T (AV × Heap))).run = some (r, H') →
      ∃ E', Step C E H w E' H' w' ∧ r.wf H'.o.length H'.n.length ∧ Ending.returned (conc E1 r0) = .returned (conc E' r) := by
    rintro a rfl hwa h3
    obtain ⟨⟨vs', H2⟩, h4, h5⟩ := T.bind_some h3
    split at h5
    · rename_i b hb
      simp only at hb
      subst hb
      obtain ⟨hj, h5⟩ := must_some h5
      have := leaf_some h5
      simp only [Prod.mk.injEq] at this
      obtain ⟨rfl, rfl⟩ := this
      obtain ⟨E', hs, k1, k2⟩ := polish_list (vs := [r0]) hG hHn hst ⟨hwa, trivial⟩ h4 (by simp [hj])
      simp only [concL, List.cons.injEq, and_true] at k2
      exact ⟨E', hs, k1.1, by rw [k2]⟩
    · cases h5
  unfold polish at h2
  simp only at h2
  split at h2
  · rename_i vs
    obtain ⟨⟨vs', H2⟩, h4, h5⟩ := T.bind_some h2
    obtain ⟨hj, h5⟩ := must_some h5
    have := leaf_some h5
    simp only [Prod.mk.injEq] at this
    obtain ⟨rfl, rfl⟩ := this
    obtain ⟨E', hs, k1, k2⟩ := polish_list hG hHn hst hr0 h4 hj
    exact ⟨E', hs, k1, by simp only [conc, k2]⟩
  · exact one _ rfl hr0 h2

/-- a function: how its arguments and its results look, and what it reckons -/
structure Fun (α ρ : Type) where
  enc : α → List AV × Heap
  dec : List AV → Heap → Option α
  out : α → ρ → AV × Heap
  outB : α → ρ → T (AV × Heap)
  t : α → T ρ
  d : ρ

section
variable {α ρ : Type}
def Fun.val (D : Fun α ρ) (a : α) : Option ρ := (D.t a).run
def Fun.ok (D : Fun α ρ) (a : α) : Bool := (D.val a).isSome
def Fun.res (D : Fun α ρ) (a : α) : ρ := (D.val a).getD D.d
def Fun.g (D : Fun α ρ) : List AV → Heap → T (AV × Heap) := fun args H =>
  match D.dec args H with
  | some a => .br (D.ok a) (D.outB a (D.res a)) .stuck
  | none => .stuck
theorem Fun.val_of {D : Fun α ρ} {s : α} {r : ρ} (h : D.val s = some r) : D.ok s = true ∧ D.res s = r := by
  unfold Fun.ok Fun.res; rw [h]; exact ⟨rfl, rfl⟩
theorem Fun.val_ok {D : Fun α ρ} {s : α} (h : D.ok s = true) : D.val s = some (D.res s) := by
  unfold Fun.ok at h
  unfold Fun.res
  cases hv : D.val s with
  | none => rw [hv] at h; cases h
  | some r => rfl

theorem Fun.fn (D : Fun α ρ) (hG : C.Good) (hF : ∀ f, FnOk C f (F f)) (hm : C.P.follows .mixedOrders = true) {L : Tab} {f : FuncId} {fn : Func} {c : Code} (hf : C.P.funcs[f]? = some fn) (hb : fn.body = some c)
    (hL : ∀ a ∈ loopsOf c, ∀ s, L (codeKey a) = some s → LOk C F L s a) {n : Nat} {ni no : List (Nat × TypeId)}
    (hev : ∀ a, (body2 C F L n ni fn (D.enc a).1 (D.enc a).2).bind (polish C no) = (D.t a).bind fun r => .leaf (D.out a r))
    (hdec : ∀ l H s, D.dec l H = some s → (l, H) = D.enc s) (hout : ∀ a r, (D.outB a r).run = some (D.out a r)) : FnOk C f (fgt D.g) := by
  have h0 : FnOk C f (body2 C F L n ni fn) := fn_of_body2 hG hF hm hf hb hL (fun _ _ _ h => h)
  refine fn_fgt (fun args H E w r H' hHn hR hw hg => fn_polish hG no h0 args H E w r H' hHn hR hw ?_)
  unfold Fun.g at hg
  split at hg
  · rename_i a ha
    have he := hdec _ _ _ ha
    have e1 : args = (D.enc a).1 := by rw [← he]
    have e2 : H = (D.enc a).2 := by rw [← he]
    subst e1 e2
    simp only [T.run] at hg
    split at hg
    · rename_i hok
      rw [hout, Option.some.injEq] at hg
      show ((body2 C F L n ni fn (D.enc a).1 (D.enc a).2).bind (polish C no)).run = some (r, H')
      rw [hev a]
      exact bind_run (Fun.val_ok hok) (by simp only [T.run, hg])
    · cases hg
  · cases hg
end
end
end Eng

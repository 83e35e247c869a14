/- The engine, part 26: loops told by what they do. -/
import Derived.Test.YtcmnnggpeloanaaGreatDoorEng25
namespace Eng
open Go

section
variable {C : Ctx} {F : Fns} {K : Nat → Option Live}

theorem bind_run {α β : Type} {t : T α} {f : α → T β} {a : α} {b : β} (h : t.run = some a) (k : (f a).run = some b) : (t.bind f).run = some b := by
  rw [T.run_bind, h]; exact k

theorem jumpN_mono {ex ex' : Code → List AV → Heap → T (X × List AV × Heap)} {a : Code} (hex : ∀ c fr H r, (ex c fr H).run = some r → (ex' c fr H).run = some r) :
    ∀ m x r, (jumpN ex m a x).run = some r → (jumpN ex' (m + 1) a x).run = some r := by
  intro m
  induction m with
  | zero => intro x r h; cases h
  | succ m ih =>
    intro x r h
    obtain ⟨x1, fr, H⟩ := x
    unfold jumpN at h ⊢
    cases x1 with
    | goto l =>
      simp only at h ⊢
      split at h
      · rename_i rest hf
        obtain ⟨y, h1, h2⟩ := T.bind_some h
        exact bind_run (hex _ _ _ _ h1) (ih _ _ h2)
      · cases h
    | normal => exact h
    | exit id => exact h
    | ret => exact h

theorem exec_mono1 : ∀ n c fr H r, (exec C F K n c fr H).run = some r → (exec C F K (n + 1) c fr H).run = some r := by
  intro n
  induction n with
  | zero => intro c fr H r h; cases h
  | succ n ih =>
    intro c fr H r h
    unfold exec at h ⊢
    cases c <;> simp only at h ⊢ <;> try exact h
    case seq a b =>
      obtain ⟨⟨x, fr1, H1⟩, h1, h2⟩ := T.bind_some h
      refine bind_run (ih _ _ _ _ h1) ?_
      cases x with
      | normal => exact ih _ _ _ _ h2
      | exit id => exact h2
      | goto l => exact h2
      | ret => exact h2
    case cond q a b =>
      split at h
      · rename_i t k hq
        rw [T.run_cond] at h ⊢
        cases t with
        | true => exact ih _ _ _ _ h
        | false => exact ih _ _ _ _ h
      · cases h
    case block id a =>
      obtain ⟨y, h1, h2⟩ := T.bind_some h
      exact bind_run (ih _ _ _ _ h1) h2
    case loop a =>
      cases hk : K (codeKey a) with
      | none =>
        rw [hk] at h
        obtain ⟨⟨x, fr1, H1⟩, h1, h2⟩ := T.bind_some h
        refine bind_run (ih _ _ _ _ h1) ?_
        cases x with
        | normal => exact ih _ _ _ _ h2
        | exit id => exact h2
        | goto l => exact h2
        | ret => exact h2
      | some live =>
        rw [hk] at h
        obtain ⟨y, hy, h⟩ := T.bind_some h
        obtain ⟨⟨x, fr1, H1⟩, h1, h2⟩ := T.bind_some h
        refine bind_run hy (bind_run (ih _ _ _ _ h1) ?_)
        cases x with
        | normal => exact ih _ _ _ _ h2
        | exit id => exact h2
        | goto l => exact h2
        | ret => exact h2
    case scope a =>
      obtain ⟨y, h1, h2⟩ := T.bind_some h
      exact bind_run (ih _ _ _ _ h1) (jumpN_mono ih n y r h2)

theorem exec_mono {n m : Nat} (hnm : n ≤ m) {c : Code} {fr : List AV} {H : Heap} {r : X × List AV × Heap} (h : (exec C F K n c fr H).run = some r) : (exec C F K m c fr H).run = some r := by
  induction hnm with
  | refl => exact h
  | step _ ih => exact exec_mono1 _ _ _ _ _ ih

theorem jumpN_len {ex : Code → List AV → Heap → T (X × List AV × Heap)} {a : Code} (hex : ∀ c fr H r, (ex c fr H).run = some r → r.2.1.length = fr.length) :
    ∀ m x r, (jumpN ex m a x).run = some r → r.2.1.length = x.2.1.length := by
  intro m
  induction m with
  | zero => intro x r h; cases h
  | succ m ih =>
    intro x r h
    obtain ⟨x1, fr, H⟩ := x
    unfold jumpN at h
    cases x1 with
    | goto l =>
      simp only at h
      split at h
      · obtain ⟨y, h1, h2⟩ := T.bind_some h
        rw [ih _ _ h2]
        exact hex _ _ _ _ h1
      · cases h
    | normal => have := leaf_some h; subst this; rfl
    | exit id => have := leaf_some h; subst this; rfl
    | ret => have := leaf_some h; subst this; rfl

theorem weakF_len {P : Program} : ∀ (nils : List (Nat × TypeId)) (fr : List AV) (H : Heap), (weakF P nils fr H).1.length = fr.length
  | [], fr, H => rfl
  | (t, e) :: l, fr, H => by
    unfold weakF
    split
    · rw [weakF_len l, List.length_set]
    · exact weakF_len l fr H
theorem clean_eq (live : Live) (fr : List AV) (H : Heap) : clean C live fr H = (cleanL C live fr H).bind fun y => .leaf (mkF fr.length (live.l.zip y.1), y.2) := by
  show clean0 C live.l _ _ = _
  unfold clean0
  rw [weakF_len]
  rfl
theorem clean_len {live : Live} {fr : List AV} {H : Heap} {r : List AV × Heap} (h : (clean C live fr H).run = some r) : r.1.length = fr.length := by
  rw [clean_eq] at h
  obtain ⟨y, _, h⟩ := T.bind_some h
  have := leaf_some h; subst this
  simp [mkF]

theorem fgL_length (l : List AV) : (fgL l).length = l.length := by rw [fgL_map, List.length_map]

theorem exec_len : ∀ n c fr H r, (exec C F K n c fr H).run = some r → r.2.1.length = fr.length := by
  intro n
  induction n with
  | zero => intro c fr H r h; cases h
  | succ n ih =>
    intro c fr H r h
    unfold exec at h
    cases c <;> simp only at h
    case skip => have := leaf_some h; subst this; rfl
    case label l => have := leaf_some h; subst this; rfl
    case exit l => have := leaf_some h; subst this; rfl
    case goto l => have := leaf_some h; subst this; rfl
    case ret => have := leaf_some h; subst this; rfl
    case region id ops draw =>
      obtain ⟨⟨fr1, H1, notes⟩, h1, h⟩ := T.bind_some h
      obtain ⟨_, h⟩ := must_some h
      have := leaf_some h; subst this
      obtain ⟨_, _, _, _, _, _, _, _, _, hl, _⟩ := line _ _ _ _ _ _ h1
      exact hl
    case seq a b =>
      obtain ⟨⟨x, fr1, H1⟩, h1, h2⟩ := T.bind_some h
      have e := ih _ _ _ _ h1
      cases x with
      | normal => rw [ih _ _ _ _ h2]; exact e
      | exit id => have := leaf_some h2; subst this; exact e
      | goto l => have := leaf_some h2; subst this; exact e
      | ret => have := leaf_some h2; subst this; exact e
    case cond q a b =>
      split at h
      · rename_i t k hq
        rw [T.run_cond] at h
        cases t with
        | true => exact ih _ _ _ _ h
        | false => exact ih _ _ _ _ h
      · cases h
    case block id a =>
      obtain ⟨⟨x, fr1, H1⟩, h1, h2⟩ := T.bind_some h
      have e := ih _ _ _ _ h1
      cases x with
      | normal => have := leaf_some h2; subst this; exact e
      | exit id' =>
        simp only at h2
        split at h2
        · have := leaf_some h2; subst this; exact e
        · have := leaf_some h2; subst this; exact e
      | goto l => have := leaf_some h2; subst this; exact e
      | ret => have := leaf_some h2; subst this; exact e
    case loop a =>
      split at h
      · obtain ⟨⟨x, fr1, H1⟩, h1, h2⟩ := T.bind_some h
        have e := ih _ _ _ _ h1
        cases x with
        | normal => rw [ih _ _ _ _ h2]; exact e
        | exit id => have := leaf_some h2; subst this; exact e
        | goto l => have := leaf_some h2; subst this; exact e
        | ret => have := leaf_some h2; subst this; exact e
      · rename_i live hk
        obtain ⟨y, hy, h⟩ := T.bind_some h
        obtain ⟨⟨x, fr1, H1⟩, h1, h2⟩ := T.bind_some h
        have e : fr1.length = fr.length := (ih _ _ _ _ h1).trans (clean_len hy)
        have out : ∀ e' : X, ((clean C live fr1 H1).bind fun z => .leaf (e', z.1, z.2)).run = some r → r.2.1.length = fr.length := by
          intro e' h3
          obtain ⟨z, hz, h4⟩ := T.bind_some h3
          have := leaf_some h4; subst this
          exact (clean_len hz).trans e
        cases x with
        | normal => rw [ih _ _ _ _ h2]; exact e
        | exit id => exact out _ h2
        | goto l => exact out _ h2
        | ret => exact out _ h2
    case scope a =>
      obtain ⟨y, h1, h2⟩ := T.bind_some h
      rw [jumpN_len ih n y r h2]
      exact ih _ _ _ _ h1
    all_goals cases h

/-- with enough fuel -/
def Ex (C : Ctx) (F : Fns) (K : Nat → Option Live) (c : Code) (fr : List AV) (H : Heap) (r : X × List AV × Heap) : Prop := ∃ n, (exec C F K n c fr H).run = some r

theorem Ex.det {c : Code} {fr : List AV} {H : Heap} {r r' : X × List AV × Heap} (h : Ex C F K c fr H r) (h' : Ex C F K c fr H r') : r = r' := by
  obtain ⟨n, h⟩ := h
  obtain ⟨m, h'⟩ := h'
  have h1 := exec_mono (Nat.le_max_left n m) h
  have h2 := exec_mono (Nat.le_max_right n m) h'
  rw [h1] at h2
  exact Option.some.inj h2
theorem Ex.len {c : Code} {fr : List AV} {H : Heap} {r : X × List AV × Heap} (h : Ex C F K c fr H r) : r.2.1.length = fr.length := by
  obtain ⟨n, h⟩ := h
  exact exec_len _ _ _ _ _ h

/-! ### loops by a table -/
structure LSpec where
  N : Nat
  live : Live
  sp : List AV → Heap → T (X × List AV × Heap)

abbrev Tab := Nat → Option LSpec
def cutOf (L : Tab) : Nat → Option Live := fun k => (L k).map (·.live)

/-- code, its loops by the table -/
def exec2 (C : Ctx) (F : Fns) (L : Tab) : Nat → Code → List AV → Heap → T (X × List AV × Heap)
  | 0, _, _, _ => .stuck
  | n + 1, c, fr, H =>
    match c with
    | .skip => .leaf (.normal, fr, H)
    | .label _ => .leaf (.normal, fr, H)
    | .region _ ops draw => (runOps C F ops ops.toList fr H).bind fun x => must (!draw || drawOk ops x.2.2) (.leaf (.normal, x.1, x.2.1))
    | .seq a b => (exec2 C F L n a fr H).bind fun x =>
      match x.1 with
      | .normal => exec2 C F L n b x.2.1 x.2.2
      | e => .leaf (e, x.2.1, x.2.2)
    | .cond q a b =>
      match ev fr q with
      | .v (.bool t) k => .cond k t (exec2 C F L n a fr H) (exec2 C F L n b fr H)
      | _ => .stuck
    | .block id a => (exec2 C F L n a fr H).bind fun x =>
      match x.1 with
      | .exit id' => if id' = id then .leaf (.normal, x.2.1, x.2.2) else .leaf (.exit id', x.2.1, x.2.2)
      | e => .leaf (e, x.2.1, x.2.2)
    | .loop a =>
      match L (codeKey a) with
      | some s => must (fr.length == s.N) <| (cleanL C s.live fr H).bind fun y => (s.sp y.1 y.2).bind fun r => .leaf (r.1, mkF s.N (s.live.l.zip r.2.1), r.2.2)
      | none => (exec2 C F L n a fr H).bind fun x =>
        match x.1 with
        | .normal => exec2 C F L n (.loop a) x.2.1 x.2.2
        | e => .leaf (e, x.2.1, x.2.2)
    | .exit id => .leaf (.exit id, fr, H)
    | .goto l => .leaf (.goto l, fr, H)
    | .ret => .leaf (.ret, fr, H)
    | .scope a => (exec2 C F L n a fr H).bind fun x => jumpN (exec2 C F L n) n a x
    | _ => .stuck

def loopsOf : Code → List Code
  | .seq a b => loopsOf a ++ loopsOf b
  | .cond _ a b => loopsOf a ++ loopsOf b
  | .block _ a => loopsOf a
  | .loop a => a :: loopsOf a
  | .scope a => loopsOf a
  | _ => []

/-- a loop does what its row of the table says -/
def LOk (C : Ctx) (F : Fns) (L : Tab) (s : LSpec) (a : Code) : Prop :=
  ∀ fr H y r, fr.length = s.N → (cleanL C s.live fr H).run = some y → (s.sp y.1 y.2).run = some r →
    Ex C F (cutOf L) (.loop a) fr H (r.1, mkF s.N (s.live.l.zip r.2.1), r.2.2)

theorem findLabel_loops {l : Nat} : ∀ {a rest : Code}, findLabel a l = some rest → ∀ x ∈ loopsOf rest, x ∈ loopsOf a
  | .seq a b, rest, h, x, hx => by
    unfold findLabel at h
    split at h
    · rename_i r hr
      cases h
      simp only [loopsOf, List.mem_append] at hx ⊢
      rcases hx with hx | hx
      · exact .inl (findLabel_loops hr x hx)
      · exact .inr hx
    · simp only [loopsOf, List.mem_append]
      exact .inr (findLabel_loops h x hx)
  | .label l', rest, h, x, hx => by
    unfold findLabel at h
    split at h
    · cases h; simp [loopsOf] at hx
    · cases h
  | .skip, rest, h, x, hx => by simp [findLabel] at h
  | .region .., rest, h, x, hx => by simp [findLabel] at h
  | .cond .., rest, h, x, hx => by simp [findLabel] at h
  | .block .., rest, h, x, hx => by simp [findLabel] at h
  | .loop .., rest, h, x, hx => by simp [findLabel] at h
  | .scope .., rest, h, x, hx => by simp [findLabel] at h
  | .exit .., rest, h, x, hx => by simp [findLabel] at h
  | .goto .., rest, h, x, hx => by simp [findLabel] at h
  | .ret, rest, h, x, hx => by simp [findLabel] at h
  | .rangeFunc .., rest, h, x, hx => by simp [findLabel] at h
  | .refuse .., rest, h, x, hx => by simp [findLabel] at h

theorem Ex.up {c : Code} {fr : List AV} {H : Heap} {r : X × List AV × Heap} (h : Ex C F K c fr H r) : ∃ n, ∀ m, n ≤ m → (exec C F K m c fr H).run = some r := by
  obtain ⟨n, h⟩ := h
  exact ⟨n, fun m hm => exec_mono hm h⟩

theorem exec2_sound {L : Tab} : ∀ n c fr H r, (∀ a ∈ loopsOf c, ∀ s, L (codeKey a) = some s → LOk C F L s a) → (exec2 C F L n c fr H).run = some r → Ex C F (cutOf L) c fr H r := by
  intro n
  induction n with
  | zero => intro c fr H r _ h; cases h
  | succ n ih =>
    intro c fr H r hL h
    unfold exec2 at h
    cases c <;> simp only at h
    case skip => exact ⟨1, h⟩
    case label l => exact ⟨1, h⟩
    case exit l => exact ⟨1, h⟩
    case goto l => exact ⟨1, h⟩
    case ret => exact ⟨1, h⟩
    case region id ops draw => exact ⟨1, h⟩
    case seq a b =>
      obtain ⟨⟨x, fr1, H1⟩, h1, h2⟩ := T.bind_some h
      have e1 := ih a _ _ _ (fun c hc => hL c (by simp [loopsOf, hc])) h1
      obtain ⟨n1, e1⟩ := e1.up
      cases x with
      | normal =>
        obtain ⟨n2, e2⟩ := (ih b _ _ _ (fun c hc => hL c (by simp [loopsOf, hc])) h2).up
        refine ⟨max n1 n2 + 1, ?_⟩
        unfold exec
        exact bind_run (e1 _ (Nat.le_max_left ..)) (e2 _ (Nat.le_max_right ..))
      | exit id => exact ⟨n1 + 1, by unfold exec; exact bind_run (e1 _ (Nat.le_refl _)) h2⟩
      | goto id => exact ⟨n1 + 1, by unfold exec; exact bind_run (e1 _ (Nat.le_refl _)) h2⟩
      | ret => exact ⟨n1 + 1, by unfold exec; exact bind_run (e1 _ (Nat.le_refl _)) h2⟩
    case cond q a b =>
      split at h
      · rename_i t k hq
        rw [T.run_cond] at h
        cases t with
        | true =>
          obtain ⟨m, e⟩ := ih a _ _ _ (fun c hc => hL c (by simp [loopsOf, hc])) (by simpa using h)
          exact ⟨m + 1, by unfold exec; simp only [hq, T.run_cond]; exact e⟩
        | false =>
          obtain ⟨m, e⟩ := ih b _ _ _ (fun c hc => hL c (by simp [loopsOf, hc])) (by simpa using h)
          exact ⟨m + 1, by unfold exec; simp only [hq, T.run_cond]; exact e⟩
      · cases h
    case block id a =>
      obtain ⟨y, h1, h2⟩ := T.bind_some h
      obtain ⟨m, e⟩ := ih a _ _ _ (fun c hc => hL c (by simpa [loopsOf] using hc)) h1
      exact ⟨m + 1, by unfold exec; exact bind_run e h2⟩
    case loop a =>
      split at h
      · rename_i s hs
        obtain ⟨hN, h⟩ := must_some h
        simp only [beq_iff_eq] at hN
        obtain ⟨y, hy, h⟩ := T.bind_some h
        obtain ⟨⟨x, l', H1⟩, h1, h2⟩ := T.bind_some h
        have := leaf_some h2; subst this
        exact hL a (by simp [loopsOf]) s hs fr H y _ hN hy h1
      · rename_i hs
        obtain ⟨⟨x, fr1, H1⟩, h1, h2⟩ := T.bind_some h
        have hk : (cutOf L) (codeKey a) = none := by simp [cutOf, hs]
        obtain ⟨n1, e1⟩ := (ih a _ _ _ (fun c hc => hL c (by simp [loopsOf, hc])) h1).up
        cases x with
        | normal =>
          obtain ⟨n2, e2⟩ := (ih (.loop a) _ _ _ hL h2).up
          refine ⟨max n1 n2 + 1, ?_⟩
          unfold exec
          simp only [hk]
          exact bind_run (e1 _ (Nat.le_max_left ..)) (e2 _ (Nat.le_max_right ..))
        | exit id => exact ⟨n1 + 1, by unfold exec; simp only [hk]; exact bind_run (e1 _ (Nat.le_refl _)) h2⟩
        | goto id => exact ⟨n1 + 1, by unfold exec; simp only [hk]; exact bind_run (e1 _ (Nat.le_refl _)) h2⟩
        | ret => exact ⟨n1 + 1, by unfold exec; simp only [hk]; exact bind_run (e1 _ (Nat.le_refl _)) h2⟩
    case scope a =>
      obtain ⟨y, h1, h2⟩ := T.bind_some h
      obtain ⟨n1, e1⟩ := (ih a _ _ _ (fun c hc => hL c (by simpa [loopsOf] using hc)) h1).up
      have jump : ∀ m y r, (jumpN (exec2 C F L n) m a y).run = some r → ∃ k, ∀ N M, k ≤ N → k ≤ M → (jumpN (exec C F (cutOf L) N) M a y).run = some r := by
        intro m
        induction m with
        | zero => intro y r h; cases h
        | succ m ihm =>
          intro y r h
          obtain ⟨x, fr1, H1⟩ := y
          unfold jumpN at h
          cases x with
          | goto l =>
            simp only at h
            split at h
            · rename_i rest hf
              obtain ⟨z, g1, g2⟩ := T.bind_some h
              obtain ⟨k1, e1⟩ := (ih rest _ _ _ (fun c hc => hL c (by simpa [loopsOf] using findLabel_loops hf c hc)) g1).up
              obtain ⟨k2, e2⟩ := ihm _ _ g2
              refine ⟨max k1 k2 + 1, fun N M hN hM => ?_⟩
              obtain ⟨M, rfl⟩ : ∃ M', M = M' + 1 := ⟨M - 1, by omega⟩
              unfold jumpN
              simp only [hf]
              exact bind_run (e1 _ (by omega)) (e2 N M (by omega) (by omega))
            · cases h
          | normal => exact ⟨1, fun N M hN hM => by obtain ⟨M, rfl⟩ : ∃ M', M = M' + 1 := ⟨M - 1, by omega⟩
                                                    unfold jumpN; exact h⟩
          | exit id => exact ⟨1, fun N M hN hM => by obtain ⟨M, rfl⟩ : ∃ M', M = M' + 1 := ⟨M - 1, by omega⟩
                                                     unfold jumpN; exact h⟩
          | ret => exact ⟨1, fun N M hN hM => by obtain ⟨M, rfl⟩ : ∃ M', M = M' + 1 := ⟨M - 1, by omega⟩
                                                 unfold jumpN; exact h⟩
      obtain ⟨k, e2⟩ := jump n y r h2
      refine ⟨max n1 k + 1, ?_⟩
      unfold exec
      exact bind_run (e1 _ (Nat.le_max_left ..)) (e2 _ _ (Nat.le_max_right ..) (Nat.le_max_right ..))
    all_goals cases h

/-! ### rounds -/
inductive Iter (step : List AV → Heap → X × List AV × Heap → Prop) : List AV → Heap → X × List AV × Heap → Prop
  | done {l : List AV} {H : Heap} {x : X} {l' : List AV} {H' : Heap} (h : step l H (x, l', H')) (hx : x ≠ .normal) : Iter step l H (x, l', H')
  | more {l : List AV} {H : Heap} {l1 : List AV} {H1 : Heap} {r : X × List AV × Heap} (h : step l H (.normal, l1, H1)) (k : Iter step l1 H1 r) : Iter step l H r

theorem lok_of_iter {L : Tab} {s : LSpec} {a : Code} {step : List AV → Heap → X × List AV × Heap → Prop} (hL : L (codeKey a) = some s)
    (hstep : ∀ l H r, step l H r → ∃ fr' H1, Ex C F (cutOf L) a (mkF s.N (s.live.l.zip l)) H (r.1, fr', H1) ∧ (cleanL C s.live fr' H1).run = some (r.2.1, r.2.2))
    (hsp : ∀ l H r, (s.sp l H).run = some r → Iter step l H r) : LOk C F L s a := by
  intro fr H y r hN hy h
  have hit := hsp _ _ _ h
  have hk : cutOf L (codeKey a) = some s.live := by simp [cutOf, hL]
  obtain ⟨l, H0⟩ := y
  simp only at hit
  clear h
  induction hit generalizing fr H with
  | @done l H0 x l' H' hst hx =>
    obtain ⟨fr', H1, ⟨n, e⟩, hv⟩ := hstep _ _ _ hst
    have hlen : fr'.length = s.N := by
      have := exec_len _ _ _ _ _ e
      simpa [mkF] using this
    refine ⟨n + 1, ?_⟩
    unfold exec
    simp only [hk]
    refine bind_run (a := (mkF s.N (s.live.l.zip l), H0)) ?_ (bind_run e ?_)
    · rw [clean_eq, ← hN]; exact bind_run hy rfl
    · have out : (clean C s.live fr' H1).run = some (mkF s.N (s.live.l.zip l'), H') := by rw [clean_eq, ← hlen]; exact bind_run hv rfl
      cases x with
      | normal => exact absurd rfl hx
      | exit id => exact bind_run out rfl
      | goto id => exact bind_run out rfl
      | ret => exact bind_run out rfl
  | @more l H0 l1 H1 r hst k ih =>
    obtain ⟨fr', H2, e1, hv⟩ := hstep _ _ _ hst
    have hlen : fr'.length = s.N := by
      have := e1.len
      simpa [mkF] using this
    obtain ⟨n2, e2⟩ := (ih fr' H2 hlen hv).up
    obtain ⟨n1, e1⟩ := e1.up
    refine ⟨max n1 n2 + 1, ?_⟩
    unfold exec
    simp only [hk]
    refine bind_run (a := (mkF s.N (s.live.l.zip l), H0)) ?_ (bind_run (e1 _ (Nat.le_max_left ..)) (e2 _ (Nat.le_max_right ..)))
    rw [clean_eq, ← hN]; exact bind_run hy rfl

/-- a round, off the table's evaluation -/
theorem step_exec2 {L : Tab} {live : Live} {a : Code} {fr : List AV} {H : Heap} {t : T (X × List AV × Heap)} {r : X × List AV × Heap} {n : Nat} (hin : ∀ b ∈ loopsOf a, ∀ s, L (codeKey b) = some s → LOk C F L s b)
    (h : ((exec2 C F L n a fr H).bind fun r => (cleanL C live r.2.1 r.2.2).bind fun z => .leaf (r.1, z.1, z.2)) = t) (hr : t.run = some r) :
    ∃ fr' H1, Ex C F (cutOf L) a fr H (r.1, fr', H1) ∧ (cleanL C live fr' H1).run = some (r.2.1, r.2.2) := by
  rw [← h] at hr
  obtain ⟨⟨x, fr', H'⟩, h1, h2⟩ := T.bind_some hr
  obtain ⟨⟨l', G⟩, h3, h4⟩ := T.bind_some h2
  have := leaf_some h4; subst this
  exact ⟨fr', H', exec2_sound n a fr H _ hin h1, h3⟩

/-! ### functions -/
def body2 (C : Ctx) (F : Fns) (L : Tab) (n : Nat) (nils : List (Nat × TypeId)) (fn : Func) (args : List AV) (H : Heap) : T (AV × Heap) :=
  match fn.body with
  | some c =>
    let y := weakF C.P nils (args ++ List.replicate (fn.ntmps - args.length) (.v undef true)) H
    (exec2 C F L n c y.1 y.2).bind fun x =>
    match x.1 with
    | .normal => (resVars C x.2.1 x.2.2 fn.results.toList).bind fun vs => .leaf (results1 vs, x.2.2)
    | .ret => (resVars C x.2.1 x.2.2 fn.results.toList).bind fun vs => .leaf (results1 vs, x.2.2)
    | _ => .stuck
  | none => .stuck

theorem fn_of_body2 (hG : C.Good) (hF : ∀ f, FnOk C f (F f)) (hm : C.P.follows .mixedOrders = true) {L : Tab} {f : FuncId} {fn : Func} {c : Code} (hf : C.P.funcs[f]? = some fn) (hb : fn.body = some c)
    (hL : ∀ a ∈ loopsOf c, ∀ s, L (codeKey a) = some s → LOk C F L s a) {g : List AV → Heap → T (AV × Heap)} {n : Nat} {nils : List (Nat × TypeId)}
    (h : ∀ args H r, (g args H).run = some r → (body2 C F L n nils fn args H).run = some r) : FnOk C f g := by
  intro args H E w r H' hHn hR hw hg
  have h1 := h args H (r, H') hg
  unfold body2 at h1
  rw [hb] at h1
  simp only at h1
  obtain ⟨x, hx, h2⟩ := T.bind_some h1
  obtain ⟨m, e⟩ := exec2_sound n c _ _ x hL hx
  refine body_sound (K := cutOf L) hG hF hm hf m nils args H E w r H' hHn hR hw ?_
  unfold body
  rw [hb]
  exact bind_run e h2

theorem fgL_concL {E : Env} {l : List AV} : concL E (fgL l) = concL E l := fgL_conc E l

/-- a contract for values of which nothing is known serves for all -/
def fgt (g : List AV → Heap → T (AV × Heap)) : List AV → Heap → T (AV × Heap) := fun args H => g (fgL args) H.fg
theorem fn_fgt {f : FuncId} {g : List AV → Heap → T (AV × Heap)} (h : FnOk C f g) : FnOk C f (fgt g) := by
  intro args H E w r H' hHn hR hw hg
  have := h (fgL args) H.fg E w r H' (by simp [Heap.fg, hHn]) hR.fg (by rw [(fg_len H).1, (fg_len H).2]; exact (fgL_wf _).2 hw) hg
  rw [fgL_conc] at this
  refine this.mono ?_
  rintro e w' ⟨E', hst, h1, h2⟩
  exact ⟨E', (step_fg hR).trans hst, h1, h2⟩

/-- a contract may know less of its result -/
theorem fn_same {f : FuncId} {g g' : List AV → Heap → T (AV × Heap)} (h : FnOk C f g) (hg : ∀ args H r' H', (g' args H).run = some (r', H') → ∃ r, (g args H).run = some (r, H') ∧ Same r r') : FnOk C f g' := by
  intro args H E w r' H' hHn hR hw hrun
  obtain ⟨r, h1, h2⟩ := hg args H r' H' hrun
  refine (h args H E w r H' hHn hR hw h1).mono ?_
  rintro e w' ⟨E', hst, h3, h4⟩
  exact ⟨E', hst, (h2.2.1 _ _).1 h3, by rw [h4, h2.1]⟩

/-- contracts that were proved, by number -/
def fnsOf (G : List (FuncId × (List AV → Heap → T (AV × Heap)))) : Fns := fun f => (G.lookup f).getD (fun _ _ => .stuck)
theorem fnsOf_ok {G : List (FuncId × (List AV → Heap → T (AV × Heap)))} (h : ∀ p ∈ G, FnOk C p.1 p.2) : ∀ f, FnOk C f (fnsOf G f) := by
  intro f
  unfold fnsOf
  cases hl : G.lookup f with
  | none => intro args H E w r H' _ _ _ h; cases h
  | some g => exact h (f, g) (lookup_mem G hl)
end
end Eng

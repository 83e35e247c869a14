/- The engine, part 23: one operation of a region, in whatever order. -/
import Derived.Test.YtcmnnggpeloanaaGreatDoorEng22
namespace Eng
open Go

section
variable {C : Ctx} {F : Fns} {ops : Array Oper} {l : List Oper} {fr0 : List AV} {Fp : Nat → List AV} {Hp : Nat → Heap} {V : Nat → AV} {N : Nat → Option Note}

theorem At.keep {o : Oper} {fr : List AV} {H H' : Heap} {a : AV} {nt : Option Note} (h : At C F ops o fr H a nt H') :
    (∀ i s, (∀ n w, nt = some n → n.wr = some w → i ∉ w) → H.get C i = some s → H'.get C i = some s) ∧ ((∀ n, nt = some n → n.wr = none) → H' = H) := by
  cases h with
  | go g h =>
    obtain ⟨h1, h2⟩ := op1_frame h
    exact ⟨fun i s hi hs => h1 i s (fun w hw => hi _ w rfl hw) hs, fun hn => h2 (hn _ rfl)⟩
  | skip g => exact ⟨fun i s _ hs => hs, fun _ => rfl⟩

theorem Line.const (hL : Line C F ops l fr0 Fp Hp V N) {q : Nat} : ∀ r, q ≤ r → r ≤ l.length → (∀ p n, q ≤ p → p < r → N p = some n → n.wr = none) → Hp r = Hp q
  | 0, hq, _, _ => by have : q = 0 := by omega
                      subst this; rfl
  | r + 1, hq, hr, h => by
    by_cases he : q = r + 1
    · subst he; rfl
    · have ih := hL.const r (by omega) (by omega) (fun p n h1 h2 => h p n h1 (by omega))
      have hlt : r < l.length := by omega
      have := (hL.at_ r l[r] (List.getElem?_eq_getElem hlt)).keep.2 (fun n hn => h r n (by omega) (by omega) hn)
      rw [this, ih]

theorem Line.held (hL : Line C F ops l fr0 Fp Hp V N) {q : Nat} {i : Id} {s : Slot} (hs : (Hp q).get C i = some s) : ∀ r, q ≤ r → r ≤ l.length → (∀ p n w, q ≤ p → p < r → N p = some n → n.wr = some w → i ∉ w) → (Hp r).get C i = some s
  | 0, hq, _, _ => by have : q = 0 := by omega
                      subst this; exact hs
  | r + 1, hq, hr, h => by
    by_cases he : q = r + 1
    · subst he; exact hs
    · have ih := hL.held hs r (by omega) (by omega) (fun p n w h1 h2 => h p n w h1 (by omega))
      have hlt : r < l.length := by omega
      exact (hL.at_ r l[r] (List.getElem?_eq_getElem hlt)).keep.1 i s (fun n w hn hw => h r n w (by omega) (by omega) hn hw) ih

structure Inv (C : Ctx) (l : List Oper) (fr0 : List AV) (E0 : Env) (H0 : Heap) (w0 : World) (d0 : List Deferred) (Hp : Nat → Heap) (V : Nat → AV) (N : Nat → Option Note)
    (S : Nat → Prop) (k : Nat) (E : Env) (a : Act) (w : World) : Prop where
  step : Step C E0 H0 w0 E (Hp k) w
  kle : k ≤ l.length
  wrs : ∀ p n, p < l.length → N p = some n → n.wr ≠ none → (S p ↔ p < k)
  size : a.tmps.size = fr0.length
  defers : a.defers = d0
  tmps : ∀ t, t < fr0.length → (lastS S l V (fun t => fr0.getD t U) l.length t).wf (Hp k).o.length (Hp k).n.length ∧ (lastS S l V (fun t => fr0.getD t U) l.length t = .junk ∨ a.tmps[t]? = some (conc E (lastS S l V (fun t => fr0.getD t U) l.length t)))

theorem ok_get {C : Ctx} {H H' : Heap} {i : Id} {s : Slot} (h : i.ok H.o.length H.n.length) (hg : H'.get C i = some s) : ∃ s', H.get C i = some s' := by
  cases i with
  | o k => exact ⟨_, List.getElem?_eq_getElem h⟩
  | n k => exact ⟨_, List.getElem?_eq_getElem h⟩
  | g k => exact ⟨s, hg⟩

theorem AV.wf_len {H H' : Heap} {a : AV} (h : a.wf H.o.length H.n.length) (h1 : H'.o.length = H.o.length) (h2 : H.n.length ≤ H'.n.length) : a.wf H'.o.length H'.n.length :=
  AV.wf_mono (by omega) h2 a h

set_option maxHeartbeats 4000000 in
theorem Inv.next (hG : C.Good) (hF : ∀ f, FnOk C f (F f)) {E0 : Env} {H0 : Heap} {w0 : World} {d0 : List Deferred} (hL : Line C F ops ops.toList fr0 Fp Hp V N) {S : Nat → Prop} {k : Nat} {E : Env} {a : Act} {w : World}
    (I : Inv C ops.toList fr0 E0 H0 w0 d0 Hp V N S k E a w) {j : Nat} {o : Oper} (hj : ops[j]? = some o) (hS : ¬ S j)
    (c1 : ∀ t ∈ namesOf ops o, ∀ p, p ≠ j → writes ops.toList p t → (S p ↔ p < j))
    (c2 : ∀ nj, N j = some nj → nj.wr ≠ none → ∀ p n, p < ops.toList.length → p ≠ j → N p = some n → n.wr ≠ none → (S p ↔ p < j))
    (c3 : ∀ nj i, N j = some nj → nj.rd = some i → ∀ p n v, p < ops.toList.length → N p = some n → n.wr = some v → i ∈ v → (S p ↔ p < j))
    {Q : Exit → Act → World → Prop} {K : Act → World → Prop}
    (hK : ∀ k' E' a' w', Inv C ops.toList fr0 E0 H0 w0 d0 Hp V N (fun p => S p ∨ p = j) k' E' a' w' → K a' w') : wpOp C.P ops Q j K a w := by
  have hjl : ops.toList[j]? = some o := by simpa using hj
  have hjlt : j < ops.toList.length := (List.getElem?_eq_some_iff.1 hjl).1
  have hFl := hL.len j o hjl
  have hR := I.step.real
  have hgen := hL.same j o hjl
  generalize hf0 : (fun t => fr0.getD t U) = f0 at hgen
  -- the last value that the operation sees
  have seen : ∀ t ∈ namesOf ops o, t < fr0.length → Same ((Fp j).getD t U) (lastS S ops.toList V f0 ops.toList.length t) := by
    intro t ht hlt
    refine (hgen t hlt).trans ?_
    rw [lastS_cut (m := j) ops.toList.length (Nat.le_of_lt hjlt) (fun p h1 h2 h3 hs => by
      by_cases he : p = j
      · subst he; exact hS hs
      · have := (c1 t ht p he h3).1 hs; omega)]
    rw [lastS_congr (S' := S) j (fun p hp hwr => ⟨fun _ => (c1 t ht p (by omega) hwr).2 hp, fun _ => trivial⟩)]
    exact Same.refl _
  -- the slots after
  have after : ∀ (E' : Env) (k' : Nat) (v : AV), v = V j → Step C E (Hp k) w E' (Hp k') w → True := fun _ _ _ _ _ => trivial
  have putInv : ∀ (E' : Env) (k' : Nat) (w' : World), Step C E0 H0 w0 E' (Hp k') w' → Step C E (Hp k) w E' (Hp k') w' → k' ≤ ops.toList.length →
      (∀ p n, p < ops.toList.length → N p = some n → n.wr ≠ none → ((S p ∨ p = j) ↔ p < k')) → (V j).wf (Hp k').o.length (Hp k').n.length →
      K (a.put o.dst (conc E' (V j))) w' := by
    intro E' k' w' hst hst1 hk' hw' hv
    refine hK k' E' _ w' ⟨hst, hk', hw', ?_, ?_, ?_⟩
    · rw [← I.size]; cases o.dst <;> simp [Act.put]
    · rw [← I.defers]; cases o.dst <;> simp [Act.put]
    · intro t ht
      rw [hf0]
      have hI := I.tmps t ht
      rw [hf0] at hI
      by_cases hd : o.dst = some t
      · have hwr : writes ops.toList j t := ⟨o, hjl, hd⟩
        have hmem : t ∈ namesOf ops o := by simp [namesOf, hd]
        have : lastS (fun p => S p ∨ p = j) ops.toList V f0 ops.toList.length t = V j := by
          rw [lastS_cut (m := j + 1) ops.toList.length hjlt (fun p h1 h2 h3 hs => by
            rcases hs with hs | hs
            · have := (c1 t hmem p (by omega) h3).1 hs; omega
            · omega)]
          unfold lastS
          rw [if_pos ⟨.inr rfl, hwr⟩]
        rw [this]
        refine ⟨hv, .inr ?_⟩
        have : t < a.tmps.size := by rw [I.size]; exact ht
        simp [Act.put, hd, this]
      · have : lastS (fun p => S p ∨ p = j) ops.toList V f0 ops.toList.length t = lastS S ops.toList V f0 ops.toList.length t := by
          refine lastS_congr _ (fun p hp hwr => ⟨fun h => h.resolve_right (fun e => ?_), .inl⟩)
          subst e
          obtain ⟨o', ho', hd'⟩ := hwr
          rw [hjl] at ho'; cases ho'
          exact hd hd'
        rw [this]
        refine ⟨AV.wf_len hI.1 hst1.olen hst1.nlen, ?_⟩
        refine hI.2.imp id (fun hI2 => ?_)
        rw [conc_agree hst1.agree _ hI.1, ← hI2]
        cases hdd : o.dst with
        | none => rfl
        | some d =>
          have hne : d ≠ t := fun e => hd (by rw [hdd, e])
          simp [Act.put, Array.getElem?_setIfInBounds_ne hne]
  -- a guard's slot
  have gslot : ∀ i want t v c, o.guard = some (i, want) → guardSlot ops i = some t → (Fp j)[t]? = some (.v v c) → ((ops[i]?).bind (·.dst)).bind (a.tmps[·]?) = some v := by
    intro i want t v c hg hs hv
    have hlt : t < fr0.length := by rw [← hFl]; exact (List.getElem?_eq_some_iff.1 hv).1
    have hmem : t ∈ namesOf ops o := by
      unfold guardSlot at hs
      simp [namesOf, Oper.looksAt, hg, hs]
    have h1 := seen t hmem hlt
    have h2 := I.tmps t hlt
    rw [hf0] at h2
    unfold guardSlot at hs
    have h3 : (Fp j).getD t U = .v v c := by simp only [List.getD_eq_getElem?_getD, hv, Option.getD_some]
    have h4 := h2.2.resolve_left (fun hjk => by have := h1.2.2.2 hjk; rw [h3] at this; cases this)
    rw [hs, Option.bind_some, h4, ← h1.1 E, h3]
    rfl
  unfold wpOp
  rw [hj]
  simp only
  have hat := hL.at_ j o hjl
  cases hNj : N j with
  | none =>
    have hd : guardNo ops o (Fp j) ∧ V j = U := by
      generalize hVj : V j = vj at hat
      generalize hHj : Hp (j + 1) = hj1 at hat
      rw [hNj] at hat
      cases hat with
      | skip g => exact ⟨g, rfl⟩
    have hw : Region.wanted o (yielded ops a.tmps) = false := by
      obtain ⟨i, want, hg, h⟩ := hd.1
      unfold Region.wanted
      rw [hg]
      simp only
      rcases h with h | ⟨t, b, c, hs, hv, hne⟩ | ⟨t, x, c, hs, hv⟩
      · unfold yielded
        unfold guardSlot at h
        rw [h]; rfl
      · unfold yielded
        rw [gslot i want t _ c hg hs hv]
        simp only [beq_eq_false_iff_ne, ne_eq, Option.some.injEq]
        exact hne
      · unfold yielded
        rw [gslot i want t _ c hg hs hv]
        rfl
    rw [hw]
    simp only [Bool.false_eq_true, if_false]
    have := putInv E k w I.step (Step.refl hR) I.kle (fun p n hp hn hwr => by
      rw [← I.wrs p n hp hn hwr]
      exact ⟨fun h => h.resolve_right (fun e => by subst e; rw [hNj] at hn; cases hn), .inl⟩) (by rw [hd.2]; trivial)
    rw [hd.2] at this
    exact this
  | some nj =>
    have hd : guardOk ops o (Fp j) ∧ (op1 C F o (Fp j) (Hp j)).run = some (V j, Hp (j + 1), nj) := by
      generalize hVj : V j = vj at hat
      generalize hHj : Hp (j + 1) = hj1 at hat
      rw [hNj] at hat
      cases hat with
      | go g h => exact ⟨g, h⟩
    have hw : Region.wanted o (yielded ops a.tmps) = true := by
      unfold Region.wanted
      cases hg : o.guard with
      | none => rfl
      | some gw =>
        obtain ⟨i, want⟩ := gw
        obtain ⟨t, c, hs, hv⟩ := hd.1 i want hg
        simp only
        unfold yielded
        rw [gslot i want t _ c hg hs hv]
        simp
    rw [hw, if_pos rfl]
    left
    -- the operands
    obtain ⟨ρ', hρ'⟩ : ∃ ρ' : Operand → AV, ρ' = fun x => open Classical in if x ∈ o.op.operands then ev (Fp j) x else U := ⟨_, rfl⟩
    have hρ : ∀ x ∈ o.op.operands, ev (Fp j) x = ρ' x := by intro x hx; rw [hρ']; simp only [hx, if_true]
    have inNames : ∀ t, Operand.tmp t ∈ o.op.operands → t ∈ namesOf ops o := by
      intro t ht
      refine List.mem_append_left _ (List.mem_append_left _ (List.mem_filterMap.2 ⟨.tmp t, by simpa using ht, rfl⟩))
    have hwf : ∀ x, (ρ' x).wf (Hp k).o.length (Hp k).n.length := by
      intro x
      rw [hρ']
      simp only
      split
      · rename_i hx
        cases x with
        | tmp t =>
          show ((Fp j).getD t U).wf _ _
          by_cases hlt : t < fr0.length
          · have h2 := I.tmps t hlt
            rw [hf0] at h2
            exact ((seen t (inNames t hx) hlt).2.1 _ _).2 h2.1
          · have : (Fp j)[t]? = none := List.getElem?_eq_none (by rw [hFl]; exact Nat.not_lt.1 hlt)
            simp only [List.getD_eq_getElem?_getD, this, Option.getD_none, AV.wf]
        | const v => trivial
        | global g => trivial
        | func f => trivial
      · trivial
    obtain ⟨hnj, hop⟩ : (o.op.operands.toList.all fun x => notJunk (ev (Fp j) x)) = true ∧ _ := must_some (by have := hd.2; unfold op1 at this; exact this)
    have hev : ∀ x ∈ o.op.operands, a.eval x = conc E (ρ' x) := by
      intro x hx
      have hxj := List.all_eq_true.1 hnj x (by simpa using hx)
      rw [← hρ x hx]
      cases x with
      | tmp t =>
        show a.tmps.getD t undef = conc E ((Fp j).getD t U)
        by_cases hlt : t < fr0.length
        · have h2 := I.tmps t hlt
          rw [hf0] at h2
          have hs := seen t (inNames t hx) hlt
          have h3 := h2.2.resolve_left (fun hjk => by
            have : (Fp j).getD t U = .junk := hs.2.2.2 hjk
            simp only [ev, this, notJunk] at hxj
            cases hxj)
          rw [hs.1 E]
          simp only [Array.getD_eq_getD_getElem?, h3, Option.getD_some]
        · have h1 : (Fp j)[t]? = none := List.getElem?_eq_none (by rw [hFl]; exact Nat.not_lt.1 hlt)
          have h2 : a.tmps[t]? = none := Array.getElem?_eq_none (by rw [I.size]; exact Nat.not_lt.1 hlt)
          simp only [List.getD_eq_getElem?_getD, h1, Option.getD_none, Array.getD_eq_getD_getElem?, h2, conc]
      | const v => rfl
      | global g =>
        show Value.pointer (some ⟨g, 0, none⟩) = conc E (.ptr (.g g) 0)
        have := hR.glob g
        simp [conc, Env.blk, this]
      | func f => rfl
    have hrule := opRule_congr (C := C) (o := o) (ρ := ev (Fp j)) (ρ' := ρ') hρ
    have hexec : (∀ cs b, o.op ≠ .select cs b) → execOp a.eval o = execOp (fun x => conc E (ρ' x)) o := fun hs => execOp_congr o hs hev
    have hsel : ∀ cs b, o.op ≠ .select cs b := by
      intro cs b he
      have : opRule C o (ev (Fp j)) = .pure .stuck := by unfold opRule; rw [he]
      rw [this] at hop
      cases hop
    have hsnd := opRule_sound (w := w) hG.fns hR ρ' hwf o
    rw [← hexec hsel] at hsnd
    rw [hrule] at hop
    unfold Oper.wp
    cases hrl : opRule C o ρ' with
    | pure t =>
      rw [hrl] at hop hsnd
      simp only at hop
      obtain ⟨x, hx, hop⟩ := T.bind_some hop
      have := leaf_some hop
      simp only [Prod.mk.injEq] at this
      obtain ⟨hxV, _, rfl⟩ := this
      obtain ⟨h1, h2⟩ := hsnd x hx
      rw [h2, Oper.upon_value, ← hxV]
      exact putInv E k w I.step (Step.refl hR) I.kle (fun p n hp hn hwr => by
        rw [← I.wrs p n hp hn hwr]
        exact ⟨fun h => h.resolve_right (fun e => by subst e; rw [hNj] at hn; cases hn; exact hwr rfl), .inl⟩) (by rw [hxV]; exact h1)
    | read i f =>
      rw [hrl] at hop hsnd
      simp only at hop
      split at hop
      · rename_i s hs
        obtain ⟨x, hx, hop⟩ := T.bind_some hop
        have := leaf_some hop
        simp only [Prod.mk.injEq] at this
        obtain ⟨hxV, _, rfl⟩ := this
        have hsk : (Hp k).get C i = some s := by
          by_cases hkj : k ≤ j
          · obtain ⟨x, _, hx⟩ := read_ok hrl
            obtain ⟨sk, hsk⟩ := ok_get (hx _ _ (hwf x)) hs
            have := hL.held hsk j hkj (Nat.le_of_lt hjlt) (fun p n v h1 h2 hn hv hi => by
              have h3 := c3 _ i hNj rfl p n v (by omega) hn hv hi
              have h4 := I.wrs p n (by omega) hn (by rw [hv]; exact Option.some_ne_none _)
              have := h4.1 (h3.2 h2)
              omega)
            rw [this] at hs
            cases hs
            exact hsk
          · exact hL.held hs k (by omega) I.kle (fun p n v h1 h2 hn hv hi => by
              have h3 := c3 _ i hNj rfl p n v (by have := I.kle; omega) hn hv hi
              have h4 := I.wrs p n (by have := I.kle; omega) hn (by rw [hv]; exact Option.some_ne_none _)
              have := h3.1 (h4.2 h2)
              omega)
        obtain ⟨h1, h2⟩ := hsnd s x hsk hx
        rw [h2, Oper.upon_value, ← hxV]
        exact putInv E k w I.step (Step.refl hR) I.kle (fun p n hp hn hwr => by
          rw [← I.wrs p n hp hn hwr]
          exact ⟨fun h => h.resolve_right (fun e => by subst e; rw [hNj] at hn; cases hn; exact hwr rfl), .inl⟩) (by rw [hxV]; exact h1)
      · cases hop
    | eff f =>
      rw [hrl] at hop hsnd
      simp only at hop
      obtain ⟨x, hx, hop⟩ := T.bind_some hop
      -- the note says that something turns
      have hnw : nj.wr ≠ none := by
        intro hn
        split at hop
        · have := leaf_some hop; simp only [Prod.mk.injEq] at this; rw [this.2.2] at hn; cases hn
        · have := leaf_some hop; simp only [Prod.mk.injEq] at this; rw [this.2.2] at hn; cases hn
        · obtain ⟨y, hy, hop⟩ := T.bind_some hop
          have := leaf_some hop; simp only [Prod.mk.injEq] at this; rw [this.2.2] at hn; cases hn
      have hc2 := c2 nj hNj hnw
      have hkj : k ≤ j := by
        by_cases h : j < k
        · exact absurd ((I.wrs j nj hjlt hNj hnw).2 h) hS
        · omega
      have hHk : Hp j = Hp k := hL.const j hkj (Nat.le_of_lt hjlt) (fun p n h1 h2 hn => by
        cases hwr : n.wr with
        | none => rfl
        | some v =>
          have h3 := hc2 p n (by omega) (by omega) hn (by rw [hwr]; exact Option.some_ne_none _)
          have h4 := I.wrs p n (by omega) hn (by rw [hwr]; exact Option.some_ne_none _)
          have := h4.1 (h3.2 h2)
          omega)
      rw [hHk] at hx
      have hsx := hsnd x hx
      have wrs' : ∀ p n, p < ops.toList.length → N p = some n → n.wr ≠ none → ((S p ∨ p = j) ↔ p < j + 1) := by
        intro p n hp hn hwr
        by_cases he : p = j
        · subst he; exact ⟨fun _ => by omega, fun _ => .inr rfl⟩
        · rw [hc2 p n hp he hn hwr]
          constructor
          · rintro (h | h) <;> omega
          · intro h; left; omega
      split at hop
      · rename_i v hv
        rw [hv] at hsx
        obtain ⟨E', w', hst, h1, h2⟩ := hsx
        have := leaf_some hop
        simp only [Prod.mk.injEq] at this
        obtain ⟨hxV, hH, _⟩ := this
        rw [← hH] at hst h1
        rw [h2, Oper.upon_value, ← hxV]
        exact putInv E' (j + 1) w' (I.step.trans hst) hst (by omega) wrs' (by rw [hxV]; exact h1)
      · rename_i hv
        rw [hv] at hsx
        obtain ⟨E', w', hst, h2⟩ := hsx
        have := leaf_some hop
        simp only [Prod.mk.injEq] at this
        obtain ⟨hxV, hH, _⟩ := this
        rw [← hH] at hst
        rw [h2, Oper.upon_skip]
        have hp := putInv E' (j + 1) w' (I.step.trans hst) hst (by omega) wrs' (by rw [hxV]; trivial)
        rw [hxV] at hp
        exact hp
      · rename_i g args hv
        rw [hv] at hsx
        obtain ⟨hxH, hwa, h2⟩ := hsx
        obtain ⟨y, hy, hop⟩ := T.bind_some hop
        obtain ⟨y1, y2, y3⟩ := y
        have := leaf_some hop
        simp only [Prod.mk.injEq] at this
        obtain ⟨hxV, hH, _⟩ := this
        rw [hxH] at hy
        have hcall := (callWith_sound hG (hF g) hR hwa hy).2
        rw [h2, Oper.upon_enter]
        refine hcall.mono ?_
        rintro e w' ⟨E', hst, hr, rfl⟩
        rw [← hH] at hst hr
        simp only
        rw [← hxV]
        exact putInv E' (j + 1) w' (I.step.trans hst) hst (by omega) wrs' (by rw [hxV]; exact hr)
end

end Eng

/- The engine, part 24: a whole region, in its order or in any. -/
import Derived.Test.YtcmnnggpeloanaaGreatDoorEng23
namespace Eng
open Go

/-- a frame's slots stand for the machine's -/
structure Rel (E : Env) (H : Heap) (fr : List AV) (a : Act) : Prop where
  size : a.tmps.size = fr.length
  defers : a.defers = []
  tmps : ∀ t, t < fr.length → (fr.getD t U).wf H.o.length H.n.length ∧ (fr.getD t U = .junk ∨ a.tmps[t]? = some (conc E (fr.getD t U)))

section
variable {C : Ctx} {F : Fns} {ops : Array Oper} {fr0 fr' : List AV} {Fp : Nat → List AV} {Hp : Nat → Heap} {V : Nat → AV} {N : Nat → Option Note} {E0 E : Env} {H0 : Heap} {w0 w : World} {S S' : Nat → Prop} {k : Nat} {a : Act}

theorem Inv.congr {l : List Oper} {d0 : List Deferred} (I : Inv C l fr0 E0 H0 w0 d0 Hp V N S k E a w) (h : ∀ p, S p ↔ S' p) : Inv C l fr0 E0 H0 w0 d0 Hp V N S' k E a w := by
  have : S = S' := funext fun p => propext (h p)
  rw [← this]; exact I

theorem Inv.start {l : List Oper} (hR : Real C w0 E0 H0) (hrel : Rel E0 H0 fr0 a) (h0 : Hp 0 = H0) : Inv C l fr0 E0 H0 w0 [] Hp V N (fun _ => False) 0 E0 a w0 := by
  refine ⟨by rw [h0]; exact Step.refl hR, Nat.zero_le _, fun p n _ _ _ => by simp, hrel.size, hrel.defers, fun t ht => ?_⟩
  rw [lastS_cut (m := 0) l.length (Nat.zero_le _) (fun _ _ _ _ h => h), h0]
  exact hrel.tmps t ht

theorem Inv.done (hL : Line C F ops ops.toList fr0 Fp Hp V N) (hS : ∀ p, p < ops.toList.length → S p) (I : Inv C ops.toList fr0 E0 H0 w0 [] Hp V N S k E a w)
    (hl : fr'.length = fr0.length) (hs : ∀ t, t < fr0.length → Same (fr'.getD t U) (lastS all ops.toList V (fun t => fr0.getD t U) ops.toList.length t)) :
    Step C E0 H0 w0 E (Hp ops.toList.length) w ∧ Rel E (Hp ops.toList.length) fr' a := by
  have hH : Hp ops.toList.length = Hp k := hL.const _ I.kle (Nat.le_refl _) (fun p n h1 h2 hn => by
    cases hwr : n.wr with
    | none => rfl
    | some v =>
      have := (I.wrs p n h2 hn (by rw [hwr]; exact Option.some_ne_none _)).1 (hS p h2)
      omega)
  rw [hH]
  refine ⟨I.step, by rw [hl]; exact I.size, I.defers, fun t ht => ?_⟩
  rw [hl] at ht
  have h1 := I.tmps t ht
  rw [lastS_congr (S' := all) _ (fun p hp _ => ⟨fun _ => trivial, fun _ => hS p hp⟩)] at h1
  exact ⟨((hs t ht).2.1 _ _).2 h1.1, h1.2.imp (hs t ht).2.2.2 (fun h => by rw [(hs t ht).1 E]; exact h)⟩

/-- in the text's order -/
theorem seq_sound (hG : C.Good) (hF : ∀ f, FnOk C f (F f)) {Q : Exit → Act → World → Prop} {H' : Heap} {notes : List (Option Note)} (hR : Real C w0 E0 H0) (hrel : Rel E0 H0 fr0 a)
    (h : (runOps C F ops ops.toList fr0 H0).run = some (fr', H', notes))
    (hQ : ∀ E a w, Step C E0 H0 w0 E H' w → Rel E H' fr' a → Q .normal a w) : wpOps C.P ops Q (List.range ops.size) a w0 := by
  obtain ⟨Fp, Hp, V, N, hL, h0, hn, _, _, hfl, hfs⟩ := line _ _ _ _ _ _ h
  have key : ∀ m j, j + m = ops.toList.length → ∀ k E a w, Inv C ops.toList fr0 E0 H0 w0 [] Hp V N (fun p => p < j) k E a w → wpOps C.P ops Q (List.range' j m) a w := by
    intro m
    induction m with
    | zero =>
      intro j hj k E a w I
      have := Inv.done hL (fun p hp => by omega) I hfl hfs
      rw [hn] at this
      exact hQ E a w this.1 this.2
    | succ m ih =>
      intro j hj k E a w I
      rw [List.range'_succ, wpOps_cons]
      have hlt : j < ops.size := by simp at hj; omega
      refine Inv.next hG hF hL I (o := ops[j]) (by simp [hlt]) (by omega) (fun t _ p _ _ => Iff.rfl) (fun _ _ _ p n _ _ _ _ => Iff.rfl) (fun _ _ _ _ p n v _ _ _ _ => Iff.rfl) ?_
      intro k' E' a' w' I'
      exact ih (j + 1) (by omega) k' E' a' w' (I'.congr fun p => by omega)
  rw [List.range_eq_range']
  exact key ops.size 0 (by simp) 0 E0 a w0 ((Inv.start hR hrel h0).congr fun p => ⟨False.elim, fun h => absurd h (Nat.not_lt_zero _)⟩)

/-! ### in any order -/
def tabF : List Oper → List Nat → List Nat
  | [], acc => acc
  | o :: rest, acc => tabF rest (acc ++ [o.after.toList.foldl (fun s e => if Region.binds .any e then s ||| (2 ^ e.on ||| acc.getD e.on 0) else s) 0])

theorem forceN_eq {α : Type} (n : Nat) (f : Nat → α) : forceN n f = f n := by cases n <;> rfl
theorem befs_eq : ∀ (l : List Oper) (acc : List Nat) (k : List Nat → Bool), befs l acc k = k (tabF l acc)
  | [], _, _ => rfl
  | o :: l, acc, k => by unfold befs tabF; rw [forceN_eq, befs_eq l]

/-- all that must come before j has come -/
def Direct (ops : Array Oper) (S : Nat → Prop) (j : Nat) : Prop := ∀ o, ops[j]? = some o → ∀ e ∈ o.after, Region.binds .any e = true → S e.on

theorem tabF_spec (hcl : ∀ j, S j → Direct ops S j) : ∀ (l : List Oper) (acc : List Nat), (∀ p o, l[p]? = some o → ops[acc.length + p]? = some o) →
    (∀ j, j < acc.length → Direct ops S j → ∀ i, (acc.getD j 0).testBit i = true → S i) → ∀ j, j < (tabF l acc).length → Direct ops S j → ∀ i, ((tabF l acc).getD j 0).testBit i = true → S i
  | [], acc, _, h => h
  | o :: l, acc, hops, h => by
    unfold tabF
    refine tabF_spec hcl l _ (fun p o' hp => ?_) ?_
    · have := hops (p + 1) o' (by simpa using hp)
      simp only [List.length_append, List.length_cons, List.length_nil]
      rw [← this]; congr 1; omega
    · intro j hj hd i hi
      simp only [List.length_append, List.length_cons, List.length_nil] at hj
      by_cases hjl : j < acc.length
      · rw [List.getD_eq_getElem?_getD, List.getElem?_append_left hjl, ← List.getD_eq_getElem?_getD] at hi
        exact h j hjl hd i hi
      · have hje : j = acc.length := by omega
        subst hje
        rw [List.getD_eq_getElem?_getD, List.getElem?_append_right (Nat.le_refl _)] at hi
        simp only [Nat.sub_self, List.getElem?_cons_zero, Option.getD_some] at hi
        have hd' := hd o (by simpa using hops 0 o rfl)
        have fold : ∀ (es : List Edge) (s : Nat), (∀ e ∈ es, Region.binds .any e = true → S e.on) → (∀ i, s.testBit i = true → S i) →
            ∀ i, (es.foldl (fun s e => if Region.binds .any e then s ||| (2 ^ e.on ||| acc.getD e.on 0) else s) s).testBit i = true → S i := by
          intro es
          induction es with
          | nil => intro s _ hs; exact hs
          | cons e es ih =>
            intro s he hs
            simp only [List.foldl_cons]
            refine ih _ (fun e' h' => he e' (List.mem_cons_of_mem _ h')) ?_
            intro i hi
            split at hi
            · rename_i hb
              rw [Nat.testBit_or, Nat.testBit_or, Bool.or_eq_true, Bool.or_eq_true] at hi
              have hSe := he e (List.mem_cons_self ..) hb
              rcases hi with hi | hi | hi
              · exact hs i hi
              · rw [Nat.testBit_two_pow, decide_eq_true_eq] at hi
                rw [← hi]; exact hSe
              · by_cases hel : e.on < acc.length
                · exact h e.on hel (hcl _ hSe) i hi
                · rw [List.getD_eq_getElem?_getD, List.getElem?_eq_none (by omega), Option.getD_none, Nat.zero_testBit] at hi
                  cases hi
            · exact hs i hi
        exact fold o.after.toList 0 (fun e he hb => hd' e (by simpa using he) hb) (fun i hi => by rw [Nat.zero_testBit] at hi; cases hi) i hi

theorem tabF_length : ∀ (l : List Oper) (acc : List Nat), (tabF l acc).length = acc.length + l.length
  | [], acc => rfl
  | o :: l, acc => by unfold tabF; rw [tabF_length l]; simp; omega

/-- what is ordered stands as in the text -/
theorem ordered_spec (hcl : ∀ j, S j → Direct ops S j) {p j : Nat} (hj : ¬ S j) (hd : Direct ops S j) (hp : p < ops.size) (hjn : j < ops.size) (hne : p ≠ j)
    (h : ordered (tabF ops.toList []) p j = true) : S p ↔ p < j := by
  have hsp := tabF_spec (ops := ops) (S := S) hcl ops.toList [] (fun p o hp => by simpa using hp) (fun j h => by simp at h)
  have hlen : (tabF ops.toList []).length = ops.size := by rw [tabF_length]; simp
  unfold ordered at h
  split at h
  · rename_i hlt
    exact ⟨fun _ => hlt, fun _ => hsp j (by omega) hd p h⟩
  · rename_i hge
    refine ⟨fun hs => absurd (hsp p (by omega) (hcl p hs) j h) hj, fun hlt => absurd hlt hge⟩

theorem ordered_symm {b : List Nat} {p j : Nat} (hne : p ≠ j) : ordered b p j = ordered b j p := by
  unfold ordered
  by_cases h : p < j
  · rw [if_pos h, if_neg (by omega)]
  · rw [if_neg h, if_pos (by omega)]

theorem tmpsOk_spec {b : List Nat} {ws : List (Tmp × Nat)} : ∀ (l : List Oper) (j0 : Nat), tmpsOk ops b ws l j0 = true →
    ∀ p o, l[p]? = some o → ∀ t ∈ namesOf ops o, ∀ q, (t, q) ∈ ws → q = j0 + p ∨ ordered b q (j0 + p) = true
  | [], _, _, p, o, hp => by simp at hp
  | o :: l, j0, h, p, o', hp => by
    unfold tmpsOk at h
    rw [Bool.and_eq_true, List.all_eq_true] at h
    cases p with
    | zero =>
      simp only [List.getElem?_cons_zero, Option.some.injEq] at hp
      subst hp
      intro t ht q hq
      have := h.1 t ht
      rw [List.all_eq_true] at this
      have := this (t, q) hq
      simpa [or_assoc] using this
    | succ p =>
      have := tmpsOk_spec l (j0 + 1) h.2 p o' (by simpa using hp)
      rw [show j0 + (p + 1) = j0 + 1 + p from by omega]
      exact this

theorem writersOf_spec {t : Tmp} : ∀ (l : List Oper) (i p : Nat), writes l p t → (t, i + p) ∈ writersOf l i
  | [], i, p, h => by obtain ⟨o, ho, _⟩ := h; simp at ho
  | o :: l, i, p, h => by
    obtain ⟨o', ho, hd⟩ := h
    cases p with
    | zero =>
      simp only [List.getElem?_cons_zero, Option.some.injEq] at ho
      subst ho
      simp [writersOf, hd]
    | succ p =>
      have := writersOf_spec l (i + 1) p ⟨o', by simpa using ho, hd⟩
      rw [show i + (p + 1) = i + 1 + p from by omega]
      unfold writersOf
      split
      · exact List.mem_cons_of_mem _ this
      · exact this

theorem loud_mem {n : Note} (hn : n.rd ≠ none ∨ n.wr ≠ none) : ∀ (notes : List (Option Note)) (i p : Nat), notes[p]? = some (some n) → (i + p, n) ∈ loud notes i
  | [], i, p, h => by simp at h
  | x :: notes, i, p, h => by
    cases p with
    | zero =>
      simp only [List.getElem?_cons_zero, Option.some.injEq] at h
      subst h
      obtain ⟨rd, wr⟩ := n
      cases rd <;> cases wr <;> simp_all [loud]
    | succ p =>
      have := loud_mem hn notes (i + 1) p (by simpa using h)
      rw [show i + (p + 1) = i + 1 + p from by omega]
      unfold loud
      split
      · rename_i h1; cases h1
      · rename_i h1; cases h1; exact this
      · rename_i h1; cases h1; exact this
      · rename_i h1; cases h1; exact List.mem_cons_of_mem _ this

theorem clash_loud {n m : Note} (h : clash n m = true) : (n.rd ≠ none ∨ n.wr ≠ none) ∧ (m.rd ≠ none ∨ m.wr ≠ none) := by
  obtain ⟨r1, w1⟩ := n
  obtain ⟨r2, w2⟩ := m
  cases r1 <;> cases w1 <;> cases r2 <;> cases w2 <;> simp_all [clash]

theorem loudOk_spec {b : List Nat} {n m : Note} (hc : clash n m = true) : ∀ (notes : List (Option Note)) (i p q : Nat), loudOk b (loud notes i) = true → p < q → notes[p]? = some (some n) → notes[q]? = some (some m) →
    ordered b (i + p) (i + q) = true
  | [], i, p, q, _, _, hp, _ => by simp at hp
  | x :: notes, i, p, q, h, hpq, hp, hq => by
    cases q with
    | zero => omega
    | succ q =>
      have hq' : notes[q]? = some (some m) := by simpa using hq
      cases p with
      | zero =>
        simp only [List.getElem?_cons_zero, Option.some.injEq] at hp
        subst hp
        have hl := clash_loud hc
        have hm := loud_mem hl.2 notes (i + 1) q hq'
        unfold loud at h
        split at h
        · rename_i h1; cases h1
        · rename_i h1; cases h1; simp at hl
        · rename_i h1; cases h1
        · rename_i h1
          cases h1
          unfold loudOk at h
          rw [Bool.and_eq_true, List.all_eq_true] at h
          have := h.1 _ hm
          simp only [hc, Bool.not_true, Bool.false_or] at this
          rw [show ∀ i : Nat, i + 1 + q = i + (q + 1) from fun i => by omega] at this
          exact this
      | succ p =>
        have hrest : loudOk b (loud notes (i + 1)) = true := by
          unfold loud at h
          split at h
          · rename_i h1; cases h1
          · rename_i h1; cases h1; exact h
          · rename_i h1; cases h1; exact h
          · rename_i h1; cases h1
            unfold loudOk at h
            rw [Bool.and_eq_true] at h
            exact h.2
        have := loudOk_spec hc notes (i + 1) p q hrest (by omega) (by simpa using hp) hq'
        rw [show i + (p + 1) = i + 1 + p from by omega, show i + (q + 1) = i + 1 + q from by omega]
        exact this

theorem backOk_spec : ∀ (l : List Oper) (i : Nat), backOk l i = true → ∀ p o, l[p]? = some o → ∀ e ∈ o.after, Region.binds .any e = true → e.on < i + p
  | [], _, _, p, o, hp => by simp at hp
  | o :: l, i0, h, p, o', hp => by
    unfold backOk at h
    rw [Bool.and_eq_true, List.all_eq_true] at h
    cases p with
    | zero =>
      simp only [List.getElem?_cons_zero, Option.some.injEq] at hp
      subst hp
      intro e he hb
      have := h.1 e (by simpa using he)
      rw [hb] at this
      simpa using this
    | succ p =>
      have := backOk_spec l (i0 + 1) h.2 p o' (by simpa using hp)
      rw [show i0 + (p + 1) = i0 + 1 + p from by omega]
      exact this

theorem clash_wr {n m : Note} (h1 : n.wr ≠ none) (h2 : m.wr ≠ none) : clash n m = true := by
  obtain ⟨r1, w1⟩ := n
  obtain ⟨r2, w2⟩ := m
  cases w1 <;> cases w2 <;> simp_all [clash]
theorem clash_rd {n m : Note} {i : Id} {v : List Id} (h1 : n.rd = some i) (h2 : m.wr = some v) (h3 : i ∈ v) : clash n m = true ∧ clash m n = true := by
  obtain ⟨r1, w1⟩ := n
  obtain ⟨r2, w2⟩ := m
  cases w1 <;> cases w2 <;> simp_all [clash]

theorem Real.drawn {n : Nat} (h : Real C w E H0) : Real C { w with drawn := n } E H0 :=
  ⟨h.slot, h.wf, h.own, h.apart, h.gown, h.glob⟩

theorem any_sound (hG : C.Good) (hF : ∀ f, FnOk C f (F f)) {Q : Exit → Act → World → Prop} {H' : Heap} {notes : List (Option Note)} (hR : Real C w0 E0 H0) (hrel : Rel E0 H0 fr0 a)
    (h : (runOps C F ops ops.toList fr0 H0).run = some (fr', H', notes)) (hok : drawOk ops notes = true)
    (hQ : ∀ E a w, Step C E0 H0 w0 E H' w → Rel E H' fr' a → Q .normal a w) : wpAny C.P .any ops Q ops.size (Array.replicate ops.size false) a w0 := by
  obtain ⟨Fp, Hp, V, N, hL, h0, hn, hnl, hno, hfl, hfs⟩ := line _ _ _ _ _ _ h
  unfold drawOk at hok
  rw [befs_eq, Bool.and_eq_true, Bool.and_eq_true] at hok
  obtain ⟨hback, hloud, htmps⟩ := hok
  have key : ∀ fuel (listed : Array Bool) (T : List Nat) k E a w, listed.size = ops.size → T.length ≤ fuel → (∀ p, p < ops.size → listed.getD p false = false → p ∈ T) →
      (∀ j, listed.getD j false = true → Direct ops (fun p => listed.getD p false = true) j) →
      Inv C ops.toList fr0 E0 H0 w0 [] Hp V N (fun p => listed.getD p false = true) k E a w → wpAny C.P .any ops Q fuel listed a w := by
    intro fuel
    induction fuel with
    | zero =>
      intro listed T k E a w hsz hT hmem hcl I
      have hall : ∀ p, p < ops.toList.length → listed.getD p false = true := by
        intro p hp
        cases hb : listed.getD p false with
        | true => rfl
        | false =>
          have h1 := hmem p (by simpa using hp) hb
          have h2 : T = [] := List.eq_nil_of_length_eq_zero (by omega)
          rw [h2] at h1
          cases h1
      refine ⟨?_, ?_⟩
      · refine List.eq_nil_iff_forall_not_mem.2 fun j hj => ?_
        obtain ⟨h1, o, ho, _⟩ := mem_ready.1 hj
        have hjl : j < ops.size := (Array.getElem?_eq_some_iff.1 ho).1
        have h2 := hall j (by simpa using hjl)
        simp only [Array.getD_eq_getD_getElem?, Array.getElem?_eq_getElem (hsz ▸ hjl : j < listed.size), Option.getD_some] at h1 h2
        rw [h1] at h2; cases h2
      · have := Inv.done hL hall I hfl hfs
        rw [hn] at this
        exact hQ E a w this.1 this.2
    | succ fuel ih =>
      intro listed T k E a w hsz hT hmem hcl I
      refine ⟨fun hready => ?_, fun j hj => ?_⟩
      · have hall : ∀ p, p < ops.toList.length → listed.getD p false = true := by
          intro p
          induction p using Nat.strongRecOn with
          | _ p ihp =>
            intro hp
            cases hb : listed.getD p false with
            | true => rfl
            | false =>
              exfalso
              have hpl : p < ops.size := by simpa using hp
              have : p ∈ Region.ready .any ops listed := by
                rw [mem_ready]
                refine ⟨?_, ops[p], by simp [hpl], fun e he hbb => ?_⟩
                · simp only [Array.getD_eq_getD_getElem?, Array.getElem?_eq_getElem (hsz ▸ hpl : p < listed.size), Option.getD_some] at hb ⊢
                  exact hb
                · have := backOk_spec ops.toList 0 hback p ops[p] (by simp [hpl]) e he hbb
                  exact ihp e.on (by omega) (by omega)
              rw [hready] at this
              cases this
        have := Inv.done hL hall I hfl hfs
        rw [hn] at this
        exact hQ E a w this.1 this.2
      · obtain ⟨h1, o, ho, hd⟩ := mem_ready.1 hj
        have hjl : j < ops.size := (Array.getElem?_eq_some_iff.1 ho).1
        have hjs : j < listed.size := by rw [hsz]; exact hjl
        have hSj : ¬ (listed.getD j false = true) := by
          simp only [Array.getD_eq_getD_getElem?, Array.getElem?_eq_getElem hjs, Option.getD_some] at h1 ⊢
          rw [h1]; simp
        have hdir : Direct ops (fun p => listed.getD p false = true) j := by
          intro o' ho' e he hb
          rw [ho] at ho'; cases ho'
          exact hd e he hb
        have ord : ∀ p, p < ops.size → p ≠ j → ordered (tabF ops.toList []) p j = true → (listed.getD p false = true ↔ p < j) :=
          fun p hp hne h => ordered_spec (S := fun p => listed.getD p false = true) hcl hSj hdir hp hjl hne h
        have pair : ∀ p n nj, p < ops.size → p ≠ j → N p = some n → N j = some nj → clash n nj = true → clash nj n = true → (listed.getD p false = true ↔ p < j) := by
          intro p n nj hp hne hnp hnj hc hc'
          have e1 : notes[p]? = some (some n) := by rw [hno p (by simpa using hp), hnp]
          have e2 : notes[j]? = some (some nj) := by rw [hno j (by simpa using hjl), hnj]
          refine ord p hp hne ?_
          by_cases hlt : p < j
          · have := loudOk_spec hc notes 0 p j hloud hlt e1 e2
            simpa using this
          · have := loudOk_spec hc' notes 0 j p hloud (by omega) e2 e1
            rw [ordered_symm hne]
            simpa using this
        refine Inv.next hG hF hL I ho hSj ?_ ?_ ?_ ?_
        · intro t ht p hne hwr
          have hp : p < ops.size := by
            obtain ⟨o', ho', _⟩ := hwr
            have := (List.getElem?_eq_some_iff.1 ho').1
            simpa using this
          have := tmpsOk_spec ops.toList 0 htmps j o (by simpa using ho) t ht p (by simpa using writersOf_spec ops.toList 0 p hwr)
          refine ord p hp hne ?_
          simpa [hne] using this
        · intro nj hnj hwr p n hp hne hn hwr'
          exact pair p n nj (by simpa using hp) hne hn hnj (clash_wr hwr' hwr) (clash_wr hwr hwr')
        · intro nj i hnj hrd p n v hp hn hv hi
          by_cases hne : p = j
          · subst hne
            exact ⟨fun h => absurd h hSj, fun h => absurd h (Nat.lt_irrefl _)⟩
          · have hc := clash_rd hrd hv hi
            exact pair p n nj (by simpa using hp) hne hn hnj hc.2 hc.1
        · intro k' E' a' w' I'
          have hset : ∀ p, (listed.setIfInBounds j true).getD p false = true ↔ (listed.getD p false = true ∨ p = j) := by
            intro p
            by_cases hpj : p = j
            · subst hpj
              simp [hjs]
            · rw [getD_set_ne false (Ne.symm hpj)]
              exact ⟨.inl, fun h => h.resolve_right hpj⟩
          refine ih (listed.setIfInBounds j true) (T.erase j) k' E' a' w' (by simpa using hsz) ?_ ?_ ?_ (I'.congr fun p => (hset p).symm)
          · have hjT : j ∈ T := hmem j hjl (by simpa using hSj)
            rw [List.length_erase_of_mem hjT]
            omega
          · intro p hp hb
            have hpj : p ≠ j := by
              rintro rfl
              rw [(hset p).2 (.inr rfl)] at hb; cases hb
            rw [getD_set_ne false (Ne.symm hpj)] at hb
            exact (List.mem_erase_of_ne hpj).2 (hmem p hp hb)
          · intro i hi o' ho' e he hb
            refine (hset e.on).2 (.inl ?_)
            rcases (hset i).1 hi with h | h
            · exact hcl i h o' ho' e he hb
            · subst h
              exact hdir o' ho' e he hb
  refine key ops.size _ (List.range ops.size) 0 E0 a w0 (by simp) (by simp) (fun p hp _ => List.mem_range.2 hp) ?_ ((Inv.start hR hrel h0).congr ?_)
  · intro j hj
    exfalso
    by_cases hjl : j < ops.size
    · simp [hjl] at hj
    · simp [hjl] at hj
  · intro p
    by_cases hp : p < ops.size
    · simp [hp]
    · simp [hp]

end

end Eng

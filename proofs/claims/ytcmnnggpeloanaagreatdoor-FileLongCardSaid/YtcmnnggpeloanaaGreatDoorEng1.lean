/- The engine, part 1: abstract values, abstract heaps, what they stand for. -/
import Derived.Calls
import Derived.Orders
namespace Eng
open Go

/-- the name of a block of the abstract heap: one that was there, a new one, a variable of the program -/
inductive Id where
  | o (k : Nat)
  | n (k : Nat)
  | g (k : Nat)
  deriving DecidableEq

/-- what a name stands for: its blocks, where its row begins, its capacity -/
structure Ent where
  blks : List Nat
  org : Nat
  cap : Nat

abbrev Env := Id → Ent

inductive AV where
  | v (x : Value) (c : Bool)
  | arr (k : IntKind) (n : Nat) (l : List Int)
  | agg (cs : List AV)
  | tup (vs : List AV)
  | ptr (i : Id) (off : Nat)
  | ap (i : Id) (off j : Nat)
  | sl (i : Id) (sz : Nat) (path : List Nat) (len : Nat)
  | ep (i : Id) (sz j fo : Nat)
  | fn (f : FuncId) (caps : List AV)
  | bm (f : FuncId) (first : List AV)
  | junk
  | ifc (t : TypeId) (x : AV)

/-- a slice's cuts: where it begins, what is left of the capacity -/
def cut : List Nat → Nat → Nat → Nat × Nat
  | [], a, c => (a, c)
  | l :: p, a, c => if c = l then cut p a 0 else cut p (a + l) (c - l)

def Env.blk (E : Env) (i : Id) : Option Nat := (E i).blks.head?

def cellsOf (vs : List Value) : List Value := vs.flatMap fun x => x.cells.toList
def arrVals (k : IntKind) (n : Nat) (l : List Int) : List Value := (List.range n).map fun i => .int k (l.getD i 0)

mutual
def conc (E : Env) : AV → Value
  | .v x _ => x
  | .arr k n l => .agg (arrVals k n l).toArray
  | .agg cs => .agg (cellsOf (concL E cs)).toArray
  | .tup vs => .tuple (concL E vs).toArray
  | .ptr i off => .pointer ((E.blk i).map fun b => ⟨b, (E i).org + off, none⟩)
  | .ap i off j => .pointer ((E.blk i).map fun b => ⟨b, (E i).org + (off + j), none⟩)
  | .sl i sz path len => .slice ((E.blk i).map fun b => ⟨b, (E i).org + (cut path 0 (E i).cap).1 * sz, none⟩) len (cut path 0 (E i).cap).2
  | .ep i sz j fo => .pointer ((E.blk i).map fun b => ⟨b, (E i).org + (j * sz + fo), none⟩)
  | .fn f caps => .func (.func f) #[] (concL E caps).toArray
  | .bm f first => .func (.func f) (concL E first).toArray #[]
  | .junk => undef
  | .ifc t x => .iface t (conc E x)
def concL (E : Env) : List AV → List Value
  | [] => []
  | a :: l => conc E a :: concL E l
end

theorem concL_map (E : Env) (l : List AV) : concL E l = l.map (conc E) := by
  induction l with
  | nil => rfl
  | cons a l ih => simp [concL, ih]

/-- the names that a value holds -/
def Id.ok (no nn : Nat) : Id → Prop
  | .o k => k < no
  | .n k => k < nn
  | .g _ => True

mutual
def AV.wf (no nn : Nat) : AV → Prop
  | .v _ _ => True
  | .arr _ n l => l.length = n
  | .agg cs => AV.wfL no nn cs
  | .tup vs => AV.wfL no nn vs
  | .ptr i _ => i.ok no nn
  | .ap i _ _ => i.ok no nn
  | .sl i _ _ _ => i.ok no nn
  | .ep i _ _ _ => i.ok no nn
  | .fn _ caps => AV.wfL no nn caps
  | .bm _ first => AV.wfL no nn first
  | .junk => True
  | .ifc _ x => AV.wf no nn x
def AV.wfL (no nn : Nat) : List AV → Prop
  | [] => True
  | a :: l => AV.wf no nn a ∧ AV.wfL no nn l
end

theorem AV.wfL_iff {no nn : Nat} {l : List AV} : AV.wfL no nn l ↔ ∀ a ∈ l, AV.wf no nn a := by
  induction l with
  | nil => simp [AV.wfL]
  | cons a l ih => simp [AV.wfL, ih]

/-- two worlds of names agree on what was named -/
def Env.agree (E E' : Env) (no nn : Nat) : Prop := ∀ i : Id, i.ok no nn → E' i = E i

theorem Id.ok_mono {no nn no' nn' : Nat} {i : Id} (h : i.ok no nn) (h1 : no ≤ no') (h2 : nn ≤ nn') : i.ok no' nn' := by
  cases i <;> simp [Id.ok] at * <;> omega

theorem Env.blk_agree {E E' : Env} {i : Id} (h : E' i = E i) : E'.blk i = E.blk i := by unfold Env.blk; rw [h]

mutual
theorem conc_agree {E E' : Env} {no nn : Nat} (h : E.agree E' no nn) : ∀ (a : AV), a.wf no nn → conc E' a = conc E a
  | .v _ _, _ => rfl
  | .arr _ _ _, _ => rfl
  | .agg cs, w => by simp only [conc, concL_agree h cs w]
  | .tup vs, w => by simp only [conc, concL_agree h vs w]
  | .ptr i off, w => by have := h i w; simp only [conc, Env.blk_agree this, this]
  | .ap i off j, w => by have := h i w; simp only [conc, Env.blk_agree this, this]
  | .sl i sz p len, w => by have := h i w; simp only [conc, Env.blk_agree this, this]
  | .ep i sz j fo, w => by have := h i w; simp only [conc, Env.blk_agree this, this]
  | .fn f caps, w => by simp only [conc, concL_agree h caps w]
  | .bm f caps, w => by simp only [conc, concL_agree h caps w]
  | .junk, _ => rfl
  | .ifc t x, w => by simp only [conc, conc_agree h x w]
theorem concL_agree {E E' : Env} {no nn : Nat} (h : E.agree E' no nn) : ∀ (l : List AV), AV.wfL no nn l → concL E' l = concL E l
  | [], _ => rfl
  | a :: l, w => by simp only [concL, conc_agree h a w.1, concL_agree h l w.2]
end

mutual
theorem AV.wf_mono {no nn no' nn' : Nat} (h1 : no ≤ no') (h2 : nn ≤ nn') : ∀ (a : AV), a.wf no nn → a.wf no' nn'
  | .v _ _, _ => trivial
  | .arr _ _ _, w => w
  | .agg cs, w => AV.wfL_mono h1 h2 cs w
  | .tup vs, w => AV.wfL_mono h1 h2 vs w
  | .ptr i off, w => Id.ok_mono w h1 h2
  | .ap i off j, w => Id.ok_mono w h1 h2
  | .sl i sz p len, w => Id.ok_mono w h1 h2
  | .ep i sz j fo, w => Id.ok_mono w h1 h2
  | .fn f caps, w => AV.wfL_mono h1 h2 caps w
  | .bm f caps, w => AV.wfL_mono h1 h2 caps w
  | .junk, _ => trivial
  | .ifc t x, w => AV.wf_mono h1 h2 x w
theorem AV.wfL_mono {no nn no' nn' : Nat} (h1 : no ≤ no') (h2 : nn ≤ nn') : ∀ (l : List AV), AV.wfL no nn l → AV.wfL no' nn' l
  | [], _ => trivial
  | a :: l, w => ⟨AV.wf_mono h1 h2 a w.1, AV.wfL_mono h1 h2 l w.2⟩
end

/-- a field of an element of a row -/
inductive Atom where
  | i (x : Int)
  | s (x : ByteArray)
  | b (x : Bool)
inductive Kind where
  | i (k : IntKind)
  | s
  | b
  deriving DecidableEq

def Atom.int : Atom → Int
  | .i x => x
  | _ => 0
def Atom.str : Atom → ByteArray
  | .s x => x
  | _ => ByteArray.empty
def Atom.bl : Atom → Bool
  | .b x => x
  | _ => false
def Atom.val : Kind → Atom → Value
  | .i k, a => .int k a.int
  | .s, a => .string a.str
  | .b, a => .bool a.bl

/-- what a row holds -/
inductive Row where
  | ints (k : IntKind) (l : List Int)
  | strs (l : List ByteArray)
  | recs (ks : List Kind) (l : List (List Atom))

def recVals : List Kind → List Atom → List Value
  | [], _ => []
  | k :: ks, as => Atom.val k (as.headD (.i 0)) :: recVals ks as.tail

def Row.sz : Row → Nat
  | .ints _ _ => 1
  | .strs _ => 1
  | .recs ks _ => ks.length
def Row.length : Row → Nat
  | .ints _ l => l.length
  | .strs l => l.length
  | .recs _ l => l.length
/-- the cells of element j -/
def Row.elem : Row → Nat → List Value
  | .ints k l, j => [.int k (l.getD j 0)]
  | .strs l, j => [.string (l.getD j ByteArray.empty)]
  | .recs ks l, j => recVals ks (l.getD j [])
def Row.cells (r : Row) : List Value := (List.range r.length).flatMap r.elem

theorem recVals_length (ks : List Kind) (as : List Atom) : (recVals ks as).length = ks.length := by
  induction ks generalizing as with
  | nil => rfl
  | cons k ks ih => simp [recVals, ih]
theorem Row.elem_length (r : Row) (j : Nat) : (r.elem j).length = r.sz := by
  cases r <;> simp [Row.elem, Row.sz, recVals_length]

def isOne : AV → Bool
  | .v (.agg _) _ => false
  | .v (.tuple _) _ => false
  | .arr _ _ _ => false
  | .agg _ => false
  | .tup _ => false
  | .junk => false
  | _ => true

def okCell : AV → Bool
  | .arr _ _ _ => true
  | a => isOne a
def okCells (l : List AV) : Bool := l.all okCell

inductive Slot where
  | dead
  | cells (cs : List AV) (ty : TypeId)
  | row (r : Row) (ty : TypeId)
  | win (r : Row)
  | frow (r : Row)
  | ro (cs : List AV)

def Slot.owned : Slot → Bool
  | .cells _ _ => true
  | .row _ _ => true
  | .frow _ => true
  | _ => false

def Slot.wf (no nn : Nat) : Slot → Prop
  | .cells cs _ => AV.wfL no nn cs ∧ okCells cs = true
  | .ro cs => AV.wfL no nn cs ∧ okCells cs = true
  | _ => True
def Slot.held : Slot → Bool
  | .dead => false
  | _ => true

/-- a block that holds just these cells, none of them frozen -/
def Thawed (w : World) (b : Nat) (cs : List Value) (ty : TypeId) : Prop := w.heap[b]? = some (.cells cs.toArray ty (0, 0))

def Slot.real (w : World) (E : Env) (en : Ent) : Slot → Prop
  | .dead => True
  | .cells cs ty => ∃ b, en.blks = [b] ∧ en.org = 0 ∧ Thawed w b (cellsOf (concL E cs)) ty
  | .row r ty => en.org = 0 ∧ ((en.blks = [] ∧ r.length = 0 ∧ en.cap = 0) ∨ ∃ b spare, en.blks = [b] ∧ Thawed w b (r.cells ++ spare) ty ∧ r.length ≤ en.cap ∧ (r.cells ++ spare).length = en.cap * r.sz)
  | .ro cs => ∃ b, en.blks = [b] ∧ ∀ j v, (cellsOf (concL E cs))[j]? = some v → w.cell? ⟨b, en.org + j, none⟩ = some v
  | .win r => ((en.blks = [] ∧ r.length = 0 ∧ en.cap = 0) ∨ ∃ b, en.blks = [b] ∧ r.length ≤ en.cap ∧ ∀ j v, r.cells[j]? = some v → w.cell? ⟨b, en.org + j, none⟩ = some v)
  | .frow r => ((en.blks = [] ∧ r.length = 0 ∧ en.cap = 0) ∨ ∃ b, en.blks = [b] ∧ r.length ≤ en.cap ∧ ∀ j v, r.cells[j]? = some v → w.cell? ⟨b, en.org + j, none⟩ = some v)

structure Heap where
  o : List Slot
  n : List Slot

/-- the program's variables that are known -/
structure Ctx where
  P : Program
  glob : Nat → Option Slot
  ents : List FuncId   -- functions with a text

def Heap.get (C : Ctx) (H : Heap) : Id → Option Slot
  | .o k => H.o[k]?
  | .n k => H.n[k]?
  | .g k => C.glob k

def Heap.set (H : Heap) (i : Id) (s : Slot) : Heap :=
  match i with
  | .o k => { H with o := H.o.set k s }
  | .n k => { H with n := H.n.set k s }
  | .g _ => H

def Heap.add (H : Heap) (s : Slot) : Heap := { H with n := H.n ++ [s] }

structure Real (C : Ctx) (w : World) (E : Env) (H : Heap) : Prop where
  slot : ∀ i s, H.get C i = some s → s.real w E (E i)
  wf : ∀ i s, H.get C i = some s → s.wf H.o.length H.n.length
  own : ∀ i s, H.get C i = some s → s.held = true → ∀ b ∈ (E i).blks, b < w.heap.size
  apart : ∀ i j s t, H.get C i = some s → H.get C j = some t → s.owned = true → i ≠ j → t.held = true → ∀ b ∈ (E i).blks, b ∉ (E j).blks
  gown : ∀ k s, C.glob k = some s → s.owned = false
  glob : ∀ g, E (.g g) = ⟨[g], 0, 0⟩

/-- the blocks that a heap owns -/
def Owned (C : Ctx) (E : Env) (H : Heap) (b : Nat) : Prop := ∃ i s, H.get C i = some s ∧ s.owned = true ∧ b ∈ (E i).blks

/-- nothing has turned but what F names, and what is new -/
structure Touch (F : Nat → Prop) (w w' : World) : Prop where
  os : w'.os = w.os
  tape : w'.tape = w.tape
  output : w'.output = w.output
  size : w.heap.size ≤ w'.heap.size
  block : ∀ b, b < w.heap.size → ¬ F b → w'.heap[b]? = w.heap[b]?

theorem Touch.refl (F : Nat → Prop) (w : World) : Touch F w w := ⟨rfl, rfl, rfl, Nat.le_refl _, fun _ _ _ => rfl⟩

/-- from one state to a later one -/
structure Step (C : Ctx) (E : Env) (H : Heap) (w : World) (E' : Env) (H' : Heap) (w' : World) : Prop where
  real : Real C w' E' H'
  agree : E.agree E' H.o.length H.n.length
  olen : H'.o.length = H.o.length
  nlen : H.n.length ≤ H'.n.length
  touch : Touch (Owned C E H) w w'
  fresh : ∀ b, Owned C E' H' b → Owned C E H b ∨ w.heap.size ≤ b
  keep : ∀ i s', i.ok H.o.length H.n.length → H'.get C i = some s' → s'.held = true → ∃ s, H.get C i = some s ∧ s.held = true ∧ s.owned = s'.owned
  newown : ∀ i s', ¬ i.ok H.o.length H.n.length → H'.get C i = some s' → s'.held = true → s'.owned = true

theorem get_ok {C : Ctx} {H : Heap} {i : Id} {s : Slot} (h : H.get C i = some s) : i.ok H.o.length H.n.length := by
  cases i with
  | o k => exact (List.getElem?_eq_some_iff.1 h).1
  | n k => exact (List.getElem?_eq_some_iff.1 h).1
  | g k => trivial

theorem Step.refl {C : Ctx} {E : Env} {H : Heap} {w : World} (h : Real C w E H) : Step C E H w E H w :=
  ⟨h, fun _ _ => rfl, rfl, Nat.le_refl _, Touch.refl _ _, fun _ hb => .inl hb, fun _ s' _ h1 h2 => ⟨s', h1, h2, rfl⟩, fun i s' h1 h2 _ => absurd (get_ok h2) h1⟩

theorem Step.trans {C : Ctx} {E E' E'' : Env} {H H' H'' : Heap} {w w' w'' : World} (h : Step C E H w E' H' w') (k : Step C E' H' w' E'' H'' w'') : Step C E H w E'' H'' w'' := by
  refine ⟨k.real, fun i hi => ?_, k.olen.trans h.olen, Nat.le_trans h.nlen k.nlen, ⟨k.touch.os.trans h.touch.os, k.touch.tape.trans h.touch.tape, k.touch.output.trans h.touch.output, Nat.le_trans h.touch.size k.touch.size, fun b hb hF => ?_⟩, fun b hb => ?_, fun i s' hi h1 h2 => ?_, fun i s' hi h1 h2 => ?_⟩
  · exact (k.agree i (Id.ok_mono hi (by rw [h.olen]; exact Nat.le_refl _) h.nlen)).trans (h.agree i hi)
  · have h1 := h.touch.block b hb hF
    have h2 := h.touch.size
    rw [k.touch.block b (by omega) (fun ho => by rcases h.fresh b ho with h3 | h3; exact hF h3; omega), h1]
  · rcases k.fresh b hb with h1 | h1
    · exact h.fresh b h1
    · have := h.touch.size
      right; omega
  · obtain ⟨s1, a1, a2, a3⟩ := k.keep i s' (Id.ok_mono hi (by rw [h.olen]; exact Nat.le_refl _) h.nlen) h1 h2
    obtain ⟨s2, b1, b2, b3⟩ := h.keep i s1 hi a1 a2
    exact ⟨s2, b1, b2, b3.trans a3⟩
  · by_cases hm : i.ok H'.o.length H'.n.length
    · obtain ⟨s1, a1, a2, a3⟩ := k.keep i s' hm h1 h2
      rw [← a3]
      exact h.newown i s1 hi a1 a2
    · exact k.newown i s' hm h1 h2

/-- a tree of ways -/
inductive T (α : Type) where
  | leaf (a : α)
  | br (b : Bool) (t e : T α)
  | stuck

def T.bind {α β : Type} : T α → (α → T β) → T β
  | .leaf a, f => f a
  | .br b t e, f => .br b (t.bind f) (e.bind f)
  | .stuck, _ => .stuck
/-- a value is named -/
def T.seq {ρ α : Type} (x : ρ) (k : ρ → T α) : T α := k x
def T.run {α : Type} : T α → Option α
  | .leaf a => some a
  | .br b t e => if b then t.run else e.run
  | .stuck => none
/-- c: the condition is known -/
def T.cond {α : Type} (c b : Bool) (t e : T α) : T α :=
  match c with
  | true => match b with
    | true => t
    | false => e
  | false => .br b t e

theorem T.run_bind {α β : Type} (t : T α) (f : α → T β) : (t.bind f).run = t.run.bind fun a => (f a).run := by
  induction t with
  | leaf a => rfl
  | br b t e iht ihe => cases b <;> simp [T.bind, T.run, iht, ihe]
  | stuck => rfl
theorem T.run_cond {α : Type} (c b : Bool) (t e : T α) : (T.cond c b t e).run = if b then t.run else e.run := by
  cases c <;> cases b <;> rfl
theorem T.bind_some {α β : Type} {t : T α} {f : α → T β} {r : β} (h : (t.bind f).run = some r) : ∃ a, t.run = some a ∧ (f a).run = some r := by
  rw [T.run_bind] at h
  cases ht : t.run with
  | none => rw [ht] at h; cases h
  | some a => rw [ht] at h; exact ⟨a, rfl, h⟩

end Eng

/- The engine, part 3: append and calls; regions, code. -/
import Derived.Test.YtcmnnggpeloanaaGreatDoorEng2
namespace Eng
open Go

/-! ### names that a value holds -/
mutual
def AV.ids : AV → List Id
  | .v _ _ => []
  | .arr _ _ _ => []
  | .agg cs => idsL cs
  | .tup vs => idsL vs
  | .ptr i _ => [i]
  | .ap i _ _ => [i]
  | .sl i _ _ _ => [i]
  | .ep i _ _ _ => [i]
  | .fn _ caps => idsL caps
  | .bm _ caps => idsL caps
  | .junk => []
  | .ifc _ x => AV.ids x
def idsL : List AV → List Id
  | [] => []
  | a :: l => AV.ids a ++ idsL l
end

def Slot.ids : Slot → List Id
  | .cells cs _ => idsL cs
  | .ro cs => idsL cs
  | _ => []

def isG : Id → Bool
  | .g _ => true
  | _ => false

/-- the names that can be come to, each once, in the order in which they are met -/
def reach (C : Ctx) (H : Heap) : Nat → List Id → List Id → List Id
  | 0, _, seen => seen
  | _, [], seen => seen
  | n + 1, i :: todo, seen =>
    if isG i || seen.contains i then reach C H n todo seen
    else reach C H n (((H.get C i).map Slot.ids).getD [] ++ todo) (seen ++ [i])

mutual
def AV.ren (m : Id → Option Id) : AV → Option AV
  | .v x c => some (.v x c)
  | .arr k n l => some (.arr k n l)
  | .agg cs => (renL m cs).map .agg
  | .tup vs => (renL m vs).map .tup
  | .ptr i off => (m i).map fun i => .ptr i off
  | .ap i off j => (m i).map fun i => .ap i off j
  | .sl i sz p len => (m i).map fun i => .sl i sz p len
  | .ep i sz j fo => (m i).map fun i => .ep i sz j fo
  | .fn f caps => (renL m caps).map (.fn f)
  | .bm f caps => (renL m caps).map (.bm f)
  | .junk => some .junk
  | .ifc t x => (AV.ren m x).map (.ifc t)
def renL (m : Id → Option Id) : List AV → Option (List AV)
  | [] => some []
  | a :: l =>
    match AV.ren m a, renL m l with
    | some x, some xs => some (x :: xs)
    | _, _ => none
end

def Slot.ren (m : Id → Option Id) : Slot → Option Slot
  | .dead => some .dead
  | .cells cs ty => (renL m cs).map fun cs => .cells cs ty
  | .row r ty => some (.row r ty)
  | .win r => some (.win r)
  | .frow r => some (.frow r)
  | .ro cs => (renL m cs).map .ro

def renSlots (m : Id → Option Id) : List Slot → Option (List Slot)
  | [] => some []
  | s :: l =>
    match Slot.ren m s, renSlots m l with
    | some x, some xs => some (x :: xs)
    | _, _ => none

def idx (σ : List Id) (i : Id) : Option Nat := σ.idxOf? i

/-- into the callee's names -/
def toIn (σ : List Id) : Id → Option Id
  | .g k => some (.g k)
  | i => (idx σ i).map .o
/-- back into the caller's names: τ: the new ones that are kept -/
def toOut (σ τ : List Id) (base : Nat) : Id → Option Id
  | .g k => some (.g k)
  | .o k => σ[k]?
  | .n k => (idx τ (.n k)).map fun j => .n (base + j)

def getAll (C : Ctx) (H : Heap) : List Id → Option (List Slot)
  | [] => some []
  | i :: l =>
    match H.get C i, getAll C H l with
    | some s, some ss => some (s :: ss)
    | _, _ => none

def putAll (H : Heap) : List Id → List Slot → Heap
  | i :: l, s :: ss => putAll (H.set i s) l ss
  | _, _ => H

def isN : Id → Bool
  | .n _ => true
  | _ => false

def fuelR : Nat := 4000

/-- the part of the heap that the arguments lead to, the call on it, the result back -/
def callWith (C : Ctx) (g : List AV → Heap → T (AV × Heap)) (args : List AV) (H : Heap) : T (AV × Heap × List Id) :=
  let σ := reach C H fuelR (idsL args) []
  match renL (toIn σ) args, (getAll C H σ).bind (renSlots (toIn σ)) with
  | some args1, some O1 =>
    (g args1 ⟨O1, []⟩).bind fun x =>
      let H1 := x.2
      let τ := (reach C H1 fuelR (x.1.ids ++ (H1.o.map Slot.ids).flatten) []).filter isN
      let m := toOut σ τ H.n.length
      match x.1.ren m, renSlots m H1.o, (getAll C H1 τ).bind (renSlots m) with
      | some r, some Os, some Ns =>
        must (Os.length == σ.length) (let H' := putAll H σ Os; .leaf (r, { H' with n := H'.n ++ Ns }, σ))
      | _, _, _ => .stuck
  | _, _ => .stuck

/-! ### append -/
/-- the elements that are appended: none: not known -/
def srcOf (C : Ctx) (H : Heap) (P : Program) (ty : TypeId) (r0 : Option Row) : AV → T (Option Row)
  | .v (.slice none 0 _) _ => .leaf none
  | .sl j sz path len =>
    match (H.get C j).bind rowIn with
    | some r => must (sz == r.sz) (req (decide (sumL path + len ≤ r.length)) (.leaf (some (r.sub (sumL path) len))))
    | none => .stuck
  | _ => .stuck

def appendRule (C : Ctx) (t t' : TypeId) (s x : AV) : Rule := .eff fun H =>
  match C.P.underlying t, decide (t = t') with
  | some (.slice e), true =>
    match C.P.info? e with
    | some inf =>
      (srcOf C H C.P e none x).bind fun src =>
        match s, src with
        | .v (.slice none 0 0) c, none => .leaf (.val (.v (.slice none 0 0) c), H)
        | .v (.slice none 0 0) _, some r =>
          must (inf.size == r.sz && decide (0 < r.sz) && (inf.zero.map (·.cells.size)) == some r.sz) (req (decide (r.length * inf.bytes ≤ 140737488355328 ∧ r.length ≤ 9223372036854775807))
            (.leaf (.val (.sl (newSlot H) r.sz [] r.length), H.add (.row r e))))
        | .sl i sz [] len, src =>
          match H.get C i with
          | some (.row r0 ty) =>
            match (match src with | none => some (r0.sub 0 len) | some r => (r0.sub 0 len).app r) with
            | some r' =>
              must (ty == e && inf.size == r0.sz && sz == r0.sz && r'.sz == r0.sz && decide (0 < r0.sz) && (inf.zero.map (·.cells.size)) == some r0.sz && (match src with | none => true | some r => r.sz == r0.sz))
                (req (decide (len ≤ r0.length ∧ r'.length * inf.bytes ≤ 140737488355328 ∧ r'.length ≤ 9223372036854775807))
                  (.leaf (.val (.sl (newSlot (H.set i .dead)) sz [] r'.length), (H.set i .dead).add (.row r' e))))
            | none => .stuck
          | _ => .stuck
        | _, _ => .stuck
    | none => .stuck
  | _, _ => .stuck

/-! ### the rule of an operation -/
def lenRule (P : Program) (t : TypeId) (a : AV) : Rule :=
  match P.underlying t, a with
  | some .string, .v (.string s) c => .pure (.leaf (.v (.int .i64 s.size) c))
  | some (.slice _), .sl _ _ _ len => .pure (.leaf (.v (.int .i64 len) false))
  | some (.slice _), .v (.slice none len _) c => .pure (.leaf (.v (.int .i64 len) c))
  | some (.array n _), _ => .pure (.leaf (.v (.int .i64 n) true))
  | _, _ => .pure .stuck

def mmRule (isMax : Bool) : List AV → Rule
  | [.v (.int k x) c, .v (.int k' y) c'] => .pure (must (decide (k = k')) (.leaf (.v (.int k (if isMax then (if y > x then y else x) else (if y < x then y else x))) (c && c'))))
  | _ => .pure .stuck

/-- the method of a pointer's type, its own and not one that it was lent -/
def methodT (P : Program) (t : TypeId) (m : String) : Option FuncId :=
  match P.info? t, P.underlying t with
  | some i, some (.pointer _) =>
    match i.methods.find? (·.name == m) with
    | some r =>
      match r.path.toList, r.func with
      | [], some (f, true) => some f
      | _, _ => none
    | none => none
  | _, _ => none

def callRule (C : Ctx) (ρ : Operand → AV) (c : Call) : Rule :=
  match c.callee with
  | .value f =>
    match ρ f with
    | .fn g caps => .eff fun H => must (C.ents.contains g) (.leaf (.call g (c.args.toList.map ρ ++ caps), H))
    | .bm g first => .eff fun H => must (C.ents.contains g) (.leaf (.call g (first ++ c.args.toList.map ρ), H))
    | _ => .pure .stuck
  | .invoke r m =>
    match ρ r with
    | .ifc t x =>
      match methodT C.P t m with
      | some g => .eff fun H => must (C.ents.contains g) (.leaf (.call g (x :: c.args.toList.map ρ), H))
      | none => .pure .stuck
    | _ => .pure .stuck
  | .builtin .len =>
    match c.args.toList, c.argTypes.toList with
    | [a], [t] => lenRule C.P t (ρ a)
    | _, _ => .pure .stuck
  | .builtin .append =>
    match c.args.toList, c.argTypes.toList with
    | [a, b], [t, u] => appendRule C t u (ρ a) (ρ b)
    | _, _ => .pure .stuck
  | .builtin .max => mmRule true (c.args.toList.map ρ)
  | .builtin .min => mmRule false (c.args.toList.map ρ)
  | _ => .pure .stuck

def opRule (C : Ctx) (o : Oper) (ρ : Operand → AV) : Rule :=
  match o.op with
  | .move x | .assign x => .pure (.leaf (ρ x))
  | .pick c a b =>
    match ρ c with
    | .v (.bool t) k => .pure (.cond k t (.leaf (ρ a)) (.leaf (ρ b)))
    | _ => .pure .stuck
  | .alloc t => allocRule C t
  | .box t x => boxRule C t (ρ x)
  | .build t ps => buildRule C.P t (ps.toList.map fun p => (p.1, ρ p.2))
  | .buildSlice t n ps => buildSliceRule C.P t n (ps.toList.map fun p => (p.1, ρ p.2))
  | .load t a => loadRule C.P t (ρ a)
  | .store t a x => storeRule C t (ρ a) (ρ x)
  | .nilCheck x => nilCheckRule (ρ x)
  | .binOp op t x y _ => binRule C.P op t x y (ρ x) (ρ y)
  | .unOp op _ x => unRule C.P op (ρ x)
  | .convert s d x => convRule C.P s d (ρ x)
  | .makeFunc (.func f) fs cs =>
    match fs.toList, cs.toList with
    | [], l => .pure (.leaf (.fn f (l.map ρ)))
    | l, [] => .pure (.leaf (.bm f (l.map ρ)))
    | _, _ => .pure .stuck
  | .makeInterface t x =>
    match C.P.underlying t with
    | some (.interface _) => .pure .stuck
    | some _ => .pure (.leaf (.ifc t (ρ x)))
    | none => .pure .stuck
  | .makeSlice t l c => makeSliceRule C.P t (ρ l) (ρ c)
  | .slice t x lo hi mx => sliceRule C.P t (ρ x) (lo.map ρ) (hi.map ρ) (mx.map ρ)
  | .fieldAddr s x f => fieldRule C.P s (ρ x) f
  | .field s x f => fieldOfRule C.P s (ρ x) f
  | .indexAddr t x i => indexAddrRule C.P t (ρ x) (ρ i)
  | .index t x i => indexRule C.P t (ρ x) (ρ i)
  | .extract x n =>
    match ρ x with
    | .tup vs => .pure (fromO vs[n]?)
    | _ => .pure .stuck
  | .call c => callRule C ρ c
  | _ => .pure .stuck

/-- what is noted of an operation in a region: what it read, what it wrote -/
structure Note where
  rd : Option Id
  wr : Option (List Id)

/-- which blocks an effect may turn -/
def wrote (o : Oper) (ρ : Operand → AV) : List Id :=
  match o.op with
  | .store _ a _ => (ρ a).ids
  | .call c => match c.args.toList with
    | a :: _ => (ρ a).ids
    | [] => []
  | _ => []

def ev (fr : List AV) : Operand → AV
  | .tmp t => fr.getD t (.v undef true)
  | .const v => .v v true
  | .global g => .ptr (.g g) 0
  | .func f => .fn f []

def putD (fr : List AV) (d : Option Tmp) (a : AV) : List AV :=
  match d with
  | some d => fr.set d a
  | none => fr

inductive X where
  | normal
  | exit (id : Nat)
  | goto (l : Nat)
  | ret

/-- what a function of this number does: by a contract, or by its text -/
abbrev Fns := FuncId → List AV → Heap → T (AV × Heap)

/-- a slot of which something is claimed -/
def notJunk : AV → Bool
  | .junk => false
  | _ => true

/-- one operation -/
def op1 (C : Ctx) (F : Fns) (o : Oper) (fr : List AV) (H : Heap) : T (AV × Heap × Note) :=
  must (o.op.operands.toList.all fun x => notJunk (ev fr x)) <|
  match opRule C o (ev fr) with
  | .pure t => t.bind fun a => .leaf (a, H, ⟨none, none⟩)
  | .read i f =>
    match H.get C i with
    | some s => (f s).bind fun a => .leaf (a, H, ⟨some i, none⟩)
    | none => .stuck
  | .eff f =>
    (f H).bind fun x =>
      match x.1 with
      | .val a => .leaf (a, x.2, ⟨none, some (wrote o (ev fr))⟩)
      | .skip => .leaf (.v undef true, x.2, ⟨none, some (wrote o (ev fr))⟩)
      | .call g args => (callWith C (F g) args x.2).bind fun y => .leaf (y.1, y.2.1, ⟨none, some y.2.2⟩)

/-- a guard's operation: its slot, and what it yielded -/
def guardSlot (ops : Array Oper) (j : Nat) : Option Tmp := (ops[j]?).bind (·.dst)

def runOps (C : Ctx) (F : Fns) (ops : Array Oper) : List Oper → List AV → Heap → T (List AV × Heap × List (Option Note))
  | [], fr, H => .leaf (fr, H, [])
  | o :: rest, fr, H =>
    let go (fr : List AV) : T (List AV × Heap × List (Option Note)) :=
      (op1 C F o fr H).bind fun x => (runOps C F ops rest (putD fr o.dst x.1) x.2.1).bind fun y => .leaf (y.1, y.2.1, some x.2.2 :: y.2.2)
    let skip (fr : List AV) : T (List AV × Heap × List (Option Note)) :=
      (runOps C F ops rest (putD fr o.dst (.v undef true)) H).bind fun y => .leaf (y.1, y.2.1, none :: y.2.2)
    match o.guard with
    | none => go fr
    | some (j, want) =>
      match guardSlot ops j with
      | none => skip fr
      | some t =>
        match fr[t]? with
        | some (.v (.bool b) k) =>
          match k with
          | true => match b == want with
            | true => go fr
            | false => skip fr
          | false => match want with
            | true => .br b (go (fr.set t (.v (.bool true) true))) (skip (fr.set t (.v (.bool false) true)))
            | false => .br b (skip (fr.set t (.v (.bool true) true))) (go (fr.set t (.v (.bool false) true)))
        | some (.v (.tuple _) _) => skip fr
        | _ => .stuck

/-- a number reckoned at once -/
def forceN {α : Type} (n : Nat) (f : Nat → α) : α :=
  match n with
  | 0 => f 0
  | k + 1 => f (k + 1)

/-- who must have run before: as bits -/
def befs : List Oper → List Nat → (List Nat → Bool) → Bool
  | [], acc, k => k acc
  | o :: rest, acc, k =>
    forceN (o.after.toList.foldl (fun s e => if Region.binds .any e then s ||| (2 ^ e.on ||| acc.getD e.on 0) else s) 0) fun b => befs rest (acc ++ [b]) k

def namesOf (ops : Array Oper) (o : Oper) : List Tmp := o.looksAt ops ++ o.dst.toList

/-- the slots that are written, with who writes them -/
def writersOf : List Oper → Nat → List (Tmp × Nat)
  | [], _ => []
  | o :: l, i =>
    match o.dst with
    | some d => (d, i) :: writersOf l (i + 1)
    | none => writersOf l (i + 1)

def ordered (b : List Nat) (i j : Nat) : Bool := if i < j then (b.getD j 0).testBit i else (b.getD i 0).testBit j

def tmpsOk (ops : Array Oper) (b : List Nat) (ws : List (Tmp × Nat)) : List Oper → Nat → Bool
  | [], _ => true
  | o :: l, j => ((namesOf ops o).all fun t => ws.all fun x => x.1 != t || x.2 == j || ordered b x.2 j) && tmpsOk ops b ws l (j + 1)

/-- the operations that look at memory or turn it -/
def loud : List (Option Note) → Nat → List (Nat × Note)
  | [], _ => []
  | some ⟨none, none⟩ :: l, i => loud l (i + 1)
  | none :: l, i => loud l (i + 1)
  | some n :: l, i => (i, n) :: loud l (i + 1)

def clash (a b : Note) : Bool :=
  match a.wr, b.wr with
  | some _, some _ => true
  | some w, none => match b.rd with | some i => w.contains i | none => false
  | none, some w => match a.rd with | some i => w.contains i | none => false
  | none, none => false

def loudOk (b : List Nat) : List (Nat × Note) → Bool
  | [] => true
  | x :: l => (l.all fun y => !clash x.2 y.2 || ordered b x.1 y.1) && loudOk b l

/-- every edge leads back -/
def backOk : List Oper → Nat → Bool
  | [], _ => true
  | o :: l, i => (o.after.toList.all fun e => !Region.binds .any e || decide (e.on < i)) && backOk l (i + 1)

/-- may the order of a region be left open? -/
def drawOk (ops : Array Oper) (notes : List (Option Note)) : Bool :=
  backOk ops.toList 0 && befs ops.toList [] fun b => loudOk b (loud notes 0) && tmpsOk ops b (writersOf ops.toList 0) ops.toList 0

/-- a goto inside a scope -/
def jumpN (ex : Code → List AV → Heap → T (X × List AV × Heap)) : Nat → Code → X × List AV × Heap → T (X × List AV × Heap)
  | 0, _, _ => .stuck
  | n + 1, a, x =>
    match x.1 with
    | .goto l =>
      match findLabel a l with
      | some rest => (ex rest x.2.1 x.2.2).bind fun y => jumpN ex n a y
      | none => .stuck
    | e => .leaf (e, x.2.1, x.2.2)

/-! ### what is known of values is forgotten, but for nil -/
def nilish : Value → Bool
  | .pointer none => true
  | .nilFunc => true
  | .nilIface => true
  | .slice none 0 0 => true
  | .map none => true
  | _ => false
mutual
def AV.fg : AV → AV
  | .v x _ => .v x (nilish x)
  | .arr k n l => .arr k n l
  | .agg cs => .agg (fgL cs)
  | .tup vs => .tup (fgL vs)
  | .ptr i off => .ptr i off
  | .ap i off j => .ap i off j
  | .sl i sz path len => .sl i sz path len
  | .ep i sz j fo => .ep i sz j fo
  | .fn f caps => .fn f (fgL caps)
  | .bm f caps => .bm f (fgL caps)
  | .junk => .junk
  | .ifc t x => .ifc t (AV.fg x)
def fgL : List AV → List AV
  | [] => []
  | a :: l => AV.fg a :: fgL l
end
def Slot.fg : Slot → Slot
  | .cells cs ty => .cells (fgL cs) ty
  | s => s
def Heap.fg (H : Heap) : Heap := ⟨H.o.map Slot.fg, H.n.map Slot.fg⟩

/-- a loop's number: its first region's, and one -/
def codeKey : Code → Nat
  | .region id _ _ => id + 1
  | .seq a b => match codeKey a with
    | 0 => codeKey b
    | k + 1 => k + 1
  | .cond _ a b => match codeKey a with
    | 0 => codeKey b
    | k + 1 => k + 1
  | .block _ a => codeKey a
  | .loop a => codeKey a
  | .scope a => codeKey a
  | _ => 0

/-- a frame of which these slots are claimed -/
def pickF (l : List (Nat × AV)) (i : Nat) : AV :=
  match l.lookup i with
  | some v => v
  | none => .junk
def mkF (N : Nat) (l : List (Nat × AV)) : List AV := (List.range N).map (pickF l)

def gcM (no : Nat) (τ : List Id) : Id → Option Id
  | .n k => (idx τ (.n k)).map .n
  | .o k => match Nat.decLt k no with
    | isTrue _ => some (.o k)
    | isFalse _ => none
  | .g k => some (.g k)

/-- live slots; slots in which nil becomes a row without elements -/
structure Live where
  l : List Nat
  nils : List (Nat × TypeId)
def weakF (P : Program) : List (Nat × TypeId) → List AV → Heap → List AV × Heap
  | [], fr, H => (fr, H)
  | (t, e) :: l, fr, H =>
    match fr.getD t (.v undef true), emptyRow P e with
    | .v (.slice none 0 0) _, some r => weakF P l (fr.set t (.sl (newSlot H) r.sz [] 0)) (H.add (.row r e))
    | _, _ => weakF P l fr H

/-- only the live slots are kept, of the new memory only what can be come to, in the order in which it is met; what is known of values is forgotten -/
def cleanL0 (C : Ctx) (live : List Nat) (fr : List AV) (H : Heap) : T (List AV × Heap) :=
  let vs := fgL (live.map fun t => fr.getD t (.v undef true))
  let H1 := H.fg
  let τ := (reach C H1 fuelR (idsL vs ++ (H1.o.map Slot.ids).flatten) []).filter isN
  let m := gcM H1.o.length τ
  match renL m vs, renSlots m H1.o, (getAll C H1 τ).bind (renSlots m) with
  | some vs', some Os, some Ns => .leaf (vs', ⟨Os, Ns⟩)
  | _, _, _ => .stuck
def clean0 (C : Ctx) (live : List Nat) (fr : List AV) (H : Heap) : T (List AV × Heap) :=
  (cleanL0 C live fr H).bind fun y => .leaf (mkF fr.length (live.zip y.1), y.2)
def clean (C : Ctx) (live : Live) (fr : List AV) (H : Heap) : T (List AV × Heap) :=
  let y := weakF C.P live.nils fr H
  clean0 C live.l y.1 y.2
def cleanL (C : Ctx) (live : Live) (fr : List AV) (H : Heap) : T (List AV × Heap) :=
  let y := weakF C.P live.nils fr H
  cleanL0 C live.l y.1 y.2

/-- K: the loops that are cut, with their live slots -/
def exec (C : Ctx) (F : Fns) (K : Nat → Option Live) : Nat → Code → List AV → Heap → T (X × List AV × Heap)
  | 0, _, _, _ => .stuck
  | n + 1, c, fr, H =>
    match c with
    | .skip => .leaf (.normal, fr, H)
    | .label _ => .leaf (.normal, fr, H)
    | .region _ ops draw => (runOps C F ops ops.toList fr H).bind fun x => must (!draw || drawOk ops x.2.2) (.leaf (.normal, x.1, x.2.1))
    | .seq a b => (exec C F K n a fr H).bind fun x =>
      match x.1 with
      | .normal => exec C F K n b x.2.1 x.2.2
      | e => .leaf (e, x.2.1, x.2.2)
    | .cond q a b =>
      match ev fr q with
      | .v (.bool t) k => .cond k t (exec C F K n a fr H) (exec C F K n b fr H)
      | _ => .stuck
    | .block id a => (exec C F K n a fr H).bind fun x =>
      match x.1 with
      | .exit id' => if id' = id then .leaf (.normal, x.2.1, x.2.2) else .leaf (.exit id', x.2.1, x.2.2)
      | e => .leaf (e, x.2.1, x.2.2)
    | .loop a =>
      match K (codeKey a) with
      | none => (exec C F K n a fr H).bind fun x =>
        match x.1 with
        | .normal => exec C F K n (.loop a) x.2.1 x.2.2
        | e => .leaf (e, x.2.1, x.2.2)
      | some live => (clean C live fr H).bind fun y => (exec C F K n a y.1 y.2).bind fun x =>
        match x.1 with
        | .normal => exec C F K n (.loop a) x.2.1 x.2.2
        | e => (clean C live x.2.1 x.2.2).bind fun z => .leaf (e, z.1, z.2)
    | .exit id => .leaf (.exit id, fr, H)
    | .goto l => .leaf (.goto l, fr, H)
    | .ret => .leaf (.ret, fr, H)
    | .scope a => (exec C F K n a fr H).bind fun x => jumpN (exec C F K n) n a x
    | _ => .stuck

/-- the results of a function -/
def resVar (C : Ctx) (fr : List AV) (H : Heap) : ResultVar → T AV
  | .tmp t => must (notJunk (fr.getD t (.v undef true))) (.leaf (fr.getD t (.v undef true)))
  | .cell a t =>
    match loadRule C.P t (fr.getD a (.v undef true)) with
    | .read i f => match H.get C i with
      | some s => f s
      | none => .stuck
    | _ => .stuck
def resVars (C : Ctx) (fr : List AV) (H : Heap) : List ResultVar → T (List AV)
  | [] => .leaf []
  | r :: l => (resVar C fr H r).bind fun a => (resVars C fr H l).bind fun as => .leaf (a :: as)
def results1 : List AV → AV
  | [a] => a
  | l => .tup l

def body (C : Ctx) (F : Fns) (K : Nat → Option Live) (n : Nat) (nils : List (Nat × TypeId)) (fn : Func) (args : List AV) (H : Heap) : T (AV × Heap) :=
  match fn.body with
  | some c =>
    let y := weakF C.P nils (args ++ List.replicate (fn.ntmps - args.length) (.v undef true)) H
    (exec C F K n c y.1 y.2).bind fun x =>
    match x.1 with
    | .normal => (resVars C x.2.1 x.2.2 fn.results.toList).bind fun vs => .leaf (results1 vs, x.2.2)
    | .ret => (resVars C x.2.1 x.2.2 fn.results.toList).bind fun vs => .leaf (results1 vs, x.2.2)
    | _ => .stuck
  | none => .stuck

/-- the functions: first by the contracts, then by their texts -/
def fns (C : Ctx) (G : List (FuncId × (List AV → Heap → T (AV × Heap)))) (tx : FuncId → Option Func) : Nat → Fns
  | 0 => fun _ _ _ => .stuck
  | n + 1 => fun f args H =>
    match G.lookup f with
    | some g => g args H
    | none =>
      match tx f with
      | some fn => body C (fns C G tx n) (fun _ => none) 1000 [] fn args H
      | none => .stuck

end Eng

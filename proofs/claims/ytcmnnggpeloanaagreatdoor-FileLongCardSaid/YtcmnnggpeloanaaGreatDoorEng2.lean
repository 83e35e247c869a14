/- The engine, part 2: what each operation does to abstract values and heaps. -/
import Derived.Test.YtcmnnggpeloanaaGreatDoorEng1
namespace Eng
open Go

/-- a computation that looks at no memory -/
def pureRun {α : Type} (P : Program) : Sem α → Option α
  | .pure a => some a
  | .program k => pureRun P (k P)
  | .mark _ k => pureRun P k
  | _ => none

inductive Res where
  | val (a : AV)
  | skip
  | call (f : FuncId) (args : List AV)

/-- what an operation needs: nothing of the heap, one block, or the heap whole -/
inductive Rule where
  | pure (t : T AV)
  | read (i : Id) (f : Slot → T AV)
  | eff (f : Heap → T (Res × Heap))

def fromO {α : Type} : Option α → T α
  | some a => .leaf a
  | none => .stuck
def pv (c : Bool) : Option Value → T AV
  | some x => .leaf (.v x c)
  | none => .stuck
/-- go on only if b -/
def req {α : Type} (b : Bool) (t : T α) : T α := .br b t .stuck
/-- go on only if b, which is known -/
def must {α : Type} (b : Bool) (t : T α) : T α :=
  match b with
  | true => t
  | false => .stuck

def explode : AV → List AV
  | .v (.agg xs) c => xs.toList.map fun x => .v x c
  | .agg cs => cs
  | a => [a]

def width : AV → Nat
  | .v (.agg xs) _ => xs.size
  | .arr _ n _ => n
  | .agg cs => cs.length   -- never inside a list of cells
  | _ => 1

/-- the part of a list of cells from off on -/
def dropW : List AV → Nat → Option (List AV)
  | l, 0 => some l
  | [], _ => none
  | a :: l, n => if width a ≤ n then dropW l (n - width a) else none
def takeW : List AV → Nat → Option (List AV)
  | _, 0 => some []
  | [], _ => none
  | a :: l, n => if width a ≤ n then (takeW l (n - width a)).map (a :: ·) else none

/-- one cell -/
def cellAt : List AV → Nat → Option AV
  | [], _ => none
  | a :: l, n =>
    match isOne a, n with
    | true, 0 => some a
    | true, n + 1 => cellAt l n
    | false, n =>
      match a with
      | .arr k m xs => if n < m then some (.v (.int k (xs.getD n 0)) false) else cellAt l (n - m)
      | _ => none

def cellSet : List AV → Nat → AV → Option (List AV)
  | [], _, _ => none
  | a :: l, n, x =>
    match isOne a, n with
    | true, 0 => some (x :: l)
    | true, n + 1 => (cellSet l n x).map (a :: ·)
    | false, n =>
      match a with
      | .arr k m xs =>
        if n < m then
          match x with
          | .v (.int k' y) _ => if k = k' then some (.arr k m (xs.set n y) :: l) else none
          | _ => none
        else (cellSet l (n - m) x).map (a :: ·)
      | _ => none

/-- the cells from off on are written over -/
def splice (l : List AV) (off : Nat) (new : List AV) (n : Nat) : Option (List AV) :=
  match takeW l off, dropW l (off + n) with
  | some a, some b => some (a ++ new ++ b)
  | _, _ => none

def widthL (l : List AV) : Nat := (l.map width).sum

/-- an array of numbers that begins at off -/
def arrAt : List AV → Nat → Option (IntKind × Nat × List Int)
  | .arr k n l :: _, 0 => some (k, n, l)
  | [], _ => none
  | a :: l, n => if width a ≤ n then (if width a = 0 then none else arrAt l (n - width a)) else none
def arrPut : List AV → Nat → List Int → Option (List AV)
  | .arr k n _ :: r, 0, l => some (.arr k n l :: r)
  | [], _, _ => none
  | a :: r, n, l => if width a ≤ n then (if width a = 0 then none else (arrPut r (n - width a) l).map (a :: ·)) else none

def isAggT (P : Program) (t : TypeId) : Option Bool :=
  match P.underlying t with
  | some (.struct _) => some true
  | some (.array _ _) => some true
  | some _ => some false
  | none => none
def sizeT (P : Program) (t : TypeId) : Option Nat := (P.info? t).map (·.size)

def vals : List AV → Option (List Value × Bool)
  | [] => some ([], true)
  | .v x c :: l =>
    match vals l with
    | some (xs, c') => some (x :: xs, c && c')
    | none => none
  | _ :: _ => none

def atomOf : Kind → AV → Option Atom
  | .i k, .v (.int k' x) _ => if k = k' then some (.i x) else none
  | .s, .v (.string x) _ => some (.s x)
  | .b, .v (.bool x) _ => some (.b x)
  | _, _ => none
def recOf : List Kind → List AV → Option (List Atom)
  | [], [] => some []
  | k :: ks, a :: as =>
    match atomOf k a, recOf ks as with
    | some x, some xs => some (x :: xs)
    | _, _ => none
  | _, _ => none
def recAVs : List Kind → List Atom → List AV
  | [], _ => []
  | k :: ks, as => .v (Atom.val k (as.headD (.i 0))) false :: recAVs ks as.tail

/-- an element of a row, read whole or a field of it -/
def Row.load (r : Row) (agg : Bool) (n j fo : Nat) : T AV :=
  match r with
  | .ints k l => must (!agg && fo == 0) (req (decide (j < l.length)) (.leaf (.v (.int k (l.getD j 0)) false)))
  | .strs l => must (!agg && fo == 0) (req (decide (j < l.length)) (.leaf (.v (.string (l.getD j ByteArray.empty)) false)))
  | .recs ks l =>
    if agg then must (fo == 0 && n == ks.length) (req (decide (j < l.length)) (.leaf (.agg (recAVs ks (l.getD j [])))))
    else match ks[fo]? with
      | some k => req (decide (j < l.length)) (.leaf (.v (Atom.val k ((l.getD j []).getD fo (.i 0))) false))
      | none => .stuck

def Row.store (r : Row) (agg : Bool) (j fo : Nat) (x : AV) : T Row :=
  match r with
  | .ints k l =>
    match x with
    | .v (.int k' y) _ => must (!agg && fo == 0 && decide (k = k')) (req (decide (j < l.length)) (.leaf (.ints k (l.set j y))))
    | _ => .stuck
  | .strs l =>
    match x with
    | .v (.string y) _ => must (!agg && fo == 0) (req (decide (j < l.length)) (.leaf (.strs (l.set j y))))
    | _ => .stuck
  | .recs ks l =>
    if agg then
      match recOf ks (explode x) with
      | some a => must (fo == 0) (req (decide (j < l.length)) (.leaf (.recs ks (l.set j a))))
      | none => .stuck
    else .stuck

/-- a block of cells that can be read -/
def cellsIn : Slot → Option (List AV)
  | .cells cs _ => some cs
  | .ro cs => some cs
  | _ => none
def rowIn : Slot → Option Row
  | .row r _ => some r
  | .win r => some r
  | .frow r => some r
  | _ => none

/-- 'x.op t a' -/
def loadRule (P : Program) (t : TypeId) : AV → Rule
  | .ptr i off => .read i fun s =>
    match cellsIn s with
    | some cs =>
      match isAggT P t, sizeT P t with
      | some false, some 1 => fromO (cellAt cs off)
      | some true, some n => (fromO ((dropW cs off).bind fun l => takeW l n)).bind fun l => .leaf (.agg l)
      | _, _ => .stuck
    | none => .stuck
  | .ap i off j => .read i fun s =>
    match cellsIn s with
    | some cs =>
      match isAggT P t, sizeT P t, arrAt cs off with
      | some false, some 1, some (k, n, l) => req (decide (j < n)) (.leaf (.v (.int k (l.getD j 0)) false))
      | _, _, _ => .stuck
    | none => .stuck
  | .ep i sz j fo => .read i fun s =>
    match rowIn s with
    | some r =>
      match isAggT P t, sizeT P t with
      | some a, some n => must (sz == r.sz && (a || n == 1)) (r.load a n j fo)
      | _, _ => .stuck
    | none => .stuck
  | _ => .pure .stuck

/-- the kinds of an element type -/
def kindOf (P : Program) (t : TypeId) : Option Kind :=
  match P.underlying t with
  | some (.int k) => some (.i k)
  | some .string => some .s
  | some .bool => some .b
  | _ => none
def kindsOf (P : Program) (t : TypeId) : Option (List Kind) :=
  match P.underlying t with
  | some (.struct fs) => fs.toList.foldr (fun f acc => match kindOf P f.type, acc with | some a, some b => some (a :: b) | _, _ => none) (some [])
  | _ => none

def newSlot (H : Heap) : Id := .n H.n.length

/-! ### nil slices in memory are rows without elements -/
def emptyRow (P : Program) (e : TypeId) : Option Row :=
  match P.underlying e with
  | some (.int k) => some (.ints k [])
  | some .string => some (.strs [])
  | some (.struct _) => match kindsOf P e with
    | some (k :: ks) => some (.recs (k :: ks) [])
    | _ => none
  | _ => none
/-- where the slices of a type stand -/
def sliceOffs (P : Program) : Nat → TypeId → Nat → List (Nat × TypeId)
  | 0, _, _ => []
  | d + 1, t, off =>
    match P.underlying t with
    | some (.struct fs) => fs.toList.flatMap fun f => sliceOffs P d f.type (off + f.offset)
    | some (.slice e) => [(off, e)]
    | _ => []
def fix1 (C : Ctx) (i : Id) (o : Nat) (r : Row) (e : TypeId) (H : Heap) : Heap :=
  match H.get C i with
  | some (.cells cs ty) =>
    match cellAt cs o with
    | some (.v (.slice none 0 0) _) =>
      match cellSet cs o (.sl (newSlot H) r.sz [] 0) with
      | some cs' => (H.add (.row r e)).set i (.cells cs' ty)
      | none => H
    | _ => H
  | _ => H
def fixL (C : Ctx) (i : Id) : List (Nat × TypeId) → Heap → Heap
  | [], H => H
  | (o, e) :: l, H =>
    match emptyRow C.P e with
    | some r => fixL C i l (fix1 C i o r e H)
    | none => fixL C i l H
def fixT (C : Ctx) (i : Id) (t : TypeId) (off : Nat) (H : Heap) : Heap := fixL C i (sliceOffs C.P 20 t off) H

def storeRule (C : Ctx) (t : TypeId) (a x : AV) : Rule :=
  match a with
  | .ptr i off => .eff fun H =>
    match H.get C i, isAggT C.P t, sizeT C.P t with
    | some (.cells cs ty), some false, some 1 => must (isOne x) ((fromO (cellSet cs off x)).bind fun cs' => .leaf (.skip, fixT C i t off (H.set i (.cells cs' ty))))
    | some (.cells cs ty), some true, some n => must (widthL (explode x) == n && okCells (explode x)) ((fromO (splice cs off (explode x) n)).bind fun cs' => .leaf (.skip, fixT C i t off (H.set i (.cells cs' ty))))
    | _, _, _ => .stuck
  | .ap i off j => .eff fun H =>
    match H.get C i, isAggT C.P t, sizeT C.P t, x with
    | some (.cells cs ty), some false, some 1, .v (.int k' y) _ =>
      match arrAt cs off with
      | some (k, n, l) => must (decide (k = k')) (req (decide (j < n)) ((fromO (arrPut cs off (l.set j y))).bind fun cs' => .leaf (.skip, H.set i (.cells cs' ty))))
      | none => .stuck
    | _, _, _, _ => .stuck
  | .ep i sz j fo => .eff fun H =>
    match H.get C i, isAggT C.P t, sizeT C.P t with
    | some (.row r ty), some a, some n => must (sz == r.sz && (if a then n == r.sz else n == 1)) ((r.store a j fo x).bind fun r' => .leaf (.skip, H.set i (.row r' ty)))
    | _, _, _ => .stuck
  | _ => .pure .stuck

/-- a zero value as cells that can be written one by one; arrays of numbers as arrays -/
def zeroAV (P : Program) : Nat → TypeId → Option (List AV)
  | 0, _ => none
  | d + 1, t =>
    match P.underlying t with
    | some (.struct fs) => fs.toList.foldr (fun f acc => match zeroAV P d f.type, acc with | some a, some b => some (a ++ b) | _, _ => none) (some [])
    | some (.array n e) =>
      match P.underlying e with
      | some (.int k) => some [.arr k n (List.replicate n 0)]
      | _ => (zeroAV P d e).map fun a => (List.replicate n a).flatten
    | some _ => ((P.info? t).bind (·.zero)).map fun x => [.v x true]
    | none => none

def sameV : Value → Value → Bool
  | .bool a, .bool b => a == b
  | .int k a, .int l b => decide (k = l) && decide (a = b)
  | .string a, .string b => a.data.toList == b.data.toList
  | .pointer none, .pointer none => true
  | .slice none 0 0, .slice none 0 0 => true
  | .map none, .map none => true
  | .nilFunc, .nilFunc => true
  | .nilIface, .nilIface => true
  | _, _ => false
def sameVs : List Value → List Value → Bool
  | [], [] => true
  | a :: l, b :: m => sameV a b && sameVs l m
  | _, _ => false
def noEnv : Env := fun _ => ⟨[], 0, 0⟩
def pureAVs (l : List AV) : Bool := l.all fun | .v _ _ => true | .arr _ n l => l.length == n | _ => false

/-- the zero value's cells, checked against the program's own -/
def zeroCellsT (P : Program) (t : TypeId) : Option (List AV) :=
  match zeroAV P 20 t, (P.info? t).bind (·.zero) with
  | some l, some z => if pureAVs l && sameVs (cellsOf (concL noEnv l)) z.cells.toList then some l else none
  | _, _ => none

def allocRule (C : Ctx) (t : TypeId) : Rule := .eff fun H =>
  match zeroCellsT C.P t with
  | some l => must (okCells l) (.leaf (.val (.ptr (newSlot H) 0), fixT C (newSlot H) t 0 (H.add (.cells l t))))
  | none => .stuck
def boxRule (C : Ctx) (t : TypeId) (x : AV) : Rule := .eff fun H => must (okCells (explode x)) (.leaf (.val (.ptr (newSlot H) 0), fixT C (newSlot H) t 0 (H.add (.cells (explode x) t))))


/-- a row out of elements -/
def intsOf (k : IntKind) : List AV → Option (List Int)
  | [] => some []
  | .v (.int k' x) _ :: l => if k = k' then (intsOf k l).map (x :: ·) else none
  | _ :: _ => none
def strsOf : List AV → Option (List ByteArray)
  | [] => some []
  | .v (.string x) _ :: l => (strsOf l).map (x :: ·)
  | _ :: _ => none
def recsOf (ks : List Kind) : List AV → Option (List (List Atom))
  | [] => some []
  | a :: l =>
    match recOf ks (explode a), recsOf ks l with
    | some x, some xs => some (x :: xs)
    | _, _ => none
def rowOf (P : Program) (e : TypeId) (l : List AV) : Option Row :=
  match P.underlying e with
  | some (.int k) => (intsOf k l).map (.ints k)
  | some .string => (strsOf l).map .strs
  | some (.struct _) => (kindsOf P e).bind fun ks => (recsOf ks l).map (.recs ks)
  | _ => none

/-- parts 0, 1, .. in their order -/
def inOrder : Nat → List (Nat × AV) → Option (List AV)
  | _, [] => some []
  | n, (i, a) :: l => if i = n then (inOrder (n + 1) l).map (a :: ·) else none

def buildSliceRule (P : Program) (t : TypeId) (len : Nat) (parts : List (Nat × AV)) : Rule := .eff fun H =>
  match P.underlying t with
  | some (.slice e) =>
    match inOrder 0 parts with
    | some l =>
      match rowOf P e l, sizeT P e with
      | some r, some sz => must (r.length == len && l.length == len && sz == r.sz && decide (0 < sz) && decide (len * sz ≤ 65536) && ((P.info? e).bind (·.zero)).isSome) (.leaf (.val (.sl (newSlot H) r.sz [] len), H.add (.row r e)))
      | _, _ => .stuck
    | none => .stuck
  | _ => .stuck

/-- the parts of a struct literal written over its zero cells -/
def fillAV (P : Program) (fs : Array Field) : List AV → List (Nat × AV) → Option (List AV)
  | cs, [] => some cs
  | cs, (i, a) :: l =>
    match fs[i]? with
    | some f =>
      match sizeT P f.type with
      | some n => if widthL (explode a) = n ∧ okCells (explode a) = true then (splice cs f.offset (explode a) n).bind fun cs' => fillAV P fs cs' l else none
      | none => none
    | none => none
def buildRule (P : Program) (t : TypeId) (parts : List (Nat × AV)) : Rule :=
  match P.underlying t, zeroCellsT P t with
  | some (.struct fs), some z =>
    match fs.toList.mapM (fun f => (P.info? f.type).map fun i => (f.offset, i.size)) with
    | some _ => .pure (must (okCells z) ((fromO (fillAV P fs z parts)).bind fun l => .leaf (.agg l)))
    | none => .pure .stuck
  | some (.array n e), _ =>
    match inOrder 0 parts, sizeT P e, P.underlying e, (P.info? t).bind (·.zero) with
    | some l, some 1, some (.int k), some z =>
      match intsOf k l with
      | some xs => .pure (must (l.length == n && z.cells.size == n) (.leaf (.agg [.arr k n xs])))
      | none => .pure .stuck
    | _, _, _, _ => .pure .stuck
  | _, _ => .pure .stuck

def nilCheckRule : AV → Rule
  | .ptr i off => .read i fun s => match cellsIn s with | some _ => .leaf (.ptr i off) | none => .stuck
  | .ap i off j => .read i fun s => match cellsIn s with | some _ => .leaf (.ap i off j) | none => .stuck
  | .ep i sz j fo => .read i fun s => match rowIn s with | some r => req (decide (j < r.length)) (.leaf (.ep i sz j fo)) | none => .stuck
  | .fn f caps => .pure (.leaf (.fn f caps))
  | .ifc t x => .pure (.leaf (.ifc t x))
  | .v (.iface t x) c => .pure (.leaf (.v (.iface t x) c))
  | _ => .pure .stuck

/-- two fields of one cell -/
def fieldEq (P : Program) (t : TypeId) (u v : Value) : Option Bool :=
  match P.underlying t, u, v with
  | some (.int _), .int k a, .int k' b => if k = k' then some (a == b) else none
  | some .bool, .bool a, .bool b => some (a == b)
  | some .string, .string a, .string b => some (a.toList == b.toList)
  | _, _, _ => none
def fieldsEq (P : Program) (us vs : List Value) : List Field → Option Bool
  | [] => some true
  | f :: fs =>
    match decide (f.name = "_"), isAggT P f.type, us[f.offset]?, vs[f.offset]? with
    | false, some false, some u, some v =>
      match fieldEq P f.type u v, fieldsEq P us vs fs with
      | some a, some b => some (a && b)
      | _, _ => none
    | _, _, _, _ => none
def binRule (P : Program) (op : BinOp) (t : TypeId) (x y : Operand) (a b : AV) : Rule :=
  match a, b with
  | .v u cu, .v v cv =>
    match op, u, v with
    | .shl, .int k m, .int _ n => .pure (.cond cv (decide (0 ≤ n)) (.leaf (.v (.int k (k.wrap (m * 2 ^ (min n.toNat k.bits)))) (cu && cv))) .stuck)
    | .shr, .int k m, .int _ n => .pure (.cond cv (decide (0 ≤ n)) (.leaf (.v (.int k (m.fdiv (2 ^ (min n.toNat k.bits)))) (cu && cv))) .stuck)
    | .quo, .int k m, .int l n => .pure (must (decide (k = l)) (.cond cv (decide (n ≠ 0)) (.leaf (.v (.int k (k.wrap (m.tdiv n))) (cu && cv))) .stuck))
    | .rem, .int k m, .int l n => .pure (must (decide (k = l)) (.cond cv (decide (n ≠ 0)) (.leaf (.v (.int k (m.tmod n)) (cu && cv))) .stuck))
    | .add, .string s, .string r => .pure (.cond (cu && cv) (decide (s.size + r.size ≤ 9223372036854775807)) (.leaf (.v (.string (s ++ r)) (cu && cv))) .stuck)
    | _, _, _ => .pure (pv (cu && cv) (pureRun P (do Go.eqGuard op t x y u v; Go.binOp op t u v)))
  | .ptr i _, .v (.pointer none) _ =>
    .read i fun s =>
      match cellsIn s with
      | some _ =>
        match P.underlying t, op with
        | some (.pointer _), .eql => .leaf (.v (.bool false) true)
        | some (.pointer _), .neq => .leaf (.v (.bool true) true)
        | _, _ => .stuck
      | none => .stuck
  | .agg xs, .agg ys =>
    match P.underlying t, vals xs, vals ys with
    | some (.struct fs), some (us, c), some (vs, d) =>
      .pure (must (xs.all isOne && ys.all isOne && !P.stoodInHeld t && !P.eqGuardType P.depth t)
        (match op, fieldsEq P us vs fs.toList with
        | .eql, some b => .leaf (.v (.bool b) (c && d))
        | .neq, some b => .leaf (.v (.bool !b) (c && d))
        | _, _ => .stuck))
    | _, _, _ => .pure .stuck
  | .ifc _ _, .v .nilIface _ =>
    match P.underlying t, op with
    | some (.interface _), .eql => .pure (.leaf (.v (.bool false) true))
    | some (.interface _), .neq => .pure (.leaf (.v (.bool true) true))
    | _, _ => .pure .stuck
  | _, _ => .pure .stuck

def unRule (_P : Program) (op : UnOp) (a : AV) : Rule :=
  match a with
  | .v u c => .pure (pv c (pureRun _P (Op.unary op u)))
  | _ => .pure .stuck

def sumL : List Nat → Nat := List.sum

def bytesOf (l : List Int) : ByteArray := ⟨(l.map fun x => UInt8.ofNat x.toNat).toArray⟩

def convRule (P : Program) (src dst : TypeId) (a : AV) : Rule :=
  match a with
  | .v (.slice none _ _) c =>
    match P.underlying src, P.underlying dst with
    | some (.slice e), some .string =>
      match P.underlying e with
      | some (.int .u8) => .pure (.leaf (.v (.string ByteArray.empty) c))
      | _ => .pure .stuck
    | _, _ => .pure .stuck
  | .v (.string s) c =>
    match P.underlying src, P.underlying dst with
    | some _, some (.slice e) =>
      match P.underlying e with
      | some (.int .u8) => .eff fun H => req (decide (s.size ≤ 9223372036854775807)) (.leaf (.val (.sl (newSlot H) 1 [] s.size), H.add (.frow (.ints .u8 (s.data.toList.map fun b => (b.toNat : Int))))))
      | _ => .pure .stuck
    | _, _ => .pure (pv c (pureRun P (convert src dst (.string s))))
  | .v u c => .pure (pv c (pureRun P (convert src dst u)))
  | .sl i sz path len =>
    match P.underlying src, P.underlying dst with
    | some (.slice e), some .string =>
      match P.underlying e with
      | some (.int .u8) => .read i fun
        | .row (.ints .u8 l) _ => must (sz == 1) (req (decide (sumL path + len ≤ l.length)) (.leaf (.v (.string (bytesOf ((l.drop (sumL path)).take len))) false)))
        | _ => .stuck
      | _ => .pure .stuck
    | _, _ => .pure .stuck
  | _ => .pure .stuck

def fieldRule (P : Program) (s : TypeId) (a : AV) (f : Nat) : Rule :=
  match P.underlying s with
  | some (.struct fs) =>
    match fs[f]? with
    | some fd =>
      match sizeT P fd.type, a with
      | some n, .ptr i off => .read i fun s => match cellsIn s with | some _ => must (decide (0 < n)) (.leaf (.ptr i (off + fd.offset))) | none => .stuck
      | some n, .ep i sz j fo => .read i fun s => match rowIn s with | some r => must (decide (0 < n)) (req (decide (j < r.length)) (.leaf (.ep i sz j (fo + fd.offset)))) | none => .stuck
      | _, _ => .pure .stuck
    | none => .pure .stuck
  | _ => .pure .stuck

def isAggV : AV → Bool
  | .v (.agg _) _ => true
  | .agg _ => true
  | _ => false

def fieldOfRule (P : Program) (s : TypeId) (a : AV) (f : Nat) : Rule :=
  match P.underlying s with
  | some (.struct fs) =>
    match fs[f]? with
    | some fd =>
      match isAggT P fd.type, sizeT P fd.type with
      | some false, some 1 => .pure (must (isAggV a && okCells (explode a)) (fromO (cellAt (explode a) fd.offset)))
      | some true, some n => .pure (must (isAggV a && okCells (explode a)) ((fromO ((dropW (explode a) fd.offset).bind fun l => takeW l n)).bind fun l => .leaf (.agg l)))
      | _, _ => .pure .stuck
    | none => .pure .stuck
  | _ => .pure .stuck

def indexAddrRule (P : Program) (t : TypeId) (a ix : AV) : Rule :=
  match ix with
  | .v (.int _ n) c =>
    match P.underlying t, a with
    | some (.slice e), .sl i sz path len =>
      match sizeT P e with
      | some m => .read i fun s =>
        match rowIn s with
        | some r => must (m == sz && m == r.sz) (req (decide (0 ≤ n ∧ n < len ∧ sumL path + n.toNat < r.length)) (.leaf (.ep i sz (sumL path + n.toNat) 0)))
        | none => .stuck
      | none => .pure .stuck
    | some (.array len e), .ptr i off =>
      match sizeT P e with
      | some m =>
        .read i fun s => match cellsIn s with
          | some _ =>
            match c with
            | true => must (decide (0 ≤ n ∧ n < len)) (.leaf (.ptr i (off + n.toNat * m)))
            | false => must (m == 1) (req (decide (0 ≤ n ∧ n < len)) (.leaf (.ap i off n.toNat)))
          | none => .stuck
      | none => .pure .stuck
    | _, _ => .pure .stuck
  | _ => .pure .stuck

def indexRule (P : Program) (t : TypeId) (a ix : AV) : Rule :=
  match a, ix with
  | .v (.string s) c, .v (.int _ n) c' =>
    match P.underlying t with
    | some .string => .pure (.cond (c && c') (decide (0 ≤ n ∧ n < s.size)) (.leaf (.v (.int .u8 (s.data.getD n.toNat 0).toNat) (c && c'))) .stuck)
    | _ => .pure .stuck
  | .agg cs, .v (.int _ n) c' =>
    match P.underlying t with
    | some (.array len e) =>
      match isAggT P e, cs with
      | some false, [.arr k m l] => .pure (must (m == len && sizeT P e == some 1) (.cond c' (decide (0 ≤ n ∧ n < len)) (.leaf (.v (.int k (l.getD n.toNat 0)) false)) .stuck))
      | _, _ => .pure .stuck
    | _ => .pure .stuck
  | _, _ => .pure .stuck

/-- a bound of a slice expression: absent, or a number -/
def bound (d : Int) : Option AV → Option (Int × Bool)
  | none => some (d, true)
  | some (.v (.int _ n) c) => some (n, c)
  | _ => none

def sliceRule (P : Program) (t : TypeId) (a : AV) (lo hi mx : Option AV) : Rule :=
  match mx, a with
  | none, .v (.string s) c =>
    match P.underlying t, bound 0 lo, bound s.size hi with
    | some .string, some (l, cl), some (h, ch) => .pure (.cond (c && cl && ch) (decide (0 ≤ l ∧ l ≤ h ∧ h ≤ s.size)) (.leaf (.v (.string (s.extract l.toNat h.toNat)) (c && cl && ch))) .stuck)
    | _, _, _ => .pure .stuck
  | none, .sl i sz path len =>
    match P.underlying t, bound 0 lo, bound len hi with
    | some (.slice e), some (l, _), some (h, _) => .read i fun s =>
      match rowIn s with
      | some r => must (sizeT P e == some sz && sz == r.sz) (req (decide (0 ≤ l ∧ l ≤ h ∧ h ≤ len ∧ sumL path + len ≤ r.length)) (.leaf (.sl i sz (path ++ [l.toNat]) (h.toNat - l.toNat))))
      | none => .stuck
    | _, _, _ => .pure .stuck
  | _, _ => .pure .stuck

def makeSliceRule (P : Program) (t : TypeId) (l c : AV) : Rule := .eff fun H =>
  match P.underlying t, l, c with
  | some (.slice e), .v (.int _ n) _, .v (.int _ m) _ =>
    match P.info? e with
    | some i =>
      match P.underlying e with
      | some (.int k) => must (i.size == 1 && (match i.zero with | some z => sameV z (.int k 0) | none => false)) (req (decide (0 ≤ n ∧ n ≤ m ∧ (i.bytes : Int) * m ≤ 281474976710656 ∧ m ≤ 9223372036854775807)) (.leaf (.val (.sl (newSlot H) 1 [] n.toNat), H.add (.row (.ints k (List.replicate n.toNat 0)) e))))
      | some .string => must (i.size == 1 && (match i.zero with | some z => sameV z (.string ByteArray.empty) | none => false)) (req (decide (0 ≤ n ∧ n ≤ m ∧ (i.bytes : Int) * m ≤ 281474976710656 ∧ m ≤ 9223372036854775807)) (.leaf (.val (.sl (newSlot H) 1 [] n.toNat), H.add (.row (.strs (List.replicate n.toNat ByteArray.empty)) e))))
      | _ => .stuck
    | none => .stuck
  | _, _, _ => .stuck

def Row.app : Row → Row → Option Row
  | .ints k l, .ints k' m => if k = k' then some (.ints k (l ++ m)) else none
  | .strs l, .strs m => some (.strs (l ++ m))
  | .recs ks l, .recs ks' m => if ks = ks' then some (.recs ks (l ++ m)) else none
  | _, _ => none
def Row.sub : Row → Nat → Nat → Row
  | .ints k l, a, n => .ints k ((l.drop a).take n)
  | .strs l, a, n => .strs ((l.drop a).take n)
  | .recs ks l, a, n => .recs ks ((l.drop a).take n)
def Row.kinds : Row → Option (List Kind)
  | .ints k _ => some [.i k]
  | .strs _ => some [.s]
  | .recs ks _ => some ks

end Eng

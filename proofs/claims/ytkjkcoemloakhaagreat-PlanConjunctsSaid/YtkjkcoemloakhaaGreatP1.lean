/- A part of the evaluator, of its proof or of the walks (laid together by a program of my own); conditions: none. -/
import Derived.Orders
import Derived.LoopN
import Derived.Below
import Derived.KernelRfl
import Derived.Laws.AppendOwn
import Derived.Laws.Tables
import Derived.Laws.StructEq
import Derived.Laws.MakeOwn
import Derived.Laws.OwnMore
import Derived.Laws.CopyRow
import Derived.Shelf.Abstract
import Derived.Deep.AppendSrc
section
namespace Go.Vae
open Go

inductive Tr (α : Type) where
  | e
  | n (l : Tr α) (v : Option α) (r : Tr α)

def Tr.get {α : Type} : Tr α → Nat → Option α
  | .e, _ => none
  | .n _ v _, 0 => v
  | .n l _ r, i + 1 => bif Nat.beq (i % 2) 0 then l.get (i / 2) else r.get (i / 2)

def Tr.put {α : Type} : Nat → Tr α → Nat → α → Tr α
  | 0, t, _, _ => t
  | d + 1, .e, i, x =>
    match i with
    | 0 => .n .e (some x) .e
    | i + 1 => bif Nat.beq (i % 2) 0 then .n (Tr.put d .e (i / 2) x) none .e else .n .e none (Tr.put d .e (i / 2) x)
  | d + 1, .n l v r, i, x =>
    match i with
    | 0 => .n l (some x) r
    | i + 1 => bif Nat.beq (i % 2) 0 then .n (Tr.put d l (i / 2) x) v r else .n l v (Tr.put d r (i / 2) x)

def Tr.set {α : Type} (t : Tr α) (i : Nat) (x : α) : Tr α := t.put (i + 1) i x

def lget {α : Type} : List α → Nat → Option α
  | [], _ => none
  | x :: _, 0 => some x
  | _ :: xs, i + 1 => lget xs i

/-- n elements from place i on, if they are there. -/
def lcut {α : Type} : List α → Nat → Nat → Option (List α)
  | _, 0, 0 => some []
  | [], 0, _ + 1 => none
  | x :: xs, 0, n + 1 => (lcut xs 0 n).map (x :: ·)
  | [], _ + 1, _ => none
  | _ :: xs, i + 1, n => lcut xs i n

/-- The list with other elements from place i on, if there is room. -/
def lput {α : Type} : List α → Nat → List α → Option (List α)
  | xs, 0, [] => some xs
  | [], 0, _ :: _ => none
  | _ :: xs, 0, y :: ys => (lput xs 0 ys).map (y :: ·)
  | [], _ + 1, _ => none
  | x :: xs, i + 1, ys => (lput xs i ys).map (x :: ·)

inductive AO where
  | cells (cs : List Value)
  | dead

structure AH where
  ng : Nat
  n : Nat
  ro : Nat → Nat → Option Value
  sz : Nat
  st : Tr AO

def AH.blk (h : AH) (k : Nat) : Option AO := h.st.get k

def AH.cell (h : AH) (b off : Nat) : Option Value :=
  bif Nat.blt b h.n then h.ro b off
  else match h.blk (b - h.n) with
    | some (.cells cs) => lget cs off
    | _ => none

def roCells (ro : Nat → Option Value) (off : Nat) : Nat → Option (List Value)
  | 0 => some []
  | n + 1 => match ro off with
    | some v => (roCells ro (off + 1) n).map (v :: ·)
    | none => none

def AH.cut (h : AH) (b off n : Nat) : Option (List Value) :=
  bif Nat.blt b h.n then roCells (h.ro b) off n
  else match h.blk (b - h.n) with
    | some (.cells cs) => lcut cs off n
    | _ => none

inductive Eff where
  | nil
  | new (cs : List Value)
  | set (k : Nat) (cs : List Value)
  | grow (k : Nat) (cs : List Value)

def AH.app (h : AH) : Eff → AH
  | .nil => h
  | .new cs => { h with sz := h.sz + 1, st := h.st.set h.sz (.cells cs) }
  | .set k cs => { h with st := h.st.set k (.cells cs) }
  | .grow k cs => { h with sz := h.sz + 1, st := (h.st.set k .dead).set h.sz (.cells cs) }

inductive TK where
  | other
  | int (k : IntKind)
  | bool
  | string
  | slice (e : TypeId)
  | struct (fs : List (TypeId × Nat))
  | array (len : Nat) (e : TypeId)
  deriving DecidableEq

structure TI where
  agg : Bool
  size : Nat
  zero : List Value
  bytes : Nat
  k : TK
  /-- may it be compared cell by cell -/
  flat : Bool

structure FI where
  nt : Nat
  res : List ResultVar
  code : Code

structure Tabs where
  ty : Nat → Option TI
  fn : Nat → Option FI
  /-- functions without arguments whose answer is known -/
  known : Nat → Option Value

/-- A slice whose capacity isn't told: unk and the size of its elements. -/
def unk : Nat := 1000000000000000000000

def bigger : Nat := 1000000000000

abbrev Fr := Tr Value

def cOK : Value → Bool
  | .bool _ | .int _ _ | .string _ | .pointer none | .slice none 0 0 | .nilFunc | .nilIface | .map none => true
  | .agg cs => cs.toList.all fun | .bool _ | .int _ _ | .string _ | .pointer none | .slice none 0 0 | .nilFunc | .nilIface | .map none => true | _ => false
  | _ => false

def Fr.ev (fr : Fr) (h : AH) : Operand → Value
  | .tmp t => (Tr.get fr t).getD undef
  | .const v => bif cOK v then v else undef
  | .global g => bif Nat.blt g h.ng then .pointer (some ⟨g, 0, none⟩) else undef
  | .func f => .func (.func f) #[] #[]

/-- What an operation leaves that isn't wanted. -/
def skipV : Value := .chan none

/-- The cells of a value that may lie in memory. -/
def vcells : Value → Option (List Value)
  | .agg cs => some cs.toList
  | .tuple _ => none
  | .chan _ => none
  | v => some [v]

def mkAgg (cs : List Value) : Value := .agg ⟨cs⟩

def loadT (T : Tabs) (h : AH) (t : TypeId) (b off : Nat) : Option Value :=
  match T.ty t with
  | some ti => bif ti.agg then (h.cut b off ti.size).map mkAgg else h.cell b off
  | none => none

def partT (T : Tabs) (t : TypeId) (cs : List Value) (off : Nat) : Option Value :=
  match T.ty t with
  | some ti => bif ti.agg then (lcut cs off ti.size).map mkAgg else lget cs off
  | none => none

def rdOf (h : AH) (b : Nat) : List Nat := bif Nat.blt b h.n then [] else [b - h.n]

/-- parts laid into cells -/
def fillT (place : Nat → Option (Nat × Nat)) : List Value → List (Nat × Value) → Option (List Value)
  | cs, [] => some cs
  | cs, (i, v) :: rest =>
    match place i, vcells v with
    | some (off, size), some vs => bif Nat.beq vs.length size then
        match lput cs off vs with
        | some cs => fillT place cs rest
        | none => none
      else none
    | _, _ => none

def reps : Nat → List Value → List Value
  | 0, _ => []
  | n + 1, z => z ++ reps n z

/-- What a run without any effect answers. -/
def pv : Sem Value → Option Value
  | .pure v => some v
  | _ => none

/-- A number or a bool. -/
def scal : Option Value → Option Value
  | some (.int k n) => some (.int k n)
  | some (.bool b) => some (.bool b)
  | _ => none

def leq : List UInt8 → List UInt8 → Bool
  | [], [] => true
  | a :: x, b :: y => Nat.beq a.toNat b.toNat && leq x y
  | _, _ => false

def astr (op : BinOp) (x y : ByteArray) : Option Value :=
  match op with
  | .add => bif Nat.ble (x.data.toList.length + y.data.toList.length) 9223372036854775807 then some (.string ⟨⟨x.data.toList ++ y.data.toList⟩⟩) else none
  | .eql => some (.bool (leq x.data.toList y.data.toList))
  | .neq => some (.bool (!leq x.data.toList y.data.toList))
  | .lss => some (.bool (Op.bytesLess x.data.toList y.data.toList))
  | .leq => some (.bool (Op.bytesLess x.data.toList y.data.toList || leq x.data.toList y.data.toList))
  | .gtr => some (.bool (!(Op.bytesLess x.data.toList y.data.toList || leq x.data.toList y.data.toList)))
  | .geq => some (.bool (!Op.bytesLess x.data.toList y.data.toList))
  | _ => none

/-- Are two cells that hold no address equal? -/
def cellEq : Value → Value → Option Bool
  | .int k a, .int k' b => bif decide (k = k') then some (a == b) else none
  | .string a, .string b => some (leq a.data.toList b.data.toList)
  | .bool a, .bool b => some (a == b)
  | _, _ => none

def cellsEq : List Value → List Value → Option Bool
  | [], [] => some true
  | x :: xs, y :: ys => match cellEq x y, cellsEq xs ys with
    | some a, some b => some (a && b)
    | _, _ => none
  | _, _ => none

/-- Cells of the kinds of these cells. -/
def likeZ : List Value → List Value → Bool
  | [], [] => true
  | .int k _ :: zs, .int k' _ :: cs => decide (k = k') && likeZ zs cs
  | .string _ :: zs, .string _ :: cs => likeZ zs cs
  | .bool _ :: zs, .bool _ :: cs => likeZ zs cs
  | _, _ => false

def isBool : TK → Bool
  | .bool => true
  | _ => false

def abin (T : Tabs) (op : BinOp) (t : TypeId) (x y : Value) : Option Value :=
  match x, y with
  | .int k a, .int k' b => scal (pv (Go.binOp op t (.int k a) (.int k' b)))
  | .string a, .string b => astr op a b
  | .bool a, .bool b =>
    match T.ty t, op with
    | some ti, .eql => bif isBool ti.k then some (.bool (a == b)) else none
    | some ti, .neq => bif isBool ti.k then some (.bool (!(a == b))) else none
    | _, _ => none
  | .agg a, .agg b =>
    match T.ty t, op with
    | some ti, .eql => bif ti.flat && (likeZ ti.zero a.toList && likeZ ti.zero b.toList) then (cellsEq a.toList b.toList).map .bool else none
    | some ti, .neq => bif ti.flat && (likeZ ti.zero a.toList && likeZ ti.zero b.toList) then (cellsEq a.toList b.toList).map (fun z => .bool (!z)) else none
    | _, _ => none
  | _, _ => none

def aun (op : UnOp) (x : Value) : Option Value :=
  match x with
  | .int k a => scal (pv (Op.unary op (.int k a)))
  | .bool b => scal (pv (Op.unary op (.bool b)))
  | _ => none

inductive AR where
  | val (v : Value) (e : Eff) (rd : List Nat)
  | go (f : FuncId) (args : List Value)

def ok (v : Value) : Option AR := some (.val v .nil [])
def okO (v : Option Value) : Option AR := match v with | some v => some (.val v .nil []) | none => none

def AH.fresh (h : AH) : Value := .pointer (some ⟨h.n + h.sz, 0, none⟩)

def aload (T : Tabs) (h : AH) (t : TypeId) (a : Value) : Option AR :=
  match a with
  | .pointer (some ⟨b, off, none⟩) => match loadT T h t b off with
    | some v => some (.val v .nil (rdOf h b))
    | none => none
  | _ => none

def astore (T : Tabs) (h : AH) (t : TypeId) (a x : Value) : Option AR :=
  match a, vcells x, T.ty t with
  | .pointer (some ⟨b, off, none⟩), some vs, some ti =>
    bif Nat.blt b h.n then none else
    match h.blk (b - h.n) with
    | some (.cells cs) => bif Nat.beq vs.length ti.size then
        match lput cs off vs with
        | some cs => some (.val undef (.set (b - h.n) cs) [])
        | none => none
      else none
    | _ => none
  | _, _, _ => none

def placeOf (T : Tabs) (fs : List (TypeId × Nat)) (i : Nat) : Option (Nat × Nat) :=
  match lget fs i with
  | some (ft, off) => match T.ty ft with
    | some fi => some (off, fi.size)
    | none => none
  | none => none

def abuild (T : Tabs) (t : TypeId) (ps : List (Nat × Value)) : Option AR :=
  match T.ty t with
  | some ti => match ti.k with
    | .struct fs => okO ((fillT (placeOf T fs) ti.zero ps).map mkAgg)
    | .array _ e => match T.ty e with
      | some ei => okO ((fillT (fun i => some (i * ei.size, ei.size)) ti.zero ps).map mkAgg)
      | none => none
    | _ => none
  | none => none

def abuildSlice (T : Tabs) (h : AH) (t : TypeId) (len : Nat) (ps : List (Nat × Value)) : Option AR :=
  match T.ty t with
  | some ti => match ti.k with
    | .slice e => match T.ty e with
      | some ei => bif Nat.ble (len * ei.size) 16777216 && Nat.ble 1 ei.size then
          match fillT (fun i => some (i * ei.size, ei.size)) (reps len ei.zero) ps with
          | some cs => some (.val (.slice (some ⟨h.n + h.sz, 0, none⟩) len len) (.new cs) [])
          | none => none
        else none
      | none => none
    | _ => none
  | none => none

def anil (x : Value) : Option AR :=
  match x with
  | .pointer (some a) => ok (.pointer (some a))
  | .func (.func f) a b => ok (.func (.func f) a b)
  | _ => none

def aconvert (T : Tabs) (d : TypeId) (x : Value) : Option AR :=
  match x, T.ty d with
  | .int _ n, some ti => match ti.k with
    | .int k => ok (.int k (k.wrap n))
    | _ => none
  | .string s, some ti => match ti.k with
    | .string => ok (.string s)
    | _ => none
  | _, _ => none

def amake (T : Tabs) (h : AH) (t : TypeId) (l c : Value) : Option AR :=
  match l, c, T.ty t with
  | .int .i64 n, .int .i64 m, some ti => match ti.k with
    | .slice e => match T.ty e with
      | some ei => bif decide (n = m) && decide (0 ≤ n) && Nat.ble (ei.bytes * n.toNat) 70368744177664 && Nat.ble n.toNat 70368744177664 && Nat.ble 1 ei.size then
          some (.val (.slice (some ⟨h.n + h.sz, 0, none⟩) n.toNat n.toNat) (.new (reps n.toNat ei.zero)) [])
        else none
      | none => none
    | _ => none
  | _, _, _ => none

/-- A bound of a slice expression. -/
def abound : Option Value → Nat → Option Nat
  | none, d => some d
  | some (.int .i64 n), _ => bif decide (0 ≤ n) then some n.toNat else none
  | _, _ => none

def aslice (T : Tabs) (t : TypeId) (x : Value) (lo hi mx : Option Value) : Option AR :=
  match x, T.ty t with
  | .string s, some ti => match ti.k, mx with
    | .string, none => match abound lo 0, abound hi s.data.toList.length with
      | some l, some u => bif Nat.ble l u && Nat.ble u s.data.toList.length then ok (.string ⟨⟨(s.data.toList.take u).drop l⟩⟩) else none
      | _, _ => none
    | _, _ => none
  | .slice a len cap, some ti => match ti.k with
    | .slice e => match T.ty e with
      | some ei => bif Nat.ble unk cap then
          match mx, abound lo 0, abound hi len, a with
          | none, some l, some u, some ⟨b, off, none⟩ => bif Nat.ble l u && Nat.ble u len && (Nat.blt l len || Nat.beq l 0) && Nat.beq cap (unk + ei.size) then
              ok (.slice (some ⟨b, off + l * ei.size, none⟩) (u - l) cap) else none
          | some m, some l, some u, some ⟨b, off, none⟩ => match abound (some m) 0 with
            | some m => bif Nat.ble l u && Nat.ble u m && Nat.ble m len && hi.isSome && Nat.blt m unk then
                ok (.slice (some ⟨b, off + (bif Nat.beq m l then 0 else l * ei.size), none⟩) (u - l) (m - l)) else none
            | none => none
          | _, _, _, _ => none
        else
          match abound mx cap, abound lo 0, abound hi len with
          | some m, some l, some u => bif Nat.ble l u && Nat.ble u m && Nat.ble m cap && (mx.isNone || hi.isSome) && Nat.blt m unk then
              match a with
              | none => ok (.slice none (u - l) (m - l))
              | some ⟨b, off, none⟩ => ok (.slice (some ⟨b, off + (bif Nat.beq m l then 0 else l * ei.size), none⟩) (u - l) (m - l))
              | _ => none
            else none
          | _, _, _ => none
      | none => none
    | _ => none
  | _, _ => none

def afieldAddr (T : Tabs) (s : TypeId) (x : Value) (f : Nat) : Option AR :=
  match x, T.ty s with
  | .pointer (some ⟨b, off, none⟩), some ti => match ti.k with
    | .struct fs => match lget fs f with
      | some (ft, o) => match T.ty ft with
        | some fi => bif Nat.ble 1 fi.size then ok (.pointer (some ⟨b, off + o, none⟩)) else none
        | none => none
      | none => none
    | _ => none
  | _, _ => none

def afield (T : Tabs) (s : TypeId) (x : Value) (f : Nat) : Option AR :=
  match x, T.ty s with
  | .agg cs, some ti => match ti.k with
    | .struct fs => match lget fs f with
      | some (ft, o) => okO (partT T ft cs.toList o)
      | none => none
    | _ => none
  | _, _ => none

def aindexAddr (T : Tabs) (t : TypeId) (x i : Value) : Option AR :=
  match x, i, T.ty t with
  | .slice (some ⟨b, off, none⟩) len _, .int _ n, some ti => match ti.k with
    | .slice e => match T.ty e with
      | some ei => bif decide (0 ≤ n) && decide (n < (len : Int)) then ok (.pointer (some ⟨b, off + n.toNat * ei.size, none⟩)) else none
      | none => none
    | _ => none
  | .pointer (some ⟨b, off, none⟩), .int _ n, some ti => match ti.k with
    | .array len e => match T.ty e with
      | some ei => bif decide (0 ≤ n) && decide (n < (len : Int)) then ok (.pointer (some ⟨b, off + n.toNat * ei.size, none⟩)) else none
      | none => none
    | _ => none
  | _, _, _ => none

def aindex (T : Tabs) (t : TypeId) (x i : Value) : Option AR :=
  match x, i, T.ty t with
  | .string s, .int _ n, some ti => match ti.k with
    | .string => bif decide (0 ≤ n) then match lget s.data.toList n.toNat with
        | some c => ok (.int .u8 c.toNat)
        | none => none
      else none
    | _ => none
  | .agg cs, .int _ n, some ti => match ti.k with
    | .array len e => match T.ty e with
      | some ei => bif decide (0 ≤ n) && decide (n < (len : Int)) then okO (partT T e cs.toList (n.toNat * ei.size)) else none
      | none => none
    | _ => none
  | _, _, _ => none

def aextract (x : Value) (i : Nat) : Option AR :=
  match x with
  | .tuple vs => okO (lget vs.toList i)
  | _ => none

def alen (T : Tabs) (t : TypeId) (x : Value) : Option AR :=
  match T.ty t with
  | some ti => match ti.k, x with
    | .string, .string s => ok (.int .i64 s.data.toList.length)
    | .slice _, .slice _ n _ => ok (.int .i64 n)
    | .array n _, _ => ok (.int .i64 n)
    | _, _ => none
  | none => none

def acap (T : Tabs) (t : TypeId) (x : Value) : Option AR :=
  match T.ty t with
  | some ti => match ti.k, x with
    | .slice _, .slice _ _ c => bif Nat.ble unk c then none else ok (.int .i64 c)
    | _, _ => none
  | none => none

/-- The cells of the elements that are appended or copied, how many elements, and what is read. -/
def srcCells (h : AH) (size : Nat) (x : Value) (n : Nat) : Option (List Value × List Nat) :=
  match x with
  | .slice (some ⟨b, off, none⟩) _ _ => match h.cut b off (n * size) with
    | some cs => some (cs, rdOf h b)
    | none => none
  | .slice none _ _ => bif Nat.beq n 0 then some ([], []) else none
  | .string s => bif Nat.ble n s.data.toList.length && Nat.beq size 1 then some ((s.data.toList.take n).map fun c => .int .u8 c.toNat, []) else none
  | _ => none

def lenV : Value → Option Nat
  | .slice _ n _ => some n
  | .string s => some s.data.toList.length
  | _ => none

def aappendTo (h : AH) (ei : TI) (base : Option Addr) (sLen sCap : Nat) (n : Nat) (news : List Value) (rd : List Nat) : Option AR :=
  bif Nat.beq n 0 then bif Nat.ble sLen sCap then some (.val (.slice base sLen sCap) .nil rd) else none else
  bif Nat.ble unk sCap then
    match base with
    | some ⟨b, off, none⟩ => bif Nat.blt b h.n then none else
      match h.cut b off (sLen * ei.size) with
      | some old => bif Nat.ble ((sLen + n) * ei.bytes) 70368744177664 && Nat.ble (sLen + n) 70368744177664 && Nat.beq sCap (unk + ei.size) then
          some (.val (.slice (some ⟨h.n + h.sz, 0, none⟩) (sLen + n) (unk + ei.size)) (.grow (b - h.n) (old ++ news)) rd) else none
      | none => none
    | _ => none
  else bif Nat.ble (sLen + n) sCap then
    match base with
    | some ⟨b, off, none⟩ => bif Nat.blt b h.n then none else
      match h.blk (b - h.n) with
      | some (.cells cs) => match lput cs (off + sLen * ei.size) news with
        | some cs => some (.val (.slice base (sLen + n) sCap) (.set (b - h.n) cs) rd)
        | none => none
      | _ => none
    | _ => none
  else
    match srcCells h ei.size (.slice base sLen sCap) sLen with
    | some (old, rd') => bif Nat.ble ((sLen + n) * ei.bytes) 70368744177664 && Nat.ble (sLen + n) 70368744177664 then
        some (.val (.slice (some ⟨h.n + h.sz, 0, none⟩) (sLen + n) (unk + ei.size)) (.new (old ++ news)) (rd' ++ rd)) else none
    | none => none

def isInt : TK → Bool
  | .int _ => true
  | _ => false

def isSeq : TK → Bool
  | .slice _ | .string => true
  | _ => false

def aappend (T : Tabs) (h : AH) (st xt : TypeId) (s x : Value) : Option AR :=
  match T.ty st, T.ty xt, s with
  | some ti, some xi, .slice base sLen sCap => match ti.k with
    | .slice e => match T.ty e with
      | some ei => bif Nat.ble 1 ei.size && Nat.ble 1 ei.bytes then
          bif isInt xi.k then
            match x with
            | .int .i64 l => bif decide (0 ≤ l) && Nat.ble (l.toNat * ei.bytes) 70368744177664 && Nat.ble l.toNat 70368744177664 then
                aappendTo h ei base sLen sCap l.toNat (reps l.toNat ei.zero) [] else none
            | _ => none
          else
            bif isSeq xi.k then
            match lenV x with
            | some n => match srcCells h ei.size x n with
              | some (news, rd) => aappendTo h ei base sLen sCap n news rd
              | none => none
            | none => none
            else none
        else none
      | none => none
    | _ => none
  | _, _, _ => none

def aputs (h : AH) (base : Option Addr) (cs : List Value) (v : Value) (rd : List Nat) : Option AR :=
  match cs with
  | [] => some (.val v .nil rd)
  | _ => match base with
    | some ⟨b, off, none⟩ => bif Nat.blt b h.n then none else
      match h.blk (b - h.n) with
      | some (.cells row) => match lput row off cs with
        | some row => some (.val v (.set (b - h.n) row) rd)
        | none => none
      | _ => none
    | _ => none

def acopy (T : Tabs) (h : AH) (dt : TypeId) (d s : Value) : Option AR :=
  match T.ty dt, d, lenV s with
  | some ti, .slice base dLen _, some sLen => match ti.k with
    | .slice e => match T.ty e with
      | some ei => match srcCells h ei.size s (Nat.min sLen dLen) with
        | some (cs, rd) => aputs h base cs (.int .i64 (Nat.min sLen dLen)) rd
        | none => none
      | none => none
    | _ => none
  | _, _, _ => none

def aclear (T : Tabs) (h : AH) (t : TypeId) (x : Value) : Option AR :=
  match T.ty t, x with
  | some ti, .slice base n _ => match ti.k with
    | .slice e => match T.ty e with
      | some ei => aputs h base (reps n ei.zero) (.tuple #[]) []
      | none => none
    | _ => none
  | _, _ => none

def aextreme (mx : Bool) : Value → List Value → Option Value
  | v, [] => some v
  | .int k x, .int k' y :: rest => bif decide (k = k') then aextreme mx (.int k (bif mx then (bif decide (y > x) then y else x) else (bif decide (y < x) then y else x))) rest else none
  | _, _ => none

def abuiltin (T : Tabs) (h : AH) (b : Builtin) (ts : List TypeId) (xs : List Value) : Option AR :=
  match b, ts, xs with
  | .len, [t], [x] => alen T t x
  | .cap, [t], [x] => acap T t x
  | .append, [t, u], [s, x] => aappend T h t u s x
  | .copy, t :: _, [d, s] => acopy T h t d s
  | .clear, [t], [x] => aclear T h t x
  | .min, _, x :: rest => okO (aextreme false x rest)
  | .max, _, x :: rest => okO (aextreme true x rest)
  | _, _, _ => none

def acall (T : Tabs) (h : AH) (ρ : Operand → Value) (c : Call) : Option AR :=
  match c.callee with
  | .builtin b => abuiltin T h b c.argTypes.toList (c.args.toList.map ρ)
  | .value f => match ρ f with
    | .func (.func g) first caps => some (.go g (first.toList ++ (c.args.toList.map ρ ++ caps.toList)))
    | _ => none
  | _ => none

def isPtr : Value → Bool
  | .pointer (some _) => true
  | _ => false

def afunc (fn : Fn) (caps : List Value) : Option AR :=
  match fn with
  | .func g => bif caps.all isPtr then ok (.func (.func g) #[] ⟨caps⟩) else none
  | _ => none

def aop (T : Tabs) (h : AH) (ρ : Operand → Value) (o : Oper) : Option AR :=
  match o.op with
  | .move x | .assign x => ok (ρ x)
  | .pick c a b => match ρ c with
    | .bool t => ok (bif t then ρ a else ρ b)
    | _ => none
  | .alloc t => match T.ty t with
    | some ti => some (.val h.fresh (.new ti.zero) [])
    | none => none
  | .box _ x => match vcells (ρ x) with
    | some cs => some (.val h.fresh (.new cs) [])
    | none => none
  | .build t ps => abuild T t (ps.toList.map fun p => (p.1, ρ p.2))
  | .buildSlice t len ps => abuildSlice T h t len (ps.toList.map fun p => (p.1, ρ p.2))
  | .load t a => aload T h t (ρ a)
  | .store t a x => astore T h t (ρ a) (ρ x)
  | .nilCheck x => anil (ρ x)
  | .binOp op t x y _ => okO (abin T op t (ρ x) (ρ y))
  | .unOp op _ x => okO (aun op (ρ x))
  | .convert s d x => match T.ty s with
    | some _ => aconvert T d (ρ x)
    | none => none
  | .makeFunc fn first caps => bif first.toList.isEmpty then afunc fn (caps.toList.map ρ) else none
  | .makeSlice t l c => amake T h t (ρ l) (ρ c)
  | .slice t x lo hi mx => aslice T t (ρ x) (lo.map ρ) (hi.map ρ) (mx.map ρ)
  | .fieldAddr s x f => afieldAddr T s (ρ x) f
  | .field s x f => afield T s (ρ x) f
  | .indexAddr t x i => aindexAddr T t (ρ x) (ρ i)
  | .index t x i => aindex T t (ρ x) (ρ i)
  | .extract x i => aextract (ρ x) i
  | .call c => acall T h ρ c
  | _ => none

/-! ### what an operation touches -/
structure Acc where
  rd : List Nat
  wr : List Nat
  /-- the new blocks: from lo on, below hi -/
  lo : Nat
  hi : Nat
  /-- a call: does it write what was there before -/
  call : Option Bool

def Eff.wr : Eff → List Nat
  | .set k _ | .grow k _ => [k]
  | _ => []

def Eff.low : Eff → Nat
  | .set k _ | .grow k _ => k
  | _ => bigger

def Eff.lowD (d : Nat) : Eff → Nat
  | .set k _ | .grow k _ => k
  | _ => d

def lmem (k : Nat) : List Nat → Bool
  | [] => false
  | x :: xs => Nat.beq k x || lmem k xs

def lmeet : List Nat → List Nat → Bool
  | [], _ => false
  | x :: xs, ys => lmem x ys || lmeet xs ys

def lwithin (lo hi : Nat) : List Nat → Bool
  | [] => false
  | x :: xs => (Nat.ble lo x && Nat.blt x hi) || lwithin lo hi xs

def Acc.clash1 (a b : Acc) : Bool :=
  lmeet a.wr b.rd || (lmeet a.wr b.wr || (lwithin b.lo b.hi a.wr ||
  match a.call with
  | none => false
  | some false => !b.wr.isEmpty
  | some true => !b.wr.isEmpty || (!b.rd.isEmpty || (b.call.isSome || Nat.blt b.lo b.hi))))

def Acc.clash (a b : Acc) : Bool := a.clash1 b || b.clash1 a

def Acc.writes (a : Acc) : Bool := !a.wr.isEmpty || (match a.call with | some true => true | _ => false)

/-- Each one against those after it: two that clash are in order (bit i of the later one's 'before'). -/
def pairs1 {α : Type} (R : α → α → Bool) (a : α) (i : Nat) : List α → List Nat → Bool
  | b :: bs, m :: ms => (!R a b || Nat.testBit m i) && pairs1 R a i bs ms
  | [], _ => true
  | _ :: _, [] => false

def pairsOK {α : Type} (R : α → α → Bool) : Nat → List α → List Nat → Bool
  | _, [], _ => true
  | i, a :: acl, _ :: ms => pairs1 R a i acl ms && pairsOK R (i + 1) acl ms
  | _, _ :: _, [] => false

def orderOK (acl : List Acc) (ms : List Nat) : Bool := pairsOK Acc.clash 0 acl ms

def anyWrites : List Acc → Bool
  | [] => false
  | a :: acl => a.writes || anyWrites acl

/-! ### the temporaries of a region that draws its order -/
def tmpsOf : List Operand → List Nat
  | [] => []
  | .tmp t :: os => t :: tmpsOf os
  | _ :: os => tmpsOf os

def guardT (ops : List Oper) (o : Oper) : List Nat :=
  match o.guard with
  | none => []
  | some (j, _) => match lget ops j with
    | some oj => match oj.dst with
      | some d => [d]
      | none => []
    | none => []

def namesOf (ops : List Oper) (o : Oper) : List Nat := guardT ops o ++ tmpsOf o.op.operands.toList

def touches (ops : List Oper) (a b : Oper) : Bool :=
  match a.dst with
  | some d => lmem d (namesOf ops b) || (match b.dst with | some e => Nat.beq d e | none => false)
  | none => false

def edgesOK : Nat → List Oper → Bool
  | _, [] => true
  | i, o :: os => o.after.toList.all (fun e => !Region.binds .any e || Nat.blt e.on i) && edgesOK (i + 1) os

def drawOK (ops : Array Oper) : Bool :=
  edgesOK 0 ops.toList && pairsOK (fun a b => touches ops.toList a b || touches ops.toList b a) 0 ops.toList (Region.before ops).toList

def codeOK : Code → Bool
  | .region _ ops draw => !draw || drawOK ops
  | .seq a b => codeOK a && codeOK b
  | .cond _ a b => codeOK a && codeOK b
  | .block _ c => codeOK c
  | .loop c => codeOK c
  | _ => true

/-! ### the run -/
structure St where
  fr : Fr
  h : AH
  low : Nat

inductive Ex where
  | normal
  | exit (id : Nat)
  | ret

def putT (nt : Nat) (fr : Fr) (d : Option Tmp) (v : Value) : Option Fr :=
  match d with
  | none => some fr
  | some d => bif Nat.blt d nt then some (Tr.set fr d v) else none

abbrev CallF := FuncId → List Value → AH → Option (Value × AH × Nat)

def wantedA (ops : List Oper) (fr : Fr) (o : Oper) : Option Bool :=
  match o.guard with
  | none => some true
  | some (j, want) => match lget ops j with
    | some oj => match oj.dst with
      | some d => match Tr.get fr d with
        | some (.bool b) => some (b == want)
        | some (.chan none) => some false
        | _ => none
      | none => none
    | none => none

/-- One operation. -/
def step1 (T : Tabs) (call : CallF) (nt : Nat) (ops : List Oper) (o : Oper) (s : St) : Option (St × Acc) :=
  match wantedA ops s.fr o with
  | some true =>
    match aop T s.h (s.fr.ev s.h) o with
    | some (.val v e rd) =>
        match putT nt s.fr o.dst v with
        | some fr => some (⟨fr, s.h.app e, Nat.min s.low (e.lowD s.low)⟩, ⟨rd, e.wr, s.h.sz, (s.h.app e).sz, none⟩)
        | none => none
    | some (.go f args) => match call f args s.h with
      | some (v, h, low) => match putT nt s.fr o.dst v with
        | some fr => some (⟨fr, h, Nat.min s.low low⟩, ⟨[], [], s.h.sz, h.sz, some (Nat.blt low s.h.sz)⟩)
        | none => none
      | none => none
    | none => none
  | some false =>
    match putT nt s.fr o.dst skipV with
    | some fr => some (⟨fr, s.h, s.low⟩, ⟨[], [], s.h.sz, s.h.sz, none⟩)
    | none => none
  | none => none

def steps (T : Tabs) (call : CallF) (nt : Nat) (ops : List Oper) : List Oper → St → Option (St × List Acc)
  | [], s => some (s, [])
  | o :: os, s => match step1 T call nt ops o s with
    | some (s, a) => match steps T call nt ops os s with
      | some (s, acl) => some (s, a :: acl)
      | none => none
    | none => none

def region (T : Tabs) (call : CallF) (nt : Nat) (ops : Array Oper) (draw : Bool) (s : St) : Option St :=
  match steps T call nt ops.toList ops.toList s with
  | some (s, acl) => bif draw && anyWrites acl then
      bif orderOK acl (Region.before ops).toList then some s else none
    else some s
  | none => none

def loopN (body : St → Option (Ex × St)) : Nat → St → Option (Ex × St)
  | 0, _ => none
  | k + 1, s => match body s with
    | some (.normal, s) => loopN body k s
    | r => r

def runC (T : Tabs) (call : CallF) (nt : Nat) (k : Nat) : Code → St → Option (Ex × St)
  | .skip, s => some (.normal, s)
  | .region _ ops draw, s => match region T call nt ops draw s with
    | some s => some (.normal, s)
    | none => none
  | .seq a b, s => match runC T call nt k a s with
    | some (.normal, s) => runC T call nt k b s
    | r => r
  | .cond c a b, s => match s.fr.ev s.h c with
    | .bool t => bif t then runC T call nt k a s else runC T call nt k b s
    | _ => none
  | .block id c, s => match runC T call nt k c s with
    | some (.exit i, s) => bif Nat.beq i id then some (.normal, s) else some (.exit i, s)
    | r => r
  | .loop c, s => loopN (fun s => runC T call nt k c s) k s
  | .exit id, s => some (.exit id, s)
  | .ret, s => some (.ret, s)
  | _, _ => none

def resV (T : Tabs) (h : AH) (fr : Fr) : ResultVar → Option Value
  | .tmp t => some ((Tr.get fr t).getD undef)
  | .cell a t => match Tr.get fr a with
    | some (.pointer (some ⟨b, off, none⟩)) => loadT T h t b off
    | _ => none

/-- A value that may be one of several results. -/
def isOne : Value → Bool
  | .tuple _ | .chan _ => false
  | _ => true

def resVs (T : Tabs) (h : AH) (fr : Fr) : List ResultVar → Option (List Value)
  | [] => some []
  | r :: rs => match resV T h fr r, resVs T h fr rs with
    | some v, some vs => bif isOne v then some (v :: vs) else none
    | _, _ => none

def resAll (T : Tabs) (h : AH) (fr : Fr) (rs : List ResultVar) : Option Value :=
  match resVs T h fr rs with
  | some [v] => some v
  | some vs => some (.tuple ⟨vs⟩)
  | none => none

def argsFr : Nat → List Value → Fr → Fr
  | _, [], fr => fr
  | i, v :: vs, fr => argsFr (i + 1) vs (Tr.set fr i v)

def runF (T : Tabs) : Nat → CallF
  | 0, _, _, _ => none
  | k + 1, f, args, h =>
    match T.known f with
    | some v => bif args.isEmpty then some (v, h, h.sz) else none
    | none =>
    match T.fn f with
    | some fi => bif Nat.ble args.length fi.nt then
        match runC T (runF T k) fi.nt k fi.code ⟨argsFr 0 args .e, h, h.sz⟩ with
        | some (.normal, s) | some (.ret, s) => match resAll T s.h s.fr fi.res with
          | some v => some (v, s.h, s.low)
          | none => none
        | _ => none
      else none
    | none => none

def AH.empty : AH := ⟨0, 0, fun _ _ => none, 0, .e⟩

end Go.Vae
end

section
set_option linter.unusedVariables false
set_option linter.unusedSimpArgs false
namespace Go.Vae
open Go Go.RowKit

/-! ### trees and lists -/
theorem beq_mod (i : Nat) : Nat.beq (i % 2) 0 = true ∨ Nat.beq (i % 2) 0 = false := by cases Nat.beq (i % 2) 0 <;> simp

theorem Tr.get_e {α : Type} (i : Nat) : (Tr.e : Tr α).get i = none := by cases i <;> rfl

theorem half_inj {i k : Nat} (h : Nat.beq (i % 2) 0 = Nat.beq (k % 2) 0) (h2 : i / 2 = k / 2) : i = k := by
  have hi : i % 2 = 0 ∨ i % 2 = 1 := by omega
  have hk : k % 2 = 0 ∨ k % 2 = 1 := by omega
  rcases hi with hi | hi <;> rcases hk with hk | hk <;> rw [hi, hk] at h
  · omega
  · simp at h
  · simp at h
  · omega

theorem Tr.get_put_ne {α : Type} : ∀ (d : Nat) (t : Tr α) (i k : Nat) (x : α), k ≠ i → (t.put d i x).get k = t.get k
  | 0, _, _, _, _, _ => rfl
  | d + 1, .e, 0, k, x, h => by
    cases k with
    | zero => exact absurd rfl h
    | succ k => simp only [Tr.put, Tr.get]; cases Nat.beq (k % 2) 0 <;> simp [Tr.get_e]
  | d + 1, .e, i + 1, k, x, h => by
    have ih := fun k h => Tr.get_put_ne d (Tr.e : Tr α) (i / 2) k x h
    cases k with
    | zero => simp only [Tr.put]; cases Nat.beq (i % 2) 0 <;> rfl
    | succ k =>
      simp only [Tr.put]
      by_cases hb : Nat.beq (i % 2) 0 = Nat.beq (k % 2) 0
      · have hne : k / 2 ≠ i / 2 := fun e => h (by rw [half_inj hb.symm e])
        have := ih (k / 2) hne
        cases h1 : Nat.beq (i % 2) 0 <;> rw [h1] at hb <;> simp only [cond, Tr.get, ← hb] <;> rw [this]
        · simp only [Tr.get_e]
        · simp only [Tr.get_e]
      · cases h1 : Nat.beq (i % 2) 0 <;> cases h2 : Nat.beq (k % 2) 0 <;> rw [h1, h2] at hb <;> simp_all [Tr.get, Tr.get_e]
  | d + 1, .n l v r, 0, k, x, h => by
    cases k with
    | zero => exact absurd rfl h
    | succ k => rfl
  | d + 1, .n l v r, i + 1, k, x, h => by
    cases k with
    | zero => simp only [Tr.put]; cases Nat.beq (i % 2) 0 <;> rfl
    | succ k =>
      simp only [Tr.put]
      by_cases hb : Nat.beq (i % 2) 0 = Nat.beq (k % 2) 0
      · have hne : k / 2 ≠ i / 2 := fun e => h (by rw [half_inj hb.symm e])
        have hl := Tr.get_put_ne d l (i / 2) (k / 2) x hne
        have hr := Tr.get_put_ne d r (i / 2) (k / 2) x hne
        cases h1 : Nat.beq (i % 2) 0 <;> rw [h1] at hb <;> simp only [cond, Tr.get, ← hb]
        · exact hr
        · exact hl
      · cases h1 : Nat.beq (i % 2) 0 <;> cases h2 : Nat.beq (k % 2) 0 <;> rw [h1, h2] at hb <;> simp_all [Tr.get]

theorem Tr.get_put_eq {α : Type} : ∀ (d : Nat) (t : Tr α) (i : Nat) (x : α), i + 1 < 2 ^ d → (t.put d i x).get i = some x
  | 0, _, i, _, h => by simp at h
  | d + 1, .e, 0, x, h => rfl
  | d + 1, .e, i + 1, x, h => by
    have ih := Tr.get_put_eq d (Tr.e : Tr α) (i / 2) x (by rw [Nat.pow_succ] at h; omega)
    simp only [Tr.put]
    cases h1 : Nat.beq (i % 2) 0 <;> simp only [cond, Tr.get, h1] <;> exact ih
  | d + 1, .n l v r, 0, x, h => rfl
  | d + 1, .n l v r, i + 1, x, h => by
    have hl := Tr.get_put_eq d l (i / 2) x (by rw [Nat.pow_succ] at h; omega)
    have hr := Tr.get_put_eq d r (i / 2) x (by rw [Nat.pow_succ] at h; omega)
    simp only [Tr.put]
    cases h1 : Nat.beq (i % 2) 0 <;> simp only [cond, Tr.get, h1]
    · exact hr
    · exact hl

theorem Tr.get_set_ne {α : Type} (t : Tr α) {i k : Nat} (x : α) (h : k ≠ i) : (t.set i x).get k = t.get k := Tr.get_put_ne _ t i k x h
theorem Tr.get_set_eq {α : Type} (t : Tr α) (i : Nat) (x : α) : (t.set i x).get i = some x :=
  Tr.get_put_eq _ t i x (Nat.lt_two_pow_self)

theorem lget_eq {α : Type} : ∀ (l : List α) (i : Nat), lget l i = l[i]?
  | [], _ => by simp [lget]
  | x :: xs, 0 => rfl
  | x :: xs, i + 1 => by simp only [lget, List.getElem?_cons_succ]; exact lget_eq xs i

theorem lcut_spec {α : Type} : ∀ (l : List α) (i n : Nat) (r : List α), lcut l i n = some r → r.length = n ∧ i + n ≤ l.length ∧ ∀ j, j < n → r[j]? = l[i + j]?
  | _, 0, 0, r, h => by simp [lcut] at h; subst h; simp
  | [], 0, n + 1, r, h => by simp [lcut] at h
  | x :: xs, 0, n + 1, r, h => by
    simp only [lcut, Option.map_eq_some_iff] at h
    obtain ⟨r', h', rfl⟩ := h
    obtain ⟨h1, h2, h3⟩ := lcut_spec xs 0 n r' h'
    refine ⟨by simp [h1], by simp; omega, fun j hj => ?_⟩
    cases j with
    | zero => simp
    | succ j => have := h3 j (by omega); simpa using this
  | [], i + 1, n, r, h => by simp [lcut] at h
  | x :: xs, i + 1, n, r, h => by
    simp only [lcut] at h
    obtain ⟨h1, h2, h3⟩ := lcut_spec xs i n r h
    refine ⟨h1, by simp; omega, fun j hj => ?_⟩
    rw [h3 j hj, show i + 1 + j = (i + j) + 1 by omega, List.getElem?_cons_succ]

theorem lput_spec {α : Type} : ∀ (l : List α) (i : Nat) (ys r : List α), lput l i ys = some r → r.length = l.length ∧ i + ys.length ≤ l.length ∧ (∀ j, j < ys.length → r[i + j]? = ys[j]?) ∧ ∀ j, (j < i ∨ i + ys.length ≤ j) → r[j]? = l[j]?
  | xs, 0, [], r, h => by simp [lput] at h; subst h; simp
  | [], 0, y :: ys, r, h => by simp [lput] at h
  | x :: xs, 0, y :: ys, r, h => by
    simp only [lput, Option.map_eq_some_iff] at h
    obtain ⟨r', h', rfl⟩ := h
    obtain ⟨h1, h2, h3, h4⟩ := lput_spec xs 0 ys r' h'
    refine ⟨by simp [h1], by simp at h2 ⊢; omega, fun j hj => ?_, fun j hj => ?_⟩
    · cases j with
      | zero => simp
      | succ j => have := h3 j (by simpa using hj); simpa using this
    · cases j with
      | zero => simp at hj
      | succ j => have := h4 j (by simp at hj ⊢; omega); simpa using this
  | [], i + 1, ys, r, h => by simp [lput] at h
  | x :: xs, i + 1, ys, r, h => by
    simp only [lput, Option.map_eq_some_iff] at h
    obtain ⟨r', h', rfl⟩ := h
    obtain ⟨h1, h2, h3, h4⟩ := lput_spec xs i ys r' h'
    refine ⟨by simp [h1], by simp; omega, fun j hj => ?_, fun j hj => ?_⟩
    · rw [show i + 1 + j = (i + j) + 1 by omega, List.getElem?_cons_succ]; exact h3 j hj
    · cases j with
      | zero => simp
      | succ j => have := h4 j (by omega); simpa using this

/-! ### values -/
/-- Which block of the machine's stands for a block of the evaluator's, and by how much it is shifted; and how long the machine's blocks are that hold slices of untold capacity. -/
structure Inj where
  m : Nat → Option (Nat × Nat)
  len : Nat → Option Nat

instance : CoeFun Inj (fun _ => Nat → Option (Nat × Nat)) := ⟨Inj.m⟩

def AddrR (j : Inj) (a a' : Addr) : Prop := a.spot = none ∧ a'.spot = none ∧ ∃ c s, j a.block = some (c, s) ∧ a'.block = c ∧ a'.off = a.off + s

inductive All2 {α β : Type} (R : α → β → Prop) : List α → List β → Prop where
  | nil : All2 R [] []
  | cons {x y xs ys} : R x y → All2 R xs ys → All2 R (x :: xs) (y :: ys)

theorem All2.length {α β : Type} {R : α → β → Prop} : ∀ {xs : List α} {ys : List β}, All2 R xs ys → ys.length = xs.length
  | _, _, .nil => rfl
  | _, _, .cons _ h => by simp [h.length]

theorem All2.at_ {α β : Type} {R : α → β → Prop} : ∀ {xs : List α} {ys : List β}, All2 R xs ys → ∀ (i : Nat) (x : α), xs[i]? = some x → ∃ y, ys[i]? = some y ∧ R x y
  | _, _, .nil, i, x, h => by simp at h
  | _, _, .cons (y := y) hr _, 0, x, h => by simp at h; subst h; exact ⟨y, by simp, hr⟩
  | _, _, .cons _ h', i + 1, x, h => by simp at h; obtain ⟨y, hy, hr⟩ := h'.at_ i x h; exact ⟨y, by simpa using hy, hr⟩

theorem All2.of {α β : Type} {R : α → β → Prop} : ∀ {xs : List α} {ys : List β}, ys.length = xs.length → (∀ (i : Nat) (x : α) (y : β), xs[i]? = some x → ys[i]? = some y → R x y) → All2 R xs ys
  | [], [], _, _ => .nil
  | [], _ :: _, h, _ => by simp at h
  | _ :: _, [], h, _ => by simp at h
  | x :: xs, y :: ys, h, hr => .cons (hr 0 x y rfl rfl) (All2.of (by simpa using h) fun i x y hx hy => hr (i + 1) x y (by simpa using hx) (by simpa using hy))

theorem All2.mono {α β : Type} {R S : α → β → Prop} (hm : ∀ x y, R x y → S x y) : ∀ {xs : List α} {ys : List β}, All2 R xs ys → All2 S xs ys
  | _, _, .nil => .nil
  | _, _, .cons h t => .cons (hm _ _ h) (t.mono hm)

theorem All2.append {α β : Type} {R : α → β → Prop} : ∀ {xs xs' : List α} {ys ys' : List β}, All2 R xs ys → All2 R xs' ys' → All2 R (xs ++ xs') (ys ++ ys')
  | _, _, _, _, .nil, h => h
  | _, _, _, _, .cons h t, h' => .cons h (t.append h')

theorem All2.map {α β γ δ : Type} {R : α → β → Prop} {S : γ → δ → Prop} {f : α → γ} {g : β → δ} (hm : ∀ x y, R x y → S (f x) (g y)) : ∀ {xs : List α} {ys : List β}, All2 R xs ys → All2 S (xs.map f) (ys.map g)
  | _, _, .nil => .nil
  | _, _, .cons h t => .cons (hm _ _ h) (t.map hm)

theorem All2.refl {α : Type} {R : α → α → Prop} : ∀ {xs : List α}, (∀ x ∈ xs, R x x) → All2 R xs xs
  | [], _ => .nil
  | x :: xs, h => .cons (h x (by simp)) (All2.refl fun y hy => h y (by simp [hy]))

/-- A capacity that isn't told: the machine's block has room for it. -/
def CapR (j : Inj) (a' : Addr) (n c c' : Nat) : Prop := n ≤ c' ∧ ∃ es l, c = unk + es ∧ j.len a'.block = some l ∧ a'.off + c' * es ≤ l

inductive SR (j : Inj) : Value → Value → Prop where
  | bool (b : Bool) : SR j (.bool b) (.bool b)
  | int (k : IntKind) (n : Int) : SR j (.int k n) (.int k n)
  | str (s : ByteArray) : SR j (.string s) (.string s)
  | nilptr : SR j (.pointer none) (.pointer none)
  | ptr {a a' : Addr} (h : AddrR j a a') : SR j (.pointer (some a)) (.pointer (some a'))
  | nilslice (a' : Option Addr) (n c : Nat) (h : c < unk) (h0 : a' = none ∨ (n = 0 ∧ c = 0)) : SR j (.slice none n c) (.slice a' n c)
  | slice {a a' : Addr} {n c c' : Nat} (h : AddrR j a a') (hc : (c = c' ∧ c < unk) ∨ CapR j a' n c c') : SR j (.slice (some a) n c) (.slice (some a') n c')
  | func {fn : Fn} {cs cs' : List Value} (h : All2 (fun v v' => ∃ a a', v = .pointer (some a) ∧ v' = .pointer (some a') ∧ AddrR j a a') cs cs') : SR j (.func fn #[] ⟨cs⟩) (.func fn #[] ⟨cs'⟩)
  | nilfunc : SR j .nilFunc .nilFunc
  | niliface : SR j .nilIface .nilIface
  | nilmap : SR j (.map none) (.map none)

inductive AGR (j : Inj) : Value → Value → Prop where
  | one {v v' : Value} (h : SR j v v') : AGR j v v'
  | agg {cs cs' : List Value} (h : All2 (SR j) cs cs') : AGR j (.agg ⟨cs⟩) (.agg ⟨cs'⟩)

inductive UR (j : Inj) : Value → Value → Prop where
  | any (v' : Value) : UR j undef v'
  | val {v v' : Value} (h : AGR j v v') : UR j v v'

inductive VR (j : Inj) : Value → Value → Prop where
  | one {v v' : Value} (h : UR j v v') : VR j v v'
  | tup {vs vs' : List Value} (h : All2 (UR j) vs vs') : VR j (.tuple ⟨vs⟩) (.tuple ⟨vs'⟩)
  | skip : VR j skipV undef

/-- j' knows what j knows. -/
structure Sub (j j' : Inj) : Prop where
  m : ∀ b p, j b = some p → j' b = some p
  len : ∀ c l, j.len c = some l → j'.len c = some l

instance {j j' : Inj} : CoeFun (Sub j j') (fun _ => ∀ b p, j b = some p → j' b = some p) := ⟨Sub.m⟩

theorem Sub.refl (j : Inj) : Sub j j := ⟨fun _ _ h => h, fun _ _ h => h⟩
theorem Sub.trans {a b c : Inj} (h : Sub a b) (k : Sub b c) : Sub a c := ⟨fun x p hp => k x p (h x p hp), fun x p hp => k.len x p (h.len x p hp)⟩

theorem AddrR.mono {j j' : Inj} (h : Sub j j') {a a' : Addr} (r : AddrR j a a') : AddrR j' a a' := by
  obtain ⟨h1, h2, c, s, h3, h4⟩ := r
  exact ⟨h1, h2, c, s, h _ _ h3, h4⟩

theorem CapR.mono {j j' : Inj} (h : Sub j j') {a' : Addr} {n c c' : Nat} (r : CapR j a' n c c') : CapR j' a' n c c' := by
  obtain ⟨h1, es, l, h2, h3, h4⟩ := r
  exact ⟨h1, es, l, h2, h.len _ _ h3, h4⟩

theorem SR.mono {j j' : Inj} (h : Sub j j') {v v' : Value} (r : SR j v v') : SR j' v v' := by
  cases r with
  | bool => constructor
  | int => constructor
  | str => constructor
  | nilptr => constructor
  | ptr a => exact .ptr (a.mono h)
  | nilslice a' n c hc h0 => exact .nilslice a' n c hc h0
  | slice a hc => exact .slice (a.mono h) (hc.imp id (·.mono h))
  | func a => exact .func (a.mono fun _ _ ⟨x, y, h1, h2, h3⟩ => ⟨x, y, h1, h2, h3.mono h⟩)
  | nilfunc => constructor
  | niliface => constructor
  | nilmap => constructor

theorem AGR.mono {j j' : Inj} (h : Sub j j') {v v' : Value} (r : AGR j v v') : AGR j' v v' := by
  cases r with
  | one r => exact .one (r.mono h)
  | agg r => exact .agg (r.mono fun _ _ r => r.mono h)

theorem UR.mono {j j' : Inj} (h : Sub j j') {v v' : Value} (r : UR j v v') : UR j' v v' := by
  cases r with
  | any => exact .any _
  | val r => exact .val (r.mono h)

theorem VR.mono {j j' : Inj} (h : Sub j j') {v v' : Value} (r : VR j v v') : VR j' v v' := by
  cases r with
  | one r => exact .one (r.mono h)
  | tup r => exact .tup (r.mono fun _ _ r => r.mono h)
  | skip => exact .skip

theorem VR.undef {j : Inj} (v : Value) : VR j undef v := .one (.any v)

theorem VR.agr {j : Inj} {v v' : Value} (h : VR j v v') (hv : ∀ vs, v ≠ .tuple vs) (hs : v ≠ skipV := by simp [skipV]) : AGR j v v' := by
  cases h with
  | one h => cases h with
    | any => exact absurd rfl (hv #[])
    | val h => exact h
  | tup h => exact absurd rfl (hv _)
  | skip => exact absurd rfl hs

theorem AGR.sr {j : Inj} {v v' : Value} (h : AGR j v v') (hv : ∀ vs, v ≠ .agg vs) : SR j v v' := by
  cases h with
  | one h => exact h
  | agg h => exact absurd rfl (hv _)

theorem VR.sr {j : Inj} {v v' : Value} (h : VR j v v') (h1 : ∀ vs, v ≠ .tuple vs) (h2 : ∀ vs, v ≠ .agg vs) (hs : v ≠ skipV := by simp [skipV]) : SR j v v' := (h.agr h1 hs).sr h2

theorem VR.of {j : Inj} {v v' : Value} (h : SR j v v') : VR j v v' := .one (.val (.one h))
theorem VR.ofA {j : Inj} {v v' : Value} (h : AGR j v v') : VR j v v' := .one (.val h)

/-- The cells of related values. -/
theorem VR.vcells {j : Inj} {v v' : Value} (h : VR j v v') {cs : List Value} (hc : Vae.vcells v = some cs) : ∃ cs', v'.cells = ⟨cs'⟩ ∧ All2 (SR j) cs cs' := by
  cases v with
  | tuple vs => simp [Vae.vcells] at hc
  | chan vs => simp [Vae.vcells] at hc
  | agg a =>
    have := h.agr (by simp)
    cases this with
    | one h' => cases h'
    | agg h' => simp [Vae.vcells] at hc; subst hc; exact ⟨_, rfl, h'⟩
  | _ =>
    have hs := h.sr (by simp) (by simp)
    simp [Vae.vcells] at hc
    subst hc
    refine ⟨[v'], ?_, .cons hs .nil⟩
    cases hs <;> rfl

theorem SR.oneCell {j : Inj} {v v' : Value} (h : SR j v v') : v'.oneCell' = true := by cases h <;> rfl

theorem SR.oneCells {j : Inj} {cs cs' : List Value} (h : All2 (SR j) cs cs') : ∀ v ∈ cs', v.oneCell' = true := by
  intro v hv
  obtain ⟨i, hi⟩ := List.getElem?_of_mem hv
  have hl := h.length
  have hlt : i < cs.length := by have := (List.getElem?_eq_some_iff.1 hi).1; omega
  obtain ⟨y, hy, hr⟩ := h.at_ i cs[i] (by simp [hlt])
  rw [hi] at hy
  injection hy with hy
  subst hy
  exact hr.oneCell

/-! ### the world -/
/-- What doesn't change in a run: the variables' count, the base's size, what it holds, and where the machine's own blocks of this run begin. -/
structure Cx where
  ng : Nat
  n : Nat
  ro : Nat → Nat → Option Value
  lo : Nat

def AH.of (h : AH) (x : Cx) : Prop := h.ng = x.ng ∧ h.n = x.n ∧ h.ro = x.ro

theorem AH.of_app {h : AH} {x : Cx} (hx : h.of x) (e : Eff) : (h.app e).of x := by cases e <;> exact hx

structure Rel (x : Cx) (j : Inj) (B : Nat → Option AO) (w : World) : Prop where
  glob : ∀ g, g < x.ng → j g = some (g, 0)
  base : ∀ b i v, b < x.n → x.ro b i = some v → ∃ c s v', j b = some (c, s) ∧ w.cell? ⟨c, i + s, none⟩ = some v' ∧ SR j v v'
  blow : ∀ b c s, b < x.n → j b = some (c, s) → c < x.lo
  cells : ∀ k c s cs, j (x.n + k) = some (c, s) → B k = some (.cells cs) → ∃ cur t, w.heap[c]? = some (.cells cur t (0, 0)) ∧ ∀ (i : Nat) (v : Value), cs[i]? = some v → ∃ v', cur[i + s]? = some v' ∧ SR j v v'
  excl : ∀ k1 k2 c s1 s2, j (x.n + k1) = some (c, s1) → j (x.n + k2) = some (c, s2) → k1 ≠ k2 → B k1 = some .dead ∨ B k2 = some .dead
  low : ∀ k c s, j (x.n + k) = some (c, s) → x.lo ≤ c ∧ c < w.heap.size
  room : x.lo ≤ w.heap.size
  lens : ∀ c l, j.len c = some l → ∃ cur t, w.heap[c]? = some (.cells cur t (0, 0)) ∧ cur.size = l

/-- The streams are as they were and no block has gone. -/
structure Same (w w' : World) : Prop where
  os : w'.os = w.os
  tape : w'.tape = w.tape
  output : w'.output = w.output
  size : w.heap.size ≤ w'.heap.size

theorem Same.refl (w : World) : Same w w := ⟨rfl, rfl, rfl, Nat.le_refl _⟩
theorem Same.trans {a b c : World} (h : Same a b) (k : Same b c) : Same a c := ⟨k.os.trans h.os, k.tape.trans h.tape, k.output.trans h.output, Nat.le_trans h.size k.size⟩

/-- What a run may have done to what was there: only the new blocks from number m on (below sz) may have been written. -/
structure Ext (x : Cx) (j : Inj) (sz m : Nat) (w : World) (j' : Inj) (sz' : Nat) (w' : World) : Prop where
  same : Same w w'
  sub : Sub j j'
  old : ∀ b, b < x.n + sz → j' b = j b
  dom : ∀ b p, j' b = some p → j b = some p ∨ (x.n + sz ≤ b ∧ b < x.n + sz')
  keep : ∀ c, c < w.heap.size → (∀ k s, m ≤ k → k < sz → j (x.n + k) ≠ some (c, s)) → w'.heap[c]? = w.heap[c]?
  fresh : ∀ k c s, sz ≤ k → k < sz' → j' (x.n + k) = some (c, s) → w.heap.size ≤ c ∨ ∃ k0 s0, m ≤ k0 ∧ k0 < sz ∧ j (x.n + k0) = some (c, s0)

theorem Ext.refl (x : Cx) (j : Inj) (sz m : Nat) (w : World) : Ext x j sz m w j sz w :=
  ⟨Same.refl w, Sub.refl j, fun _ _ => rfl, fun _ _ h => .inl h, fun _ _ _ => rfl, fun _ _ _ h1 h2 => absurd h2 (by omega)⟩

/-- A world of the same heap. -/
theorem Ext.draw (x : Cx) (j : Inj) (sz m : Nat) {w w' : World} (h : Same w w') (hh : w'.heap = w.heap) : Ext x j sz m w j sz w' :=
  ⟨h, Sub.refl j, fun _ _ => rfl, fun _ _ h => .inl h, fun _ _ _ => by rw [hh], fun _ _ _ h1 h2 => absurd h2 (by omega)⟩

theorem Ext.mono {x : Cx} {j j' : Inj} {sz m m' sz' : Nat} {w w' : World} (h : Ext x j sz m w j' sz' w') (hm : m' ≤ m) : Ext x j sz m' w j' sz' w' :=
  ⟨h.same, h.sub, h.old, h.dom, fun c hc hk => h.keep c hc fun k s h1 h2 => hk k s (by omega) h2,
   fun k c s h1 h2 h3 => (h.fresh k c s h1 h2 h3).imp id fun ⟨k0, s0, a, b, c⟩ => ⟨k0, s0, by omega, b, c⟩⟩

theorem Ext.trans {x : Cx} {j j1 j2 : Inj} {sz sz1 sz2 m1 m2 : Nat} {w w1 w2 : World} (hs : sz ≤ sz1) (hs1 : sz1 ≤ sz2) (h : Ext x j sz m1 w j1 sz1 w1) (k : Ext x j1 sz1 m2 w1 j2 sz2 w2) :
    Ext x j sz (Nat.min m1 m2) w j2 sz2 w2 := by
  have hmin1 : Nat.min m1 m2 ≤ m1 := Nat.min_le_left _ _
  have hmin2 : Nat.min m1 m2 ≤ m2 := Nat.min_le_right _ _
  refine ⟨h.same.trans k.same, h.sub.trans k.sub, fun b hb => (k.old b (by omega)).trans (h.old b hb), fun b p hb => ?_, fun c hc hk => ?_, fun i c s h1 h2 h3 => ?_⟩
  · rcases k.dom b p hb with hb | ⟨h1, h2⟩
    · rcases h.dom b p hb with hb | ⟨h1, h2⟩
      · exact .inl hb
      · exact .inr ⟨h1, by omega⟩
    · exact .inr ⟨by omega, h2⟩
  · have e1 := h.keep c hc fun i s h1 h2 => hk i s (by omega) h2
    refine (k.keep c (Nat.lt_of_lt_of_le hc h.same.size) fun i s h1 h2 h3 => ?_).trans e1
    rcases Nat.lt_or_ge i sz with hi | hi
    · rw [h.old _ (by omega)] at h3
      exact hk i s (by omega) hi h3
    · rcases h.fresh i c s hi h2 h3 with h4 | ⟨k0, s0, h5, h6, h7⟩
      · omega
      · exact hk k0 s0 (by omega) h6 h7
  · rcases Nat.lt_or_ge i sz1 with hi | hi
    · have h3' : j1 (x.n + i) = some (c, s) := by rw [← k.old _ (by omega)]; exact h3
      rcases h.fresh i c s h1 hi h3' with h4 | ⟨k0, s0, h5, h6, h7⟩
      · exact .inl h4
      · exact .inr ⟨k0, s0, by omega, h6, h7⟩
    · rcases k.fresh i c s hi h2 h3 with h4 | ⟨k0, s0, h5, h6, h7⟩
      · exact .inl (Nat.le_trans h.same.size h4)
      · rcases Nat.lt_or_ge k0 sz with hk | hk
        · rw [h.old _ (by omega)] at h7
          exact .inr ⟨k0, s0, by omega, hk, h7⟩
        · rcases h.fresh k0 c s0 hk h6 h7 with h4 | ⟨k1, s1, h8, h9, h10⟩
          · exact .inl h4
          · exact .inr ⟨k1, s1, by omega, h9, h10⟩

theorem cell_of {w : World} {c i : Nat} {cur : Array Value} {t : TypeId} {fr : Nat × Nat} {v : Value} (h : w.heap[c]? = some (.cells cur t fr)) (hv : cur[i]? = some v) : w.cell? ⟨c, i, none⟩ = some v := by
  simp [World.cell?, h, hv]

theorem cell_heap {w w' : World} {a : Addr} (h : w'.heap[a.block]? = w.heap[a.block]?) : w'.cell? a = w.cell? a := by simp [World.cell?, h]

/-- A draw changes nothing. -/
theorem Rel.heap {x : Cx} {j : Inj} {B : Nat → Option AO} {w w' : World} (r : Rel x j B w) (h : w'.heap = w.heap) : Rel x j B w' :=
  ⟨r.glob, fun b i v hb hv => by
      obtain ⟨c, s, v', h1, h2, h3⟩ := r.base b i v hb hv
      exact ⟨c, s, v', h1, by rw [cell_heap (w := w) (by rw [h])]; exact h2, h3⟩,
   r.blow, fun k c s cs h1 h2 => by rw [h]; exact r.cells k c s cs h1 h2, r.excl, fun k c s h1 => by rw [h]; exact r.low k c s h1, by rw [h]; exact r.room, fun c l h1 => by rw [h]; exact r.lens c l h1⟩

def Inj.put (j : Inj) (b : Nat) (p : Nat × Nat) : Inj := ⟨fun i => if i = b then some p else j i, j.len⟩
def Inj.setLen (j : Inj) (c l : Nat) : Inj := ⟨j.m, fun i => if i = c then some l else j.len i⟩
def Bput (B : Nat → Option AO) (k : Nat) (o : AO) : Nat → Option AO := fun i => if i = k then some o else B i

theorem Inj.sub_put {j : Inj} {b : Nat} (p : Nat × Nat) (h : j b = none) : Sub j (j.put b p) := ⟨fun i q hq => by
  unfold Inj.put
  simp only
  split
  · rename_i e; subst e; rw [h] at hq; cases hq
  · exact hq, fun _ _ h => h⟩

theorem Inj.sub_setLen {j : Inj} {c l : Nat} (h : j.len c = none) : Sub j (j.setLen c l) := ⟨fun _ _ h => h, fun i q hq => by
  unfold Inj.setLen
  simp only
  split
  · rename_i e; subst e; rw [h] at hq; cases hq
  · exact hq⟩

/-- The machine's block's length is told. -/
theorem Rel.setLen {x : Cx} {j : Inj} {B : Nat → Option AO} {w : World} (r : Rel x j B w) {c l : Nat} (h : j.len c = none) {cur : Array Value} {t : TypeId} (hw : w.heap[c]? = some (.cells cur t (0, 0))) (hl : cur.size = l) : Rel x (j.setLen c l) B w := by
  have hs := Inj.sub_setLen (l := l) h
  refine ⟨r.glob, fun b i v hb hv => ?_, r.blow, fun k c s cs h1 h2 => ?_, r.excl, r.low, r.room, fun c' l' h1 => ?_⟩
  · obtain ⟨c, s, v', h1, h2, h3⟩ := r.base b i v hb hv
    exact ⟨c, s, v', h1, h2, h3.mono hs⟩
  · obtain ⟨cur, t, h3, h4⟩ := r.cells k c s cs h1 h2
    refine ⟨cur, t, h3, fun i v hv => ?_⟩
    obtain ⟨v', h5, h6⟩ := h4 i v hv
    exact ⟨v', h5, h6.mono hs⟩
  · simp only [Inj.setLen] at h1
    split at h1
    · rename_i e
      subst e
      injection h1 with h1
      exact ⟨cur, t, hw, by rw [hl, h1]⟩
    · exact r.lens c' l' h1

theorem Ext.setLen {x : Cx} {j j' : Inj} {sz m sz' : Nat} {w w' : World} (e : Ext x j sz m w j' sz' w') {c l : Nat} (h : j'.len c = none) : Ext x j sz m w (j'.setLen c l) sz' w' :=
  ⟨e.same, e.sub.trans (Inj.sub_setLen h), e.old, e.dom, e.keep, e.fresh⟩

theorem Rel.len_lt {x : Cx} {j : Inj} {B : Nat → Option AO} {w : World} (r : Rel x j B w) {c l : Nat} (h : j.len c = some l) : c < w.heap.size := by
  obtain ⟨cur, t, h1, _⟩ := r.lens c l h
  exact (Array.getElem?_eq_some_iff.1 h1).1

/-- A new block of the machine for a new block of the evaluator. -/
theorem Rel.alloc {x : Cx} {j : Inj} {B : Nat → Option AO} {w w' : World} (r : Rel x j B w) {k : Nat} (hk : j (x.n + k) = none) {cur : Array Value} {t : TypeId} (hw : w'.heap = w.heap.push (.cells cur t (0, 0)))
    {cs : List Value} (hc : ∀ (i : Nat) (v : Value), cs[i]? = some v → ∃ v', cur[i]? = some v' ∧ SR j v v') (hng : x.ng ≤ x.n) :
    Rel x (j.put (x.n + k) (w.heap.size, 0)) (Bput B k (.cells cs)) w' := by
  have hsub := Inj.sub_put (j := j) (w.heap.size, 0) hk
  have hold : ∀ c, c < w.heap.size → w'.heap[c]? = w.heap[c]? := fun c hc => by rw [hw, Array.getElem?_push, if_neg (by omega)]
  have hne : ∀ i, i ≠ k → (j.put (x.n + k) (w.heap.size, 0)) (x.n + i) = j (x.n + i) := fun i hi => by simp [Inj.put, hi]
  refine ⟨fun g hg => ?_, fun b i v hb hv => ?_, fun b c s hb h => ?_, fun i c s l h1 h2 => ?_, fun k1 k2 c s1 s2 h1 h2 h3 => ?_, fun i c s h => ?_, ?_, fun c l h => ?_⟩
  · simp only [Inj.put]; rw [if_neg (by omega)]; exact r.glob g hg
  · obtain ⟨c, s, v', h1, h2, h3⟩ := r.base b i v hb hv
    refine ⟨c, s, v', hsub _ _ h1, ?_, h3.mono hsub⟩
    have hlt : c < w.heap.size := by
      have := r.blow b c s hb h1
      have := r.room
      omega
    rw [cell_heap (w := w) (hold c hlt)]
    exact h2
  · simp only [Inj.put] at h
    rw [if_neg (by omega)] at h
    exact r.blow b c s hb h
  · by_cases hi : i = k
    · subst hi
      simp [Inj.put] at h1
      obtain ⟨rfl, rfl⟩ := h1
      simp [Bput] at h2
      subst h2
      refine ⟨cur, t, by rw [hw]; simp, fun i v hv => ?_⟩
      obtain ⟨v', h3, h4⟩ := hc i v hv
      exact ⟨v', by simpa using h3, h4.mono hsub⟩
    · rw [hne i hi] at h1
      simp [Bput, hi] at h2
      obtain ⟨cur', t', h3, h4⟩ := r.cells i c s l h1 h2
      refine ⟨cur', t', by rw [hold c (r.low i c s h1).2]; exact h3, fun q v hv => ?_⟩
      obtain ⟨v', h5, h6⟩ := h4 q v hv
      exact ⟨v', h5, h6.mono hsub⟩
  · by_cases e1 : k1 = k
    · subst e1
      rw [hne k2 (Ne.symm h3)] at h2
      simp [Inj.put] at h1
      have := (r.low k2 c s2 h2).2
      omega
    · by_cases e2 : k2 = k
      · subst e2
        rw [hne k1 h3] at h1
        simp [Inj.put] at h2
        have := (r.low k1 c s1 h1).2
        omega
      · rw [hne k1 e1] at h1
        rw [hne k2 e2] at h2
        simp only [Bput, if_neg e1, if_neg e2]
        exact r.excl k1 k2 c s1 s2 h1 h2 h3
  · by_cases hi : i = k
    · subst hi
      simp [Inj.put] at h
      obtain ⟨rfl, rfl⟩ := h
      exact ⟨r.room, by rw [hw]; simp⟩
    · rw [hne i hi] at h
      have := r.low i c s h
      exact ⟨this.1, by rw [hw]; simp; omega⟩
  · rw [hw]; simp; have := r.room; omega
  · obtain ⟨cur', t', h1, h2⟩ := r.lens c l h
    exact ⟨cur', t', by rw [hold c (r.len_lt h)]; exact h1, h2⟩

theorem Ext.alloc {x : Cx} {j : Inj} {w w' : World} {sz : Nat} (m : Nat) (hk : j (x.n + sz) = none) {o : Obj} (hs : Same w w') (hw : w'.heap = w.heap.push o) :
    Ext x j sz m w (j.put (x.n + sz) (w.heap.size, 0)) (sz + 1) w' := by
  refine ⟨hs, Inj.sub_put _ hk, fun b hb => by simp only [Inj.put]; rw [if_neg (by omega)], fun b p hb => ?_, fun c hc _ => by rw [hw, Array.getElem?_push, if_neg (by omega)], fun k c s h1 h2 h3 => ?_⟩
  · simp only [Inj.put] at hb
    split at hb
    · rename_i e; subst e; exact .inr ⟨Nat.le_refl _, by omega⟩
    · exact .inl hb
  · obtain rfl : k = sz := by omega
    simp [Inj.put] at h3
    exact .inl (by omega)

theorem lens_write {w w' : World} {c c' l : Nat} (h : ∃ cur t, w.heap[c']? = some (.cells cur t (0, 0)) ∧ cur.size = l) {cur : Array Value} {t : TypeId} (hw : w'.heap[c]? = some (.cells cur t (0, 0)))
    (hrow : ∀ cur0 t0 f0, w.heap[c]? = some (.cells cur0 t0 f0) → cur.size = cur0.size) (hold : ∀ i, i ≠ c → w'.heap[i]? = w.heap[i]?) : ∃ cur t, w'.heap[c']? = some (.cells cur t (0, 0)) ∧ cur.size = l := by
  obtain ⟨cur0, t0, h1, h2⟩ := h
  by_cases e : c' = c
  · subst e
    exact ⟨cur, t, hw, by rw [hrow _ _ _ h1, h2]⟩
  · exact ⟨cur0, t0, by rw [hold c' e]; exact h1, h2⟩

/-- A block of the evaluator's is written: the machine's block, too. -/
theorem Rel.write {x : Cx} {j : Inj} {B : Nat → Option AO} {w w' : World} (r : Rel x j B w) {k c s : Nat} (hk : j (x.n + k) = some (c, s)) {cs0 : List Value} (hB : B k = some (.cells cs0))
    {cur : Array Value} {t : TypeId} (hw : w'.heap[c]? = some (.cells cur t (0, 0))) (hrow : ∀ cur0 t0 f0, w.heap[c]? = some (.cells cur0 t0 f0) → cur.size = cur0.size) (hold : ∀ i, i ≠ c → w'.heap[i]? = w.heap[i]?) (hsz : w'.heap.size = w.heap.size)
    {cs : List Value} (hc : ∀ (i : Nat) (v : Value), cs[i]? = some v → ∃ v', cur[i + s]? = some v' ∧ SR j v v') :
    Rel x j (Bput B k (.cells cs)) w' := by
  refine ⟨r.glob, fun b i v hb hv => ?_, r.blow, fun i c' s' l h1 h2 => ?_, fun k1 k2 c' s1 s2 h1 h2 h3 => ?_, fun i c' s' h => ?_, by rw [hsz]; exact r.room, fun c' l h => lens_write (r.lens c' l h) hw hrow hold⟩
  · obtain ⟨c', s', v', h1, h2, h3⟩ := r.base b i v hb hv
    refine ⟨c', s', v', h1, ?_, h3⟩
    have hlt : c' ≠ c := by
      have h4 := r.blow b c' s' hb h1
      have h5 := (r.low k c s hk).1
      omega
    rw [cell_heap (w := w) (hold c' hlt)]
    exact h2
  · by_cases hi : i = k
    · subst hi
      rw [hk] at h1
      injection h1 with h1
      injection h1 with h1 h1'
      subst h1 h1'
      simp [Bput] at h2
      subst h2
      exact ⟨cur, t, hw, hc⟩
    · simp [Bput, hi] at h2
      obtain ⟨cur', t', h3, h4⟩ := r.cells i c' s' l h1 h2
      refine ⟨cur', t', ?_, h4⟩
      rw [hold c' ?_]
      · exact h3
      · intro e
        subst e
        rcases r.excl i k c' s' s h1 hk hi with h5 | h5
        · rw [h5] at h2; cases h2
        · rw [h5] at hB; cases hB
  · rcases r.excl k1 k2 c' s1 s2 h1 h2 h3 with h4 | h4
    · refine .inl ?_
      simp only [Bput]
      split
      · rename_i e; subst e; rw [h4] at hB; cases hB
      · exact h4
    · refine .inr ?_
      simp only [Bput]
      split
      · rename_i e; subst e; rw [h4] at hB; cases hB
      · exact h4
  · rw [hsz]; exact r.low i c' s' h

theorem Ext.write {x : Cx} {j : Inj} {w w' : World} {sz m k c s : Nat} (hk : j (x.n + k) = some (c, s)) (hkm : m ≤ k) (hks : k < sz) (hs : Same w w') (hold : ∀ i, i ≠ c → w'.heap[i]? = w.heap[i]?) :
    Ext x j sz m w j sz w' :=
  ⟨hs, Sub.refl j, fun _ _ => rfl, fun _ _ h => .inl h, fun i _ hi => hold i fun e => by subst e; exact hi k s hkm hks hk, fun _ _ _ h1 h2 => absurd h2 (by omega)⟩

/-- A block goes: nothing is asked of it any more. -/
theorem Rel.kill {x : Cx} {j : Inj} {B : Nat → Option AO} {w : World} (r : Rel x j B w) (k : Nat) : Rel x j (Bput B k .dead) w := by
  refine ⟨r.glob, r.base, r.blow, fun i c s l h1 h2 => ?_, fun k1 k2 c s1 s2 h1 h2 h3 => ?_, r.low, r.room, r.lens⟩
  · by_cases hi : i = k
    · simp [Bput, hi] at h2
    · simp [Bput, hi] at h2; exact r.cells i c s l h1 h2
  · rcases r.excl k1 k2 c s1 s2 h1 h2 h3 with h4 | h4
    · refine .inl ?_
      simp only [Bput]
      split
      · rfl
      · exact h4
    · refine .inr ?_
      simp only [Bput]
      split
      · rfl
      · exact h4

/-- A new block of the evaluator for the machine's block of one that has gone. -/
theorem Rel.take {x : Cx} {j : Inj} {B : Nat → Option AO} {w w' : World} (r : Rel x j B w) {k k' c s s' : Nat} (hk : j (x.n + k) = some (c, s)) {cs0 : List Value} (hB : B k = some (.cells cs0)) (hk' : j (x.n + k') = none)
    {cur : Array Value} {t : TypeId} (hw : w'.heap[c]? = some (.cells cur t (0, 0))) (hrow : ∀ cur0 t0 f0, w.heap[c]? = some (.cells cur0 t0 f0) → cur.size = cur0.size) (hold : ∀ i, i ≠ c → w'.heap[i]? = w.heap[i]?) (hsz : w'.heap.size = w.heap.size)
    {cs : List Value} (hc : ∀ (i : Nat) (v : Value), cs[i]? = some v → ∃ v', cur[i + s']? = some v' ∧ SR j v v') (hng : x.ng ≤ x.n) :
    Rel x (j.put (x.n + k') (c, s')) (Bput (Bput B k .dead) k' (.cells cs)) w' := by
  have hsub := Inj.sub_put (j := j) (c, s') hk'
  have hkk : k ≠ k' := fun e => by rw [e, hk'] at hk; cases hk
  have hne : ∀ i, i ≠ k' → (j.put (x.n + k') (c, s')) (x.n + i) = j (x.n + i) := fun i hi => by simp [Inj.put, hi]
  have hlow := r.low k c s hk
  refine ⟨fun g hg => ?_, fun b i v hb hv => ?_, fun b c' s1 hb h => ?_, fun i c' s1 l h1 h2 => ?_, fun k1 k2 c' s1 s2 h1 h2 h3 => ?_, fun i c' s1 h => ?_, by rw [hsz]; exact r.room, fun c' l h => lens_write (r.lens c' l h) hw hrow hold⟩
  · simp only [Inj.put]; rw [if_neg (by omega)]; exact r.glob g hg
  · obtain ⟨c', s1, v', h1, h2, h3⟩ := r.base b i v hb hv
    refine ⟨c', s1, v', hsub _ _ h1, ?_, h3.mono hsub⟩
    have hlt : c' ≠ c := by
      have h4 := r.blow b c' s1 hb h1
      omega
    rw [cell_heap (w := w) (hold c' hlt)]
    exact h2
  · simp only [Inj.put] at h
    rw [if_neg (by omega)] at h
    exact r.blow b c' s1 hb h
  · by_cases hi : i = k'
    · subst hi
      simp [Inj.put] at h1
      obtain ⟨rfl, rfl⟩ := h1
      simp [Bput] at h2
      subst h2
      refine ⟨cur, t, hw, fun q v hv => ?_⟩
      obtain ⟨v', h5, h6⟩ := hc q v hv
      exact ⟨v', h5, h6.mono hsub⟩
    · rw [hne i hi] at h1
      simp only [Bput, if_neg hi] at h2
      by_cases hik : i = k
      · simp [hik] at h2
      · rw [if_neg hik] at h2
        obtain ⟨cur', t', h3, h4⟩ := r.cells i c' s1 l h1 h2
        refine ⟨cur', t', ?_, fun q v hv => ?_⟩
        · rw [hold c' ?_]
          · exact h3
          · intro e
            subst e
            rcases r.excl i k c' s1 s h1 hk hik with h5 | h5
            · rw [h5] at h2; cases h2
            · rw [h5] at hB; cases hB
        · obtain ⟨v', h5, h6⟩ := h4 q v hv
          exact ⟨v', h5, h6.mono hsub⟩
  · have deadk : (Bput (Bput B k .dead) k' (.cells cs)) k = some .dead := by simp [Bput, hkk]
    have one : ∀ i si, i ≠ k' → j (x.n + i) = some (c, si) → (Bput (Bput B k .dead) k' (.cells cs)) i = some .dead := fun i si hi h => by
      by_cases hik : i = k
      · rw [hik]; exact deadk
      · rcases r.excl i k c si s h hk hik with h5 | h5
        · simp [Bput, hi, hik, h5]
        · rw [h5] at hB; cases hB
    by_cases e1 : k1 = k'
    · subst e1
      rw [hne k2 (Ne.symm h3)] at h2
      simp [Inj.put] at h1
      obtain ⟨rfl, rfl⟩ := h1
      exact .inr (one k2 s2 (Ne.symm h3) h2)
    · by_cases e2 : k2 = k'
      · subst e2
        rw [hne k1 h3] at h1
        simp [Inj.put] at h2
        obtain ⟨rfl, rfl⟩ := h2
        exact .inl (one k1 s1 h3 h1)
      · rw [hne k1 e1] at h1
        rw [hne k2 e2] at h2
        simp only [Bput, if_neg e1, if_neg e2]
        rcases r.excl k1 k2 c' s1 s2 h1 h2 h3 with h4 | h4
        · refine .inl ?_
          split
          · rfl
          · exact h4
        · refine .inr ?_
          split
          · rfl
          · exact h4
  · by_cases hi : i = k'
    · subst hi
      simp [Inj.put] at h
      obtain ⟨rfl, rfl⟩ := h
      exact ⟨hlow.1, by rw [hsz]; exact hlow.2⟩
    · rw [hne i hi] at h
      rw [hsz]
      exact r.low i c' s1 h

theorem Ext.take {x : Cx} {j : Inj} {w w' : World} {sz m k c s s' : Nat} (hk : j (x.n + k) = some (c, s)) (hkm : m ≤ k) (hks : k < sz) (hk' : j (x.n + sz) = none) (hs : Same w w') (hold : ∀ i, i ≠ c → w'.heap[i]? = w.heap[i]?) :
    Ext x j sz m w (j.put (x.n + sz) (c, s')) (sz + 1) w' := by
  refine ⟨hs, Inj.sub_put _ hk', fun b hb => by simp only [Inj.put]; rw [if_neg (by omega)], fun b p hb => ?_, fun i _ hi => hold i fun e => by subst e; exact hi k s hkm hks hk, fun i c' s1 h1 h2 h3 => ?_⟩
  · simp only [Inj.put] at hb
    split at hb
    · rename_i e; subst e; exact .inr ⟨Nat.le_refl _, by omega⟩
    · exact .inl hb
  · obtain rfl : i = sz := by omega
    simp [Inj.put] at h3
    obtain ⟨rfl, rfl⟩ := h3
    exact .inr ⟨k, s, hkm, hks, hk⟩

end Go.Vae
end

section
set_option linter.unusedVariables false
set_option linter.unusedSimpArgs false
namespace Go.Vae
open Go Go.RowKit

/-! ### the tables are the program's -/
def kindOK (P : Program) (d : TypeDesc) : TK → Prop
  | .other => True
  | .int k => d = .int k
  | .bool => d = .bool
  | .string => d = .string
  | .slice e => d = .slice e
  | .array n e => d = .array n e
  | .struct fs => ∃ fields : Array Field, d = .struct fields ∧ fields.toList.map (fun f => (f.type, f.offset)) = fs ∧ ∀ f ∈ fields.toList, (P.info? f.type).isSome = true

structure TyOK (P : Program) (t : TypeId) (ti : TI) : Prop where
  info : ∃ i z, P.info? t = some i ∧ i.size = ti.size ∧ i.bytes = ti.bytes ∧ i.zero = some z ∧ z.cells = ⟨ti.zero⟩
  zlen : ti.zero.length = ti.size
  zok : ti.zero.all cOK = true ∧ ti.zero.all Value.oneCell' = true
  desc : ∃ d, P.underlying t = some d ∧ (match d with | .struct _ | .array _ _ => true | _ => false) = ti.agg ∧ kindOK P d ti.k
  flat : ti.flat = true → ∀ (a b : List Value) (r : Bool) (w : World), likeZ ti.zero a = true → likeZ ti.zero b = true → cellsEq a b = some r →
    (Op.equal t (.agg ⟨a⟩) (.agg ⟨b⟩)).run P w = .ok r w ∧ ∀ op x y, (eqGuard op t x y (.agg ⟨a⟩) (.agg ⟨b⟩)).run P w = .ok () w

structure FnOK (P : Program) (f : FuncId) (fi : FI) : Prop where
  enters : Go.Proofs.Enters P f
  small : fi.nt ≤ bigger
  draws : codeOK fi.code = true
  func : ∃ F, P.funcs[f]? = some F ∧ F.body = some fi.code ∧ F.ntmps = fi.nt ∧ F.results.toList = fi.res

structure TabsOK (P : Program) (T : Tabs) : Prop where
  ty : ∀ t ti, T.ty t = some ti → TyOK P t ti
  fn : ∀ f fi, T.fn f = some fi → FnOK P f fi
  mixed : P.follows .mixedOrders = true
  known : ∀ f v, T.known f = some v → (∀ j, VR j v v) ∧ Go.Proofs.Enters P f ∧ ∀ W, Calls P f ⟨[]⟩ W fun e w' => e = .returned v ∧ Below W.heap.size W w'

variable {P : Program} {T : Tabs} {x : Cx} {j : Inj} {B : Nat → Option AO} {w : World}

theorem TyOK.sizeOf {t : TypeId} {ti : TI} (h : TyOK P t ti) (w : World) : (sizeOf t).run P w = .ok ti.size w := by
  obtain ⟨i, z, h1, h2, _⟩ := h.info
  simp [Go.sizeOf, typeInfo, h1, h2]

theorem TyOK.typeInfo {t : TypeId} {ti : TI} (h : TyOK P t ti) (w : World) : ∃ i, (Go.typeInfo t).run P w = .ok i w ∧ P.info? t = some i ∧ i.size = ti.size ∧ i.bytes = ti.bytes := by
  obtain ⟨i, z, h1, h2, h3, _⟩ := h.info
  exact ⟨i, by simp [Go.typeInfo, h1], h1, h2, h3⟩

theorem TyOK.zeroValue {t : TypeId} {ti : TI} (h : TyOK P t ti) (w : World) : ∃ z, (zeroValue t).run P w = .ok z w ∧ z.cells = ⟨ti.zero⟩ := by
  obtain ⟨i, z, h1, h2, h3, h4, h5⟩ := h.info
  exact ⟨z, by simp [Go.zeroValue, Go.typeInfo, h1, h4], h5⟩

theorem TyOK.isAgg {t : TypeId} {ti : TI} (h : TyOK P t ti) (w : World) : (isAgg t).run P w = .ok ti.agg w := by
  obtain ⟨d, h1, h2, _⟩ := h.desc
  have hu := run_underlying h1 w
  cases d <;> simp_all [Go.isAgg] <;> (try subst h2) <;> first | rfl | simp_all

/-! ### frames and operands -/
structure FrR (j : Inj) (nt : Nat) (fr : Fr) (a : Act) : Prop where
  size : a.tmps.size = nt
  at_ : ∀ t v, Tr.get fr t = some v → VR j v (a.tmps.getD t undef)
  defers : a.defers = []

theorem FrR.mono {j' : Inj} {nt : Nat} {fr : Fr} {a : Act} (h : FrR j nt fr a) (hs : Sub j j') : FrR j' nt fr a :=
  ⟨h.size, fun t v hv => (h.at_ t v hv).mono hs, h.defers⟩

theorem unk_pos : (0 : Nat) < unk := by decide

theorem cOK_sr (j : Inj) {v : Value} (h : cOK v = true) (h1 : v.oneCell' = true) : SR j v v := by
  unfold cOK at h
  split at h
  · constructor
  · constructor
  · constructor
  · constructor
  · exact .nilslice none 0 0 unk_pos (.inl rfl)
  · constructor
  · constructor
  · constructor
  · simp [Value.oneCell'] at h1
  · cases h

theorem cOK_vr (j : Inj) {v : Value} (h : cOK v = true) : VR j v v := by
  by_cases h1 : v.oneCell' = true
  · exact .of (cOK_sr j h h1)
  · cases v with
    | agg cs =>
      refine .ofA (.agg (All2.refl fun u hu => ?_))
      have h2 : cs.toList.all (fun | .bool _ | .int _ _ | .string _ | .pointer none | .slice none 0 0 | .nilFunc | .nilIface | .map none => true | _ => false) = true := h
      have h3 := (List.all_eq_true.1 h2) u hu
      split at h3
      · constructor
      · constructor
      · constructor
      · constructor
      · exact .nilslice none 0 0 unk_pos (.inl rfl)
      · constructor
      · constructor
      · constructor
      · cases h3
    | tuple vs => simp [cOK] at h
    | _ => exact absurd rfl h1

theorem TyOK.zsr {t : TypeId} {ti : TI} (h : TyOK P t ti) (j : Inj) : ∀ v ∈ ti.zero, SR j v v := fun v hv =>
  cOK_sr j ((List.all_eq_true.1 h.zok.1) v hv) ((List.all_eq_true.1 h.zok.2) v hv)

theorem FrR.ev {h : AH} (hx : h.of x) (r : Rel x j B w) {nt : Nat} {fr : Fr} {a : Act} (hf : FrR j nt fr a) (o : Operand) : VR j (fr.ev h o) (a.eval o) := by
  cases o with
  | tmp t =>
    simp only [Fr.ev, Act.eval]
    cases ht : Tr.get fr t with
    | none => exact VR.undef _
    | some v => exact hf.at_ t v ht
  | const v =>
    simp only [Fr.ev, Act.eval]
    cases hv : cOK v with
    | false => exact VR.undef _
    | true => exact cOK_vr j hv
  | global g =>
    simp only [Fr.ev, Act.eval]
    cases hg : Nat.blt g h.ng with
    | false => exact VR.undef _
    | true =>
      refine .of (.ptr ⟨rfl, rfl, g, 0, r.glob g ?_, rfl, rfl⟩)
      rw [← hx.1]
      exact Nat.lt_of_lt_of_le (by simpa [Nat.blt_eq] using hg) (Nat.le_refl _)
  | func f => exact .of (.func .nil)

/-! ### what an operation comes to -/
def Bapp (B : Nat → Option AO) (sz : Nat) : Eff → Nat → Option AO
  | .nil => B
  | .new cs => Bput B sz (.cells cs)
  | .set k cs => Bput B k (.cells cs)
  | .grow k cs => Bput (Bput B k .dead) sz (.cells cs)

def esz (sz : Nat) : Eff → Nat
  | .nil => sz
  | .set _ _ => sz
  | .new _ => sz + 1
  | .grow _ _ => sz + 1

theorem AH.app_sz (h : AH) (e : Eff) : (h.app e).sz = esz h.sz e := by cases e <;> rfl

/-- The machine carries the operation out: it answers what the evaluator does, and has the same effect. -/
def Out (P : Program) (x : Cx) (j : Inj) (B : Nat → Option AO) (sz : Nat) (w : World) (s : Sem Next) (v : Value) (e : Eff) : Prop :=
  ∃ n v' w' j', s.run P w = .ok n w' ∧ (n = .value v' ∨ n = .skip ∧ v' = Go.undef) ∧ VR j' v v' ∧ Rel x j' (Bapp B sz e) w' ∧ Ext x j sz e.low w j' (esz sz e) w'

theorem Out.pure {sz : Nat} {s : Sem Next} {v v' : Value} (r : Rel x j B w) (h : s.run P w = .ok (.value v') w) (hv : VR j v v') : Out P x j B sz w s v .nil :=
  ⟨_, v', w, j, h, .inl rfl, hv, r, Ext.refl _ _ _ _ _⟩

theorem Out.new {sz : Nat} {s : Sem Next} {v v' : Value} {w' : World} {cs : List Value} {cur : Array Value} {t : TypeId} (r : Rel x j B w) (hng : x.ng ≤ x.n) (hk : j (x.n + sz) = none)
    (h : s.run P w = .ok (.value v') w') (hs : Same w w') (hw : w'.heap = w.heap.push (.cells cur t (0, 0))) (hc : ∀ (i : Nat) (u : Value), cs[i]? = some u → ∃ u', cur[i]? = some u' ∧ SR j u u')
    (hv : VR (j.put (x.n + sz) (w.heap.size, 0)) v v') : Out P x j B sz w s v (.new cs) :=
  ⟨_, v', w', _, h, .inl rfl, hv, r.alloc hk hw hc hng, Ext.alloc _ hk hs hw⟩

theorem same_push {w : World} {o : Obj} : Same w { w with heap := w.heap.push o } := ⟨rfl, rfl, rfl, by simp⟩

theorem addr_new (j : Inj) (b c : Nat) : AddrR (j.put b (c, 0)) ⟨b, 0, none⟩ ⟨c, 0, none⟩ := ⟨rfl, rfl, c, 0, by simp [Inj.put], rfl, rfl⟩

/-! ### reading -/
theorem AH.cell_rel {h : AH} (hx : h.of x) (r : Rel x j B w) {b off : Nat} (hB : x.n ≤ b → B (b - x.n) = h.blk (b - x.n)) {v : Value} (hv : h.cell b off = some v) {a' : Addr} (ha : AddrR j ⟨b, off, none⟩ a') :
    ∃ v', w.cell? a' = some v' ∧ SR j v v' := by
  obtain ⟨_, hsp, c, s, hj, hb', ho'⟩ := ha
  obtain ⟨c', o', sp⟩ := a'
  simp only at hsp hb' ho' hj
  subst hsp hb' ho'
  unfold AH.cell at hv
  rw [hx.2.1, hx.2.2] at hv
  by_cases hlt : b < x.n
  · have h1 : Nat.blt b x.n = true := by simpa [Nat.blt_eq] using hlt
    rw [h1] at hv
    obtain ⟨c2, s2, v', h2, h3, h4⟩ := r.base b off v hlt hv
    rw [hj] at h2
    injection h2 with h2
    injection h2 with h2 h2'
    subst h2 h2'
    exact ⟨v', h3, h4⟩
  · have h1 : Nat.blt b x.n = false := by
      cases hq : Nat.blt b x.n
      · rfl
      · exact absurd (by simpa [Nat.blt_eq] using hq) hlt
    rw [h1] at hv
    have hb := hB (by omega)
    have hv : (match h.blk (b - x.n) with | some (.cells cs) => lget cs off | _ => none) = some v := hv
    rw [← hb] at hv
    split at hv
    · rename_i cs hcs
      have hj' : j (x.n + (b - x.n)) = some (c', s) := by rw [show x.n + (b - x.n) = b by omega]; exact hj
      obtain ⟨cur, t, h2, h3⟩ := r.cells _ _ _ cs hj' hcs
      rw [lget_eq] at hv
      obtain ⟨v', h4, h5⟩ := h3 off v hv
      exact ⟨v', cell_of h2 h4, h5⟩
    · cases hv

theorem roCells_spec : ∀ (n : Nat) (ro : Nat → Option Value) (off : Nat) (cs : List Value), roCells ro off n = some cs → cs.length = n ∧ ∀ i v, cs[i]? = some v → ro (off + i) = some v
  | 0, ro, off, cs, h => by simp [roCells] at h; subst h; simp
  | n + 1, ro, off, cs, h => by
    simp only [roCells] at h
    split at h
    · rename_i v hv
      simp only [Option.map_eq_some_iff] at h
      obtain ⟨cs', h', rfl⟩ := h
      obtain ⟨h1, h2⟩ := roCells_spec n ro (off + 1) cs' h'
      refine ⟨by simp [h1], fun i u hu => ?_⟩
      cases i with
      | zero => simp at hu; subst hu; simpa using hv
      | succ i => simp at hu; have := h2 i u hu; rwa [show off + 1 + i = off + (i + 1) by omega] at this
    · cases h

/-- Several cells, one behind the other. -/
theorem AH.cut_rel {h : AH} (hx : h.of x) (r : Rel x j B w) {b off n : Nat} (hB : x.n ≤ b → B (b - x.n) = h.blk (b - x.n)) {cs : List Value} (hv : h.cut b off n = some cs) {a' : Addr} (ha : AddrR j ⟨b, off, none⟩ a') :
    cs.length = n ∧ ∃ cs', All2 (SR j) cs cs' ∧ ∀ i v', cs'[i]? = some v' → w.cell? (a'.add i) = some v' := by
  have each : ∀ i v, cs[i]? = some v → h.cell b (off + i) = some v := by
    intro i v hi
    unfold AH.cut at hv
    unfold AH.cell
    cases hq : Nat.blt b h.n with
    | true =>
      rw [hq] at hv
      exact (roCells_spec n _ off cs hv).2 i v hi
    | false =>
      rw [hq] at hv
      have hv : (match h.blk (b - h.n) with | some (.cells cs) => lcut cs off n | _ => none) = some cs := hv
      show (match h.blk (b - h.n) with | some (.cells cs) => lget cs (off + i) | _ => none) = some v
      cases hl : h.blk (b - h.n) with
      | none => rw [hl] at hv; cases hv
      | some o => cases o with
        | dead => rw [hl] at hv; cases hv
        | cells l =>
          rw [hl] at hv
          obtain ⟨h1, h2, h3⟩ := lcut_spec _ _ _ _ hv
          have hil : i < n := by have := (List.getElem?_eq_some_iff.1 hi).1; omega
          show lget l (off + i) = some v
          rw [lget_eq, ← h3 i hil]
          exact hi
  have hlen : cs.length = n := by
    unfold AH.cut at hv
    cases hq : Nat.blt b h.n with
    | true => rw [hq] at hv; exact (roCells_spec n _ off cs hv).1
    | false =>
      rw [hq] at hv
      have hv : (match h.blk (b - h.n) with | some (.cells cs) => lcut cs off n | _ => none) = some cs := hv
      split at hv
      · exact (lcut_spec _ _ _ _ hv).1
      · cases hv
  have haddr : ∀ i, AddrR j ⟨b, off + i, none⟩ (a'.add i) := by
    intro i
    obtain ⟨h1, h2, c, s, h3, h4, h5⟩ := ha
    obtain ⟨c', o', sp⟩ := a'
    have h2 : sp = none := h2
    have h5 : o' = off + s := h5
    subst h2
    rw [Addr.add_lit]
    exact ⟨rfl, rfl, c, s, h3, h4, show o' + i = off + i + s by omega⟩
  have ex : ∀ i : Nat, ∃ v', ∀ v, cs[i]? = some v → w.cell? (a'.add i) = some v' ∧ SR j v v' := by
    intro i
    cases hi : cs[i]? with
    | none => exact ⟨Go.undef, fun v hv => by cases hv⟩
    | some v =>
      obtain ⟨v', h1, h2⟩ := AH.cell_rel hx r hB (each i v hi) (haddr i)
      exact ⟨v', fun u hu => by injection hu with hu; subst hu; exact ⟨h1, h2⟩⟩
  refine ⟨hlen, (List.range n).map fun i => Classical.choose (ex i), ?_, ?_⟩
  · refine All2.of (by simp [hlen]) fun i u u' hu hu' => ?_
    have hil : i < n := by have := (List.getElem?_eq_some_iff.1 hu).1; omega
    simp [hil] at hu'
    subst hu'
    exact (Classical.choose_spec (ex i) u hu).2
  · intro i v' hv'
    have hil : i < n := by have := (List.getElem?_eq_some_iff.1 hv').1; simpa using this
    simp [hil] at hv'
    subst hv'
    have : i < cs.length := by omega
    exact (Classical.choose_spec (ex i) cs[i] (by simp [this])).1

theorem loadT_rel {h : AH} (ht : TabsOK P T) (hx : h.of x) (r : Rel x j B w) {t : TypeId} {b off : Nat} (hB : x.n ≤ b → B (b - x.n) = h.blk (b - x.n)) {v : Value} (hv : loadT T h t b off = some v) {a' : Addr} (ha : AddrR j ⟨b, off, none⟩ a') :
    ∃ v', (loadVar t a').run P w = .ok v' w ∧ VR j v v' := by
  unfold loadT at hv
  split at hv
  · rename_i ti hti
    have hty := ht.ty t ti hti
    have h1 := hty.isAgg w
    have h2 := hty.sizeOf w
    cases hagg : ti.agg with
    | true =>
      rw [hagg] at hv h1
      simp only [cond, Option.map_eq_some_iff] at hv
      obtain ⟨cs, hcut, rfl⟩ := hv
      obtain ⟨h3, cs', h4, h5⟩ := AH.cut_rel hx r hB hcut ha
      have h6 := run_loadCells_list (P := P) w a' cs' h5
      refine ⟨.agg ⟨cs'⟩, ?_, .ofA (.agg h4)⟩
      have h7 : cs'.length = ti.size := by rw [h4.length, h3]
      rw [h7] at h6
      simp [loadVar, h1, h2, h6]
    | false =>
      rw [hagg] at hv h1
      simp only [cond] at hv
      obtain ⟨v', h3, h4⟩ := AH.cell_rel hx r hB hv ha
      exact ⟨v', by simp [loadVar, h1, h3], .of h4⟩
  · cases hv

end Go.Vae
end

section
set_option linter.unusedVariables false
set_option linter.unusedSimpArgs false
namespace Go.Vae
open Go Go.RowKit

variable {P : Program} {T : Tabs} {x : Cx} {j : Inj} {B : Nat → Option AO} {w : World}

def nv (s : Sem Value) : Sem Next := do pure (.value (← s))
def nu (s : Sem Unit) : Sem Next := do s; pure .skip

theorem nv_run {s : Sem Value} {v : Value} {w' : World} (h : s.run P w = .ok v w') : (nv s).run P w = .ok (.value v) w' := by
  unfold nv; rw [Sem.run_bind, h]; rfl

theorem nu_run {s : Sem Unit} {w' : World} (h : s.run P w = .ok () w') : (nu s).run P w = .ok .skip w' := by
  unfold nu; rw [Sem.run_bind, h]; rfl

theorem VR.ptr {a : Addr} {v' : Value} (h : VR j (.pointer (some a)) v') : ∃ a', v' = .pointer (some a') ∧ AddrR j a a' := by
  have := h.sr (by simp) (by simp)
  cases this with
  | ptr h' => exact ⟨_, rfl, h'⟩

theorem VR.int {k : IntKind} {n : Int} {v' : Value} (h : VR j (.int k n) v') : v' = .int k n := by
  have := h.sr (by simp) (by simp)
  cases this
  rfl

theorem VR.bool {b : Bool} {v' : Value} (h : VR j (.bool b) v') : v' = .bool b := by
  have := h.sr (by simp) (by simp)
  cases this
  rfl

theorem VR.str {s : ByteArray} {v' : Value} (h : VR j (.string s) v') : v' = .string s := by
  have := h.sr (by simp) (by simp)
  cases this
  rfl

theorem VR.agg {cs : Array Value} {v' : Value} (h : VR j (.agg cs) v') : ∃ cs', v' = .agg ⟨cs'⟩ ∧ All2 (SR j) cs.toList cs' := by
  have := h.agr (by simp)
  cases this with
  | one h' => cases h'
  | agg h' => exact ⟨_, rfl, h'⟩

theorem rd_hB {hp : AH} (hx : hp.of x) {b : Nat} {rd : List Nat} (hrd : rd = rdOf hp b) (hB : ∀ k, k ∈ rd → B k = hp.blk k) : x.n ≤ b → B (b - x.n) = hp.blk (b - x.n) := by
  intro hle
  have h1 : Nat.blt b hp.n = false := by
    cases hq : Nat.blt b hp.n
    · rfl
    · have : b < hp.n := by simpa [Nat.blt_eq] using hq
      rw [hx.2.1] at this
      omega
  refine hB _ ?_
  rw [hrd]
  unfold rdOf
  rw [h1, hx.2.1]
  simp

theorem load_ok {hp : AH} (ht : TabsOK P T) (hx : hp.of x) (r : Rel x j B w) {t : TypeId} {a a' v : Value} {e : Eff} {rd : List Nat} (h : aload T hp t a = some (.val v e rd)) (ha : VR j a a')
    (hB : ∀ k, k ∈ rd → B k = hp.blk k) : Out P x j B hp.sz w (nv (Instr.loadAt t a')) v e := by
  unfold aload at h
  split at h
  · rename_i b off
    obtain ⟨ad, rfl, had⟩ := ha.ptr
    split at h
    · rename_i v0 hv
      injection h with h
      injection h with h1 h2 h3
      subst h1 h2
      obtain ⟨v', h4, h5⟩ := loadT_rel ht hx r (rd_hB hx h3.symm hB) hv had
      exact Out.pure r (nv_run (by simpa [Instr.loadAt, Instr.sureAddr] using h4)) h5
    · cases h
  · cases h

theorem blt_false {a b : Nat} (h : Nat.blt a b = false) : b ≤ a := by
  rcases Nat.lt_or_ge a b with h1 | h1
  · have : Nat.blt a b = true := by simpa [Nat.blt_eq] using h1
    rw [this] at h; cases h
  · exact h1

theorem blt_true {a b : Nat} (h : Nat.blt a b = true) : a < b := by simpa [Nat.blt_eq] using h

def AH.wf (h : AH) : Prop := ∀ k, h.sz ≤ k → h.blk k = none

theorem AH.wf_lt {h : AH} (hw : h.wf) {k : Nat} {o : AO} (hk : h.blk k = some o) : k < h.sz := by
  rcases Nat.lt_or_ge k h.sz with h1 | h1
  · exact h1
  · rw [hw k h1] at hk; cases hk

/-- A store of cells into a block: what the machine does, and how it stands behind it. -/
theorem puts_ok {hp : AH} (hx : hp.of x) (hwf : hp.wf) (r : Rel x j B w) {b off : Nat} (hb : x.n ≤ b) {cs0 cs1 vs vs' : List Value} (hblk : hp.blk (b - x.n) = some (.cells cs0)) (hB : B (b - x.n) = hp.blk (b - x.n))
    (hput : lput cs0 off vs = some cs1) (hvs : All2 (SR j) vs vs') {a' : Addr} (ha : AddrR j ⟨b, off, none⟩ a') :
    ∃ w', (storeCells a' vs').run P w = .ok () w' ∧ Same w w' ∧ Rel x j (Bput B (b - x.n) (.cells cs1)) w' ∧ Ext x j hp.sz (b - x.n) w j hp.sz w' := by
  obtain ⟨_, h2, c, s, h3, h4, h5⟩ := ha
  obtain ⟨c', o', sp⟩ := a'
  have h2 : sp = none := h2
  have h4 : c' = c := h4
  have h5 : o' = off + s := h5
  subst h2 h4 h5
  have hj : j (x.n + (b - x.n)) = some (c', s) := by rw [show x.n + (b - x.n) = b by omega]; exact h3
  have hBc : B (b - x.n) = some (.cells cs0) := by rw [hB, hblk]
  have hlt := AH.wf_lt hwf hblk
  obtain ⟨cur, t, h6, h7⟩ := r.cells _ _ _ cs0 hj hBc
  obtain ⟨l1, l2, l3, l4⟩ := lput_spec _ _ _ _ hput
  have hcl : ∀ i, i < cs0.length → i + s < cur.size := fun i hi => by
    obtain ⟨v', h8, _⟩ := h7 i cs0[i] (by simp [hi])
    exact (Array.getElem?_eq_some_iff.1 h8).1
  have hlen := hvs.length
  rcases Nat.eq_zero_or_pos vs.length with h0 | h0
  · obtain rfl : vs = [] := List.eq_nil_of_length_eq_zero h0
    obtain rfl : vs' = [] := List.eq_nil_of_length_eq_zero (by simpa using hlen)
    refine ⟨w, rfl, Same.refl w, r.write hj hBc h6 (fun _ _ _ h => by rw [h6] at h; injection h with h; injection h with h1; rw [h1]) (fun _ _ => rfl) rfl fun i v hv => ?_, Ext.refl _ _ _ _ _⟩
    exact h7 i v (by rw [← l4 i (by simp; omega)]; exact hv)
  · have hfit : off + s + vs'.length ≤ cur.size := by
      have := hcl (off + vs.length - 1) (by omega)
      omega
    have hrun := run_storeCells_at P c' (off + s) t vs' 0 cur w h6 (by simpa using hfit) (SR.oneCells hvs)
    refine ⟨_, hrun, ⟨rfl, rfl, rfl, by simp⟩, r.write hj hBc (setRow_heap w c' cur _ t _ h6) (fun cur0 _ _ h => by rw [h6] at h; injection h with h; injection h with h1; rw [← h1]; simp; omega) (fun i hi => setRow_other w c' i _ hi) (by simp) fun i v hv => ?_, Ext.write hj (Nat.le_refl _) hlt ⟨rfl, rfl, rfl, by simp⟩ fun i hi => setRow_other w c' i _ hi⟩
    simp only [Nat.add_zero, List.getElem?_toArray, List.append_assoc, List.getElem?_append, List.length_take, Array.length_toList, List.getElem?_take, List.getElem?_drop]
    by_cases h8 : i < off
    · have h9 : cs0[i]? = some v := by rw [← l4 i (.inl h8)]; exact hv
      obtain ⟨v', h10, h11⟩ := h7 i v h9
      refine ⟨v', ?_, h11⟩
      rw [if_pos (by omega), if_pos (by omega)]
      simpa using h10
    · by_cases h9 : i < off + vs.length
      · have h10 : vs[i - off]? = some v := by rw [← l3 (i - off) (by omega), show off + (i - off) = i by omega]; exact hv
        obtain ⟨v', h11, h12⟩ := hvs.at_ _ _ h10
        refine ⟨v', ?_, h12⟩
        rw [if_neg (by omega), if_pos (by omega), show i + s - min (off + s) cur.size = i - off by omega]
        exact h11
      · have h10 : cs0[i]? = some v := by rw [← l4 i (.inr (by omega))]; exact hv
        obtain ⟨v', h11, h12⟩ := h7 i v h10
        refine ⟨v', ?_, h12⟩
        rw [if_neg (by omega), if_neg (by omega), show off + s + vs'.length + (i + s - min (off + s) cur.size - vs'.length) = i + s by omega]
        simpa using h11

theorem undef_cells {v v' : Value} : VR j Go.undef v := VR.undef v

theorem store_ok {hp : AH} (ht : TabsOK P T) (hx : hp.of x) (hwf : hp.wf) (r : Rel x j B w) {t : TypeId} {a a' y y' v : Value} {e : Eff} {rd : List Nat} (h : astore T hp t a y = some (.val v e rd)) (ha : VR j a a') (hy : VR j y y')
    (hB : ∀ k, k ∈ e.wr → B k = hp.blk k) : Out P x j B hp.sz w (nu (Instr.storeAt t a' y')) v e := by
  unfold astore at h
  split at h
  · rename_i b off vs ti hvs hti
    obtain ⟨ad, rfl, had⟩ := ha.ptr
    cases hq : Nat.blt b hp.n with
    | true => rw [hq] at h; cases h
    | false =>
      rw [hq] at h
      simp only [cond] at h
      have hble := blt_false hq
      split at h
      · rename_i cs hcs
        cases hl : Nat.beq vs.length ti.size with
        | false => rw [hl] at h; cases h
        | true =>
          rw [hl] at h
          simp only [cond] at h
          split at h
          · rename_i cs1 hput
            injection h with h
            injection h with h1 h2 h3
            subst h1 h2
            rw [hx.2.1] at hcs hble hB ⊢
            obtain ⟨vs', h4, h5⟩ := hy.vcells hvs
            obtain ⟨w', h6, h7, h8, h9⟩ := puts_ok (P := P) hx hwf r hble hcs (hB _ (by simp [Eff.wr])) hput h5 had
            have hsize := (ht.ty t ti hti).sizeOf w
            have hl' : vs.length = ti.size := by simpa [Nat.beq_eq] using hl
            refine ⟨.skip, Go.undef, w', j, nu_run ?_, .inr ⟨rfl, rfl⟩, VR.undef _, h8, h9⟩
            simp [Instr.storeAt, Instr.sureAddr, storeVar, hsize, h4, h5.length, hl', h6]
          · cases h
      · cases h
  · cases h

theorem alloc_ok {hp : AH} (ht : TabsOK P T) (hx : hp.of x) (hng : x.ng ≤ x.n) (r : Rel x j B w) (hn : j (x.n + hp.sz) = none) {t : TypeId} {ti : TI} (hti : T.ty t = some ti) :
    Out P x j B hp.sz w (nv (Instr.alloc t true (.tuple #[]))) hp.fresh (.new ti.zero) := by
  obtain ⟨z, hz, hc⟩ := (ht.ty t ti hti).zeroValue w
  refine Out.new (cur := ⟨ti.zero⟩) (t := t) (w' := { w with heap := w.heap.push (.cells ⟨ti.zero⟩ t) }) (v' := .pointer (some ⟨w.heap.size, 0, none⟩)) r hng hn (nv_run ?_) same_push rfl (fun i u hu => ⟨u, by simpa using hu, (ht.ty t ti hti).zsr j u (List.mem_of_getElem? hu)⟩) ?_
  · simp [Instr.alloc, hz, newVar, newRow, hc]
  · unfold AH.fresh
    rw [hx.2.1]
    exact .of (.ptr (addr_new _ _ _))

theorem box_ok {hp : AH} (hx : hp.of x) (hng : x.ng ≤ x.n) (r : Rel x j B w) (hn : j (x.n + hp.sz) = none) (t : TypeId) {y y' : Value} (hy : VR j y y') {cs : List Value} (hc : vcells y = some cs) :
    Out P x j B hp.sz w (nv (Instr.box t y')) hp.fresh (.new cs) := by
  obtain ⟨cs', h1, h2⟩ := hy.vcells hc
  refine Out.new (cur := ⟨cs'⟩) (t := t) (w' := { w with heap := w.heap.push (.cells ⟨cs'⟩ t) }) (v' := .pointer (some ⟨w.heap.size, 0, none⟩)) r hng hn (nv_run ?_) same_push rfl (fun i u hu => ?_) ?_
  · simp [Instr.box, newVar, newRow, h1]
  · obtain ⟨u', h3, h4⟩ := h2.at_ i u hu
    exact ⟨u', by simpa using h3, h4⟩
  · unfold AH.fresh
    rw [hx.2.1]
    exact .of (.ptr (addr_new _ _ _))

end Go.Vae
end

section
set_option linter.unusedVariables false
set_option linter.unusedSimpArgs false
namespace Go.Vae
open Go Go.RowKit

variable {P : Program} {T : Tabs} {x : Cx} {j : Inj} {B : Nat → Option AO} {w : World}

/-! ### fill -/
theorem fold_put (off : Nat) : ∀ (l : List Value) (st : Nat) (cells : Array Value),
    let r := (l.zipIdx st).foldl (fun cs (p : Value × Nat) => cs.setIfInBounds (off + p.2) p.1) cells
    r.size = cells.size ∧ ∀ i : Nat, i < cells.size → r[i]? = if off + st ≤ i ∧ i < off + st + l.length then l[i - (off + st)]? else cells[i]?
  | [], st, cells => by
    refine ⟨rfl, fun i hi => ?_⟩
    rw [if_neg (by simp only [List.length_nil]; omega)]
    rfl
  | v :: l, st, cells => by
    simp only [List.zipIdx_cons, List.foldl_cons]
    obtain ⟨h1, h2⟩ := fold_put off l (st + 1) (cells.setIfInBounds (off + st) v)
    refine ⟨by simpa using h1, fun i hi => ?_⟩
    rw [h2 i (by simpa using hi)]
    by_cases h3 : i = off + st
    · subst h3
      rw [if_neg (by omega), if_pos (by simp)]
      simp [hi]
    · by_cases h4 : off + (st + 1) ≤ i ∧ i < off + (st + 1) + l.length
      · rw [if_pos h4, if_pos (by simp; omega), show i - (off + st) = (i - (off + (st + 1))) + 1 by omega, List.getElem?_cons_succ]
      · rw [if_neg h4, if_neg (by simp; omega), Array.getElem?_setIfInBounds_ne (by omega)]

theorem fill_rel {placeA placeC : Nat → Option (Nat × Nat)} (hp : ∀ i pl, placeA i = some pl → placeC i = some pl) : ∀ (parts parts' : List (Nat × Value)) (cs r : List Value) (cur : Array Value),
    All2 (fun p p' => p.1 = p'.1 ∧ VR j p.2 p'.2) parts parts' → All2 (SR j) cs cur.toList → fillT placeA cs parts = some r →
    ∃ r', Instr.fill placeC cur parts' = some r' ∧ All2 (SR j) r r'.toList
  | [], _, cs, r, cur, .nil, hc, h => by
    simp [fillT] at h
    subst h
    exact ⟨cur, rfl, hc⟩
  | (i, v) :: parts, (i', v') :: parts', cs, r, cur, .cons ⟨hi, hv⟩ hr, hc, h => by
    have hi : i = i' := hi
    subst hi
    simp only [fillT] at h
    split at h
    · rename_i off size vs hpl hvs
      cases hb : Nat.beq vs.length size with
      | false => rw [hb] at h; cases h
      | true =>
        rw [hb] at h
        simp only [cond] at h
        split at h
        · rename_i cs1 hput
          have hl : vs.length = size := by simpa [Nat.beq_eq] using hb
          obtain ⟨vs', h1, h2⟩ := VR.vcells hv hvs
          obtain ⟨l1, l2, l3, l4⟩ := lput_spec _ _ _ _ hput
          have hcl : cur.size = cs.length := by have := hc.length; simpa using this
          have hvl : v'.cells.size = size := by rw [h1]; simp [h2.length, hl]
          obtain ⟨f1, f2⟩ := fold_put off vs' 0 cur
          have e1 : (v'.cells.zipIdx.foldl (fun cs (p : Value × Nat) => cs.setIfInBounds (off + p.2) p.1) cur) = ((vs'.zipIdx 0).foldl (fun cs (p : Value × Nat) => cs.setIfInBounds (off + p.2) p.1) cur) := by
            rw [h1, ← Array.foldl_toList, Array.toList_zipIdx]
          have hall : All2 (SR j) cs1 ((vs'.zipIdx 0).foldl (fun cs (p : Value × Nat) => cs.setIfInBounds (off + p.2) p.1) cur).toList := by
            refine All2.of (by rw [Array.length_toList, f1, hcl, l1]) fun i u u' hu hu' => ?_
            rw [Array.getElem?_toList, f2 i (by have := (List.getElem?_eq_some_iff.1 hu).1; omega)] at hu'
            split at hu'
            · rename_i h3
              rw [show i = off + (i - (off + 0)) by omega, l3 _ (by have := h2.length; omega)] at hu
              obtain ⟨u2, h4, h5⟩ := h2.at_ _ _ hu
              rw [hu'] at h4
              injection h4 with h4
              subst h4
              exact h5
            · rename_i h3
              rw [l4 i (by have := h2.length; omega)] at hu
              obtain ⟨u2, h4, h5⟩ := hc.at_ _ _ hu
              rw [Array.getElem?_toList, hu'] at h4
              injection h4 with h4
              subst h4
              exact h5
          obtain ⟨r', h6, h7⟩ := fill_rel hp parts parts' cs1 r _ hr hall h
          refine ⟨r', ?_, h7⟩
          have hcond : (v'.cells.size ≠ size || decide (off + v'.cells.size > cur.size)) = false := by
            simp [hvl]
            omega
          simp only [Instr.fill, hp i _ hpl]
          rw [if_neg (by simp [hvl]; omega)]
          rw [← h6, ← e1]
        · cases h
    · cases h

theorem placeOf_spec (ht : TabsOK P T) {fs : List (TypeId × Nat)} {fields : Array Field} (hf : fields.toList.map (fun f => (f.type, f.offset)) = fs) {places : List (Nat × Nat)}
    (hp : fields.toList.mapM (fun f => (P.info? f.type).map fun i => (f.offset, i.size)) = some places) : ∀ i pl, placeOf T fs i = some pl → places[i]? = some pl := by
  subst hf
  intro i pl h
  unfold placeOf at h
  split at h
  · rename_i ft off hg
    split at h
    · rename_i fi hfi
      injection h with h
      subst h
      rw [lget_eq] at hg
      obtain ⟨ii, z, h1, h2, _⟩ := (ht.ty ft fi hfi).info
      generalize fields.toList = l at hg hp
      induction l generalizing i places with
      | nil => simp at hg
      | cons f l ih =>
        simp only [List.mapM_cons, Option.bind_eq_bind, Option.pure_def] at hp
        cases hi : P.info? f.type with
        | none => simp [hi] at hp
        | some i0 =>
          cases hr : l.mapM (fun f => (P.info? f.type).map fun i => (f.offset, i.size)) with
          | none => simp [hi, hr] at hp
          | some rest =>
            simp [hi, hr] at hp
            subst hp
            cases i with
            | zero =>
              simp at hg
              obtain ⟨rfl, rfl⟩ := hg
              rw [hi] at h1
              injection h1 with h1
              subst h1
              simp [h2]
            | succ i =>
              simp at hg
              have := ih i (by simpa using hg) hr
              simpa using this
    · cases h
  · cases h

theorem mapM_some {fs : List Field} (h : ∀ f ∈ fs, (P.info? f.type).isSome = true) : ∃ places, fs.mapM (fun f => (P.info? f.type).map fun i => (f.offset, i.size)) = some places := by
  induction fs with
  | nil => exact ⟨[], rfl⟩
  | cons f fs ih =>
    obtain ⟨r, hr⟩ := ih fun g hg => h g (by simp [hg])
    obtain ⟨i, hi⟩ := Option.isSome_iff_exists.1 (h f (by simp))
    exact ⟨(f.offset, i.size) :: r, by simp [List.mapM_cons, hi, hr]⟩

theorem okO_some {o : Option Value} {v : Value} {e : Eff} {rd : List Nat} (h : okO o = some (.val v e rd)) : o = some v ∧ e = .nil ∧ rd = [] := by
  unfold okO at h
  split at h
  · injection h with h; injection h with h1 h2 h3; exact ⟨by rw [h1], h2.symm, h3.symm⟩
  · cases h

theorem ok_some {u v : Value} {e : Eff} {rd : List Nat} (h : ok u = some (.val v e rd)) : u = v ∧ e = .nil ∧ rd = [] := by
  unfold ok at h
  injection h with h; injection h with h1 h2 h3; exact ⟨h1, h2.symm, h3.symm⟩

theorem build_ok {sz : Nat} (ht : TabsOK P T) (r : Rel x j B w) {t : TypeId} {ps : List (Nat × Value)} {ps' : Array (Nat × Value)} {v : Value} {e : Eff} {rd : List Nat} (h : abuild T t ps = some (.val v e rd))
    (hps : All2 (fun p p' => p.1 = p'.1 ∧ VR j p.2 p'.2) ps ps'.toList) : Out P x j B sz w (nv (Instr.build t ps')) v e := by
  unfold abuild at h
  split at h
  · rename_i ti hti
    have hty := ht.ty t ti hti
    obtain ⟨i, z, i1, i2, i3, i4, i5⟩ := hty.info
    obtain ⟨d, d1, d2, d3⟩ := hty.desc
    have hz : All2 (SR j) ti.zero z.cells.toList := by rw [i5]; exact All2.refl (hty.zsr j)
    split at h
    · rename_i fs hk
      obtain ⟨h1, rfl, rfl⟩ := okO_some h
      simp only [Option.map_eq_some_iff] at h1
      obtain ⟨cs, h1, rfl⟩ := h1
      rw [hk] at d3
      obtain ⟨fields, rfl, f2, f3⟩ := d3
      obtain ⟨places, hp⟩ := mapM_some f3
      obtain ⟨r', h2, h3⟩ := fill_rel (placeC := (places.toArray[·]?)) (fun i pl hpl => by simpa using placeOf_spec ht f2 hp i pl hpl) ps ps'.toList ti.zero cs z.cells hps hz h1
      refine Out.pure r (nv_run (run_build w t ps' r' ?_)) (.ofA (.agg (cs' := r'.toList) h3))
      simp only [Program.built, i1, d1, i4, hp]
      exact h2
    · rename_i n el hk
      split at h
      · rename_i ei hei
        obtain ⟨h1, rfl, rfl⟩ := okO_some h
        simp only [Option.map_eq_some_iff] at h1
        obtain ⟨cs, h1, rfl⟩ := h1
        rw [hk] at d3
        have d3 : d = .array n el := d3
        subst d3
        obtain ⟨i', z', e1, e2, _⟩ := (ht.ty el ei hei).info
        obtain ⟨r', h2, h3⟩ := fill_rel (placeC := fun i => some (i * i'.size, i'.size)) (fun i pl hpl => by rw [e2]; exact hpl) ps ps'.toList ti.zero cs z.cells hps hz h1
        refine Out.pure r (nv_run (run_build w t ps' r' ?_)) (.ofA (.agg (cs' := r'.toList) h3))
        simp only [Program.built, i1, d1, i4, e1]
        exact h2
      · cases h
    · cases h
  · cases h

theorem reps_length (z : List Value) : ∀ n, (reps n z).length = n * z.length
  | 0 => by simp [reps]
  | n + 1 => by simp [reps, reps_length z n, Nat.add_mul]; omega

theorem reps_at (z : List Value) (hz : 0 < z.length) : ∀ (n i : Nat), i < n * z.length → (reps n z)[i]? = z[i % z.length]?
  | 0, i, h => by omega
  | n + 1, i, h => by
    simp only [reps, List.getElem?_append]
    split
    · rename_i h1
      rw [Nat.mod_eq_of_lt h1]
    · rename_i h1
      rw [reps_at z hz n (i - z.length) (by rw [Nat.add_mul] at h; omega)]
      congr 1
      have : i = (i - z.length) + z.length := by omega
      conv => rhs; rw [this, Nat.add_mod_right]

theorem reps_sr {z : List Value} (h : ∀ v ∈ z, SR j v v) : ∀ n, ∀ v ∈ reps n z, SR j v v
  | 0, v, hv => by simp [reps] at hv
  | n + 1, v, hv => by
    simp only [reps, List.mem_append] at hv
    rcases hv with hv | hv
    · exact h v hv
    · exact reps_sr h n v hv

theorem range_map (z : Array Value) (n : Nat) (hz : 0 < z.size) : ((Array.range (n * z.size)).map (z[· % z.size]!)).toList = reps n z.toList := by
  apply List.ext_getElem?
  intro i
  by_cases hi : i < n * z.size
  · rw [reps_at z.toList (by simpa using hz) n i (by simpa using hi)]
    have hm : i % z.size < z.size := Nat.mod_lt _ hz
    simp [hi, hm, getElem!_pos]
  · rw [List.getElem?_eq_none (by simp; omega), List.getElem?_eq_none (by rw [reps_length]; simp; omega)]

theorem buildSlice_ok {hp : AH} (ht : TabsOK P T) (hx : hp.of x) (hng : x.ng ≤ x.n) (r : Rel x j B w) {t : TypeId} {len : Nat} {ps : List (Nat × Value)} {ps' : Array (Nat × Value)} {v : Value} {e : Eff} {rd : List Nat} (hn : hp.sz < esz hp.sz e → j (x.n + hp.sz) = none)
    (h : abuildSlice T hp t len ps = some (.val v e rd)) (hps : All2 (fun p p' => p.1 = p'.1 ∧ VR j p.2 p'.2) ps ps'.toList) : Out P x j B hp.sz w (nv (Instr.buildSlice t len ps')) v e := by
  unfold abuildSlice at h
  split at h
  · rename_i ti hti
    split at h
    · rename_i el hk
      split at h
      · rename_i ei hei
        cases hb : (Nat.ble (len * ei.size) 16777216 && Nat.ble 1 ei.size) with
        | false => rw [hb] at h; cases h
        | true =>
          rw [hb] at h
          simp only [cond] at h
          split at h
          · rename_i cs hfill
            injection h with h
            injection h with h1 h2 h3
            subst h1 h2
            simp only [Bool.and_eq_true, Nat.ble_eq] at hb
            have hty := ht.ty el ei hei
            obtain ⟨d, d1, d2, d3⟩ := (ht.ty t ti hti).desc
            rw [hk] at d3
            have d3 : d = .slice el := d3
            subst d3
            obtain ⟨z, z1, z2⟩ := hty.zeroValue w
            have hzs : z.cells.size = ei.size := by rw [z2]; simpa using hty.zlen
            have hzl : z.cells.toList = ei.zero := by rw [z2]
            have hrm := range_map z.cells len (by omega)
            rw [hzl, hzs] at hrm
            obtain ⟨r', h4, h5⟩ := fill_rel (j := j) (placeC := fun i => some (i * ei.size, ei.size)) (fun i pl hpl => hpl) ps ps'.toList (reps len ei.zero) cs ((Array.range (len * ei.size)).map (z.cells[· % ei.size]!)) hps
              (by rw [hrm]; exact All2.refl (reps_sr (hty.zsr j) len)) hfill
            refine Out.new (cur := r') (t := el) (w' := { w with heap := w.heap.push (.cells r' el) }) (v' := .slice (some ⟨w.heap.size, 0, none⟩) len len) r hng (hn (Nat.lt_succ_self _)) (nv_run ?_) same_push rfl (fun i u hu => ?_) ?_
            · by_cases h0 : len = 0
              · subst h0
                have he : ((Array.range (0 * ei.size)).map (z.cells[· % ei.size]!)) = #[] := by simp
                rw [he] at h4
                simp [Instr.buildSlice, run_underlying d1, hty.sizeOf w, h4, newRow, show Array.range 0 = #[] from rfl]
              · have hne : ¬ (len * ei.size = 0) := by
                  intro h0
                  rcases Nat.mul_eq_zero.1 h0 with h0 | h0 <;> omega
                have hnn : ¬ (len = 0 ∨ ei.size = 0) := by omega
                have hng2 : ¬ (16777216 < len * ei.size) := by omega
                simp [Instr.buildSlice, run_underlying d1, hty.sizeOf w, z1, hng2, hnn, hzs, h4, newRow]
                intro h1
                exact absurd h1 hne
            · obtain ⟨u', h6, h7⟩ := h5.at_ i u hu
              exact ⟨u', by simpa using h6, h7⟩
            · rw [hx.2.1]
              exact .of (.slice (addr_new _ _ _) (.inl ⟨rfl, by have := Nat.le_trans (Nat.le_mul_of_pos_right len hb.2) hb.1; unfold unk; omega⟩))
          · cases h
      · cases h
    · cases h
  · cases h

theorem nil_ok {sz : Nat} (r : Rel x j B w) {y y' v : Value} {e : Eff} {rd : List Nat} (h : anil y = some (.val v e rd)) (hy : VR j y y') :
    (∃ b, y' = .pointer (some b)) ∧ v = y ∧ e = .nil ∨ (∃ f a c, y' = .func (.func f) a c) ∧ v = y ∧ e = .nil := by
  unfold anil at h
  split at h
  · obtain ⟨h1, h2, h3⟩ := ok_some h
    obtain ⟨a', h4, _⟩ := hy.ptr
    exact .inl ⟨⟨a', h4⟩, h1.symm, h2⟩
  · obtain ⟨h1, h2, h3⟩ := ok_some h
    have := hy.sr (by simp) (by simp)
    cases this with
    | func _ => exact .inr ⟨⟨_, _, _, rfl⟩, h1.symm, h2⟩
  · cases h

/-! ### operators -/
theorem pv_some {s : Sem Value} {v : Value} (h : pv s = some v) (w : World) : s.run P w = .ok v w := by
  unfold pv at h
  split at h
  · injection h with h; subst h; rfl
  · cases h

theorem leq_eq : ∀ (a b : List UInt8), leq a b = (a == b)
  | [], [] => rfl
  | [], _ :: _ => rfl
  | _ :: _, [] => rfl
  | a :: x, b :: y => by
    simp only [leq, leq_eq x y]
    rw [Bool.eq_iff_iff]
    simp only [Bool.and_eq_true, Nat.beq_eq, beq_iff_eq, List.cons.injEq]
    exact ⟨fun ⟨h1, h2⟩ => ⟨UInt8.toNat_inj.1 h1, h2⟩, fun ⟨h1, h2⟩ => ⟨by rw [h1], h2⟩⟩

theorem astr_run {op : BinOp} {a b : ByteArray} {v : Value} (h : astr op a b = some v) (w : World) : (Op.stringOp op a b).run P w = .ok v w := by
  have hl : ∀ s : ByteArray, s.size = s.data.toList.length := fun s => rfl
  unfold astr at h
  split at h
  · cases hb : Nat.ble (a.data.toList.length + b.data.toList.length) 9223372036854775807 with
    | false => rw [hb] at h; cases h
    | true =>
      rw [hb] at h
      simp only [cond] at h
      injection h with h
      subst h
      have hb' : a.data.toList.length + b.data.toList.length ≤ 9223372036854775807 := Nat.le_of_ble_eq_true hb
      have h1 : ¬ (((a.size + b.size : Nat) : Int) > 9223372036854775807) := by rw [hl a, hl b]; omega
      have h2 : a ++ b = ⟨⟨a.data.toList ++ b.data.toList⟩⟩ := by
        apply ByteArray.ext
        rw [ByteArray.data_append]
        apply Array.ext'
        simp
      simp only [Op.stringOp, IntKind.max_i64, if_neg h1, Sem.run_pure, h2]
  all_goals first
    | (cases h; done)
    | (injection h with h; subst h; simp only [Op.stringOp, ByteArray.toList_eq, leq_eq, Sem.run_pure])

theorem scal_some {o : Option Value} {v : Value} (h : scal o = some v) : o = some v ∧ ∀ j, VR j v v := by
  unfold scal at h
  split at h
  · injection h with h; subst h; exact ⟨rfl, fun j => .of (.int _ _)⟩
  · injection h with h; subst h; exact ⟨rfl, fun j => .of (.bool _)⟩
  · cases h

theorem cellEq_sr {a b a' b' : Value} {r : Bool} (h : cellEq a b = some r) (ha : SR j a a') (hb : SR j b b') : a' = a ∧ b' = b := by
  unfold cellEq at h
  split at h
  · cases ha; cases hb; exact ⟨rfl, rfl⟩
  · cases ha; cases hb; exact ⟨rfl, rfl⟩
  · cases ha; cases hb; exact ⟨rfl, rfl⟩
  · cases h

theorem cellsEq_sr : ∀ {a b a' b' : List Value} {r : Bool}, cellsEq a b = some r → All2 (SR j) a a' → All2 (SR j) b b' → a' = a ∧ b' = b
  | [], [], _, _, _, _, .nil, .nil => ⟨rfl, rfl⟩
  | x :: xs, y :: ys, _, _, r, h, .cons h1 h2, .cons h3 h4 => by
    simp only [cellsEq] at h
    split at h
    · rename_i p q hp hq
      obtain ⟨e1, e2⟩ := cellEq_sr hp h1 h3
      obtain ⟨e3, e4⟩ := cellsEq_sr hq h2 h4
      exact ⟨by rw [e1, e3], by rw [e2, e4]⟩
    · cases h
  | [], _ :: _, _, _, _, h, _, _ => by simp [cellsEq] at h
  | _ :: _, [], _, _, _, h, _, _ => by simp [cellsEq] at h

theorem isBool_eq {k : TK} (h : isBool k = true) : k = .bool := by
  cases k <;> simp_all [isBool]

theorem bin_ok {sz : Nat} (ht : TabsOK P T) (r : Rel x j B w) {op : BinOp} {t : TypeId} {xo yo : Operand} {a b a' b' v : Value} (h : abin T op t a b = some v) (ha : VR j a a') (hb : VR j b b') :
    Out P x j B sz w (nv (do eqGuard op t xo yo a' b'; Go.binOp op t a' b')) v .nil := by
  unfold abin at h
  split at h
  · obtain rfl := ha.int
    obtain rfl := hb.int
    obtain ⟨h1, h2⟩ := scal_some h
    refine Out.pure r (nv_run ?_) (h2 j)
    simp [eqGuard_at_int, pv_some (P := P) h1 w]
  · obtain rfl := ha.str
    obtain rfl := hb.str
    have h1 := astr_run (P := P) h w
    have hv : VR j v v := by
      unfold astr at h
      split at h
      · cases hb : Nat.ble _ _ <;> rw [hb] at h
        · cases h
        · simp only [cond] at h; injection h with h; subst h; exact .of (.str _)
      all_goals first
        | (cases h; done)
        | (injection h with h; subst h; exact .of (.bool _))
    refine Out.pure r (nv_run ?_) hv
    rename_i s1 s2
    have h2 : Go.binOp op t (.string s1) (.string s2) = Op.stringOp op s1 s2 := by cases op <;> rfl
    simp [eqGuard_at_string, h2, h1]
  · rename_i p q
    obtain rfl := ha.bool
    obtain rfl := hb.bool
    split at h
    · rename_i ti hti
      cases hk : isBool ti.k with
      | false => rw [hk] at h; cases h
      | true =>
        rw [hk] at h
        simp only [cond] at h
        injection h with h
        subst h
        obtain ⟨d, d1, _, d3⟩ := (ht.ty t ti hti).desc
        rw [isBool_eq hk] at d3
        have d3 : d = .bool := d3
        subst d3
        refine Out.pure r (nv_run ?_) (.of (.bool _))
        simp [eqGuard_at_bool, Go.binOp, Op.equal, Op.maxDepth, run_equalIn_bool' w 9999 t p q d1]
    · rename_i ti hti
      cases hk : isBool ti.k with
      | false => rw [hk] at h; cases h
      | true =>
        rw [hk] at h
        simp only [cond] at h
        injection h with h
        subst h
        obtain ⟨d, d1, _, d3⟩ := (ht.ty t ti hti).desc
        rw [isBool_eq hk] at d3
        have d3 : d = .bool := d3
        subst d3
        refine Out.pure r (nv_run ?_) (.of (.bool _))
        simp [eqGuard_at_bool, Go.binOp, Op.equal, Op.maxDepth, run_equalIn_bool' w 9999 t p q d1]
    · cases h
  · rename_i p q
    obtain ⟨p', rfl, hp⟩ := ha.agg
    obtain ⟨q', rfl, hq⟩ := hb.agg
    obtain ⟨p⟩ := p
    obtain ⟨q⟩ := q
    split at h
    · rename_i ti hti
      cases hk : (ti.flat && (likeZ ti.zero p && likeZ ti.zero q)) with
      | false => rw [hk] at h; cases h
      | true =>
        rw [hk] at h
        simp only [cond, Option.map_eq_some_iff] at h
        obtain ⟨z, h, rfl⟩ := h
        simp only [Bool.and_eq_true] at hk
        obtain ⟨rfl, rfl⟩ := cellsEq_sr h hp hq
        obtain ⟨f1, f2⟩ := (ht.ty t ti hti).flat hk.1 _ _ z w hk.2.1 hk.2.2 h
        refine Out.pure r (nv_run ?_) (.of (.bool _))
        rw [Sem.run_bind, f2]
        simp [Go.binOp, f1]
    · rename_i ti hti
      cases hk : (ti.flat && (likeZ ti.zero p && likeZ ti.zero q)) with
      | false => rw [hk] at h; cases h
      | true =>
        rw [hk] at h
        simp only [cond, Option.map_eq_some_iff] at h
        obtain ⟨z, h, rfl⟩ := h
        simp only [Bool.and_eq_true] at hk
        obtain ⟨rfl, rfl⟩ := cellsEq_sr h hp hq
        obtain ⟨f1, f2⟩ := (ht.ty t ti hti).flat hk.1 _ _ z w hk.2.1 hk.2.2 h
        refine Out.pure r (nv_run ?_) (.of (.bool _))
        rw [Sem.run_bind, f2]
        simp [Go.binOp, f1]
    · cases h
  · cases h

theorem un_ok {sz : Nat} (r : Rel x j B w) {op : UnOp} {a a' v : Value} (h : aun op a = some v) (ha : VR j a a') : Out P x j B sz w (nv (Op.unary op a')) v .nil := by
  unfold aun at h
  split at h
  · obtain rfl := ha.int
    obtain ⟨h1, h2⟩ := scal_some h
    exact Out.pure r (nv_run (pv_some h1 w)) (h2 j)
  · obtain rfl := ha.bool
    obtain ⟨h1, h2⟩ := scal_some h
    exact Out.pure r (nv_run (pv_some h1 w)) (h2 j)
  · cases h

theorem convert_ok {sz : Nat} (ht : TabsOK P T) (r : Rel x j B w) {s d : TypeId} (hs : (P.underlying s).isSome = true) {a a' v : Value} {e : Eff} {rd : List Nat} (h : aconvert T d a = some (.val v e rd)) (ha : VR j a a') :
    Out P x j B sz w (nv (Go.convert s d a')) v e := by
  obtain ⟨ds, hds⟩ := Option.isSome_iff_exists.1 hs
  unfold aconvert at h
  split at h
  · rename_i k n ti hti
    obtain rfl := ha.int
    split at h
    · rename_i k' hk
      obtain ⟨rfl, rfl, rfl⟩ := ok_some h
      obtain ⟨d', d1, _, d3⟩ := (ht.ty d ti hti).desc
      rw [hk] at d3
      have d3 : d' = .int k' := d3
      subst d3
      refine Out.pure r (nv_run ?_) (.of (.int _ _))
      simp [Go.convert, run_underlying hds, run_underlying d1, Conv.intToInt]
    · cases h
  · rename_i s ti hti
    obtain rfl := ha.str
    split at h
    · rename_i hk
      obtain ⟨rfl, rfl, rfl⟩ := ok_some h
      obtain ⟨d', d1, _, d3⟩ := (ht.ty d ti hti).desc
      rw [hk] at d3
      have d3 : d' = .string := d3
      subst d3
      refine Out.pure r (nv_run ?_) (.of (.str _))
      simp [Go.convert, run_underlying hds, run_underlying d1]
    · cases h
  · cases h

end Go.Vae
end

section
set_option linter.unusedVariables false
set_option linter.unusedSimpArgs false
namespace Go.Vae
open Go Go.RowKit

variable {P : Program} {T : Tabs} {x : Cx} {j : Inj} {B : Nat → Option AO} {w : World}

theorem AddrR.add {b off n : Nat} {a' : Addr} (h : AddrR j ⟨b, off, none⟩ a') : AddrR j ⟨b, off + n, none⟩ (a'.add n) := by
  obtain ⟨h1, h2, c, s, h3, h4, h5⟩ := h
  obtain ⟨c', o', sp⟩ := a'
  have h2 : sp = none := h2
  have h5 : o' = off + s := h5
  subst h2
  rw [Addr.add_lit]
  exact ⟨rfl, rfl, c, s, h3, h4, show o' + n = off + n + s by omega⟩

theorem struct_field (ht : TabsOK P T) {s : TypeId} {ti : TI} (hti : T.ty s = some ti) {fs : List (TypeId × Nat)} (hk : ti.k = .struct fs) {f : Nat} {ft o : Nat} (hf : lget fs f = some (ft, o)) :
    ∃ (fields : Array Field) (fd : Field), P.underlying s = some (.struct fields) ∧ fields[f]? = some fd ∧ fd.type = ft ∧ fd.offset = o := by
  obtain ⟨d, d1, _, d3⟩ := (ht.ty s ti hti).desc
  rw [hk] at d3
  obtain ⟨fields, rfl, f2, f3⟩ := d3
  rw [lget_eq, ← f2] at hf
  simp only [List.getElem?_map, Option.map_eq_some_iff, Prod.mk.injEq] at hf
  obtain ⟨fd, h1, h2, h3⟩ := hf
  exact ⟨fields, fd, d1, by rw [← Array.getElem?_toList]; exact h1, h2, h3⟩

theorem fieldAddr_ok {sz : Nat} (ht : TabsOK P T) (r : Rel x j B w) {s : TypeId} {f : Nat} {a a' v : Value} {e : Eff} {rd : List Nat} (h : afieldAddr T s a f = some (.val v e rd)) (ha : VR j a a') :
    Out P x j B sz w (nv (Instr.fieldAt s a' f)) v e := by
  unfold afieldAddr at h
  split at h
  · rename_i b off ti hti
    obtain ⟨ad, rfl, had⟩ := ha.ptr
    split at h
    · rename_i fs hk
      split at h
      · rename_i ft o hf
        split at h
        · rename_i fi hfi
          cases hb : Nat.ble 1 fi.size with
          | false => rw [hb] at h; cases h
          | true =>
            rw [hb] at h
            obtain ⟨rfl, rfl, rfl⟩ := ok_some h
            obtain ⟨fields, fd, h1, h2, h3, h4⟩ := struct_field ht hti hk hf
            have hsz := (ht.ty ft fi hfi).sizeOf w
            have hne : fi.size ≠ 0 := by have := Nat.le_of_ble_eq_true hb; omega
            refine Out.pure r (nv_run (v := .pointer (some (ad.add o))) ?_) (.of (.ptr had.add))
            simp [Instr.fieldAt, run_underlying h1, h2, Instr.sureAddr, fieldPlace, h3, hsz, hne, h4]
        · cases h
      · cases h
    · cases h
  · cases h

theorem part_rel (ht : TabsOK P T) {t : TypeId} {cs cs' : List Value} (hcs : All2 (SR j) cs cs') {off : Nat} {v : Value} (h : partT T t cs off = some v) (w : World) : ∃ v', (part t ⟨cs'⟩ off).run P w = .ok v' w ∧ VR j v v' := by
  unfold partT at h
  split at h
  · rename_i ti hti
    have hty := ht.ty t ti hti
    have h1 := hty.isAgg w
    have h2 := hty.sizeOf w
    cases hagg : ti.agg with
    | true =>
      rw [hagg] at h h1
      simp only [cond, Option.map_eq_some_iff] at h
      obtain ⟨l, hcut, rfl⟩ := h
      obtain ⟨l1, l2, l3⟩ := lcut_spec _ _ _ _ hcut
      refine ⟨.agg ⟨(cs'.drop off).take ti.size⟩, ?_, .ofA (.agg (All2.of (by simp [hcs.length, l1]; omega) fun i u u' hu hu' => ?_))⟩
      · simp only [part, Sem.run_bind, h1, h2, Result.andThen_ok, if_true, Sem.run_pure]
        congr 2
        apply Array.ext'
        simp [List.take_drop]
      · have hi : i < ti.size := by have := (List.getElem?_eq_some_iff.1 hu).1; omega
        rw [l3 i hi] at hu
        obtain ⟨u2, h3, h4⟩ := hcs.at_ _ _ hu
        simp [List.getElem?_take, hi, h3] at hu'
        subst hu'
        exact h4
    | false =>
      rw [hagg] at h h1
      simp only [cond] at h
      rw [lget_eq] at h
      obtain ⟨u', h3, h4⟩ := hcs.at_ _ _ h
      refine ⟨u', ?_, .of h4⟩
      simp [part, h1, h3]
  · cases h

theorem field_ok {sz : Nat} (ht : TabsOK P T) (r : Rel x j B w) {s : TypeId} {f : Nat} {a a' v : Value} {e : Eff} {rd : List Nat} (h : afield T s a f = some (.val v e rd)) (ha : VR j a a') :
    Out P x j B sz w (nv (Instr.field s a' f)) v e := by
  unfold afield at h
  split at h
  · rename_i cs ti hti
    obtain ⟨cs', rfl, hcs⟩ := ha.agg
    split at h
    · rename_i fs hk
      split at h
      · rename_i ft o hf
        obtain ⟨h1, rfl, rfl⟩ := okO_some h
        obtain ⟨fields, fd, h2, h3, h4, h5⟩ := struct_field ht hti hk hf
        obtain ⟨v', h6, h7⟩ := part_rel ht hcs h1 w
        refine Out.pure r (nv_run (v := v') ?_) h7
        simp [Instr.field, run_underlying h2, h3, asAgg, h4, h5, h6]
      · cases h
    · cases h
  · cases h

theorem kind_slice (ht : TabsOK P T) {t : TypeId} {ti : TI} (hti : T.ty t = some ti) {e : TypeId} (hk : ti.k = .slice e) : P.underlying t = some (.slice e) := by
  obtain ⟨d, d1, _, d3⟩ := (ht.ty t ti hti).desc
  rw [hk] at d3
  have d3 : d = .slice e := d3
  rw [d1, d3]

theorem kind_array (ht : TabsOK P T) {t : TypeId} {ti : TI} (hti : T.ty t = some ti) {n : Nat} {e : TypeId} (hk : ti.k = .array n e) : P.underlying t = some (.array n e) := by
  obtain ⟨d, d1, _, d3⟩ := (ht.ty t ti hti).desc
  rw [hk] at d3
  have d3 : d = .array n e := d3
  rw [d1, d3]

theorem kind_string (ht : TabsOK P T) {t : TypeId} {ti : TI} (hti : T.ty t = some ti) (hk : ti.k = .string) : P.underlying t = some .string := by
  obtain ⟨d, d1, _, d3⟩ := (ht.ty t ti hti).desc
  rw [hk] at d3
  have d3 : d = .string := d3
  rw [d1, d3]

theorem VR.slice {a : Addr} {n c : Nat} {v' : Value} (h : VR j (.slice (some a) n c) v') : ∃ a' c', v' = .slice (some a') n c' ∧ AddrR j a a' ∧ ((c = c' ∧ c < unk) ∨ CapR j a' n c c') := by
  have := h.sr (by simp) (by simp)
  cases this with
  | slice h1 h2 => exact ⟨_, _, rfl, h1, h2⟩

theorem VR.slice0 {n c : Nat} {v' : Value} (h : VR j (.slice none n c) v') : ∃ a', v' = .slice a' n c ∧ c < unk ∧ (a' = none ∨ (n = 0 ∧ c = 0)) := by
  have := h.sr (by simp) (by simp)
  cases this with
  | nilslice a' _ _ h1 h0 => exact ⟨a', rfl, h1, h0⟩

theorem indexAddr_ok {sz : Nat} (ht : TabsOK P T) (r : Rel x j B w) {t : TypeId} {a a' i i' v : Value} {e : Eff} {rd : List Nat} (h : aindexAddr T t a i = some (.val v e rd)) (ha : VR j a a') (hi : VR j i i') :
    Out P x j B sz w (nv (Instr.indexAt t a' i')) v e := by
  unfold aindexAddr at h
  split at h
  · rename_i b off len c k n ti hti
    obtain ⟨ad, c', rfl, had, _⟩ := ha.slice
    obtain rfl := hi.int
    split at h
    · rename_i el hk
      split at h
      · rename_i ei hei
        cases hb : (decide (0 ≤ n) && decide (n < (len : Int))) with
        | false => rw [hb] at h; cases h
        | true =>
          rw [hb] at h
          obtain ⟨rfl, rfl, rfl⟩ := ok_some h
          simp only [Bool.and_eq_true, decide_eq_true_eq] at hb
          refine Out.pure r (nv_run (v := .pointer (some (ad.add (n.toNat * ei.size)))) ?_) (.of (.ptr had.add))
          simp [Instr.indexAt, run_underlying (kind_slice ht hti hk), asIntOf, hb, (ht.ty el ei hei).sizeOf w]
      · cases h
    · cases h
  · rename_i b off k n ti hti
    obtain ⟨ad, rfl, had⟩ := ha.ptr
    obtain rfl := hi.int
    split at h
    · rename_i len el hk
      split at h
      · rename_i ei hei
        cases hb : (decide (0 ≤ n) && decide (n < (len : Int))) with
        | false => rw [hb] at h; cases h
        | true =>
          rw [hb] at h
          obtain ⟨rfl, rfl, rfl⟩ := ok_some h
          simp only [Bool.and_eq_true, decide_eq_true_eq] at hb
          refine Out.pure r (nv_run (v := .pointer (some (ad.add (n.toNat * ei.size)))) ?_) (.of (.ptr had.add))
          simp [Instr.indexAt, run_underlying (kind_array ht hti hk), asIntOf, Instr.sureAddr, hb, (ht.ty el ei hei).sizeOf w]
      · cases h
    · cases h
  · cases h

theorem index_ok {sz : Nat} (ht : TabsOK P T) (r : Rel x j B w) {t : TypeId} {a a' i i' v : Value} {e : Eff} {rd : List Nat} (h : aindex T t a i = some (.val v e rd)) (ha : VR j a a') (hi : VR j i i') :
    Out P x j B sz w (nv (Instr.index t a' i')) v e := by
  unfold aindex at h
  split at h
  · rename_i s k n ti hti
    obtain rfl := ha.str
    obtain rfl := hi.int
    split at h
    · rename_i hk
      cases hb : decide (0 ≤ n) with
      | false => rw [hb] at h; cases h
      | true =>
        rw [hb] at h
        simp only [cond] at h
        split at h
        · rename_i c hc
          obtain ⟨rfl, rfl, rfl⟩ := ok_some h
          simp only [decide_eq_true_eq] at hb
          rw [lget_eq] at hc
          have hc' : s[n.toNat]? = some c := by
            have h1 : n.toNat < s.data.toList.length := (List.getElem?_eq_some_iff.1 hc).1
            have h2 : n.toNat < s.size := h1
            rw [getElem?_pos s n.toNat h2]
            have h3 := (List.getElem?_eq_some_iff.1 hc).2
            rw [← h3]
            rfl
          refine Out.pure r (nv_run (v := .int .u8 c.toNat) ?_) (.of (.int _ _))
          simp [Instr.index, run_underlying (kind_string ht hti hk), asIntOf, hb, hc']
        · cases h
    · cases h
  · rename_i cs k n ti hti
    obtain ⟨cs', rfl, hcs⟩ := ha.agg
    obtain rfl := hi.int
    split at h
    · rename_i len el hk
      split at h
      · rename_i ei hei
        cases hb : (decide (0 ≤ n) && decide (n < (len : Int))) with
        | false => rw [hb] at h; cases h
        | true =>
          rw [hb] at h
          simp only [cond] at h
          obtain ⟨h1, rfl, rfl⟩ := okO_some h
          simp only [Bool.and_eq_true, decide_eq_true_eq] at hb
          obtain ⟨v', h6, h7⟩ := part_rel ht hcs h1 w
          refine Out.pure r (nv_run (v := v') ?_) h7
          simp [Instr.index, run_underlying (kind_array ht hti hk), asIntOf, hb, (ht.ty el ei hei).sizeOf w, h6]
      · cases h
    · cases h
  · cases h

theorem VR.tuple {vs : Array Value} {v' : Value} (h : VR j (.tuple vs) v') (hne : vs ≠ #[]) : ∃ vs', v' = .tuple ⟨vs'⟩ ∧ All2 (UR j) vs.toList vs' := by
  generalize he : Value.tuple vs = u at h
  cases h with
  | one h =>
    cases h with
    | any => injection he with he; exact absurd he hne
    | val h =>
      subst he
      cases h with
      | one h => cases h
  | tup h =>
    injection he with he
    subst he
    exact ⟨_, rfl, h⟩
  | skip => exact absurd he (by simp [skipV])

theorem extract_ok {sz : Nat} (r : Rel x j B w) {i : Nat} {a a' v : Value} {e : Eff} {rd : List Nat} (h : aextract a i = some (.val v e rd)) (ha : VR j a a') : Out P x j B sz w (nv (Instr.extract a' i)) v e := by
  unfold aextract at h
  split at h
  · rename_i vs
    obtain ⟨h1, rfl, rfl⟩ := okO_some h
    rw [lget_eq] at h1
    have hne : vs ≠ #[] := by
      intro e
      subst e
      simp at h1
    obtain ⟨vs', rfl, h2⟩ := ha.tuple hne
    obtain ⟨v', h3, h4⟩ := h2.at_ _ _ h1
    refine Out.pure r (nv_run (v := v') ?_) (.one h4)
    simp [Instr.extract, h3]
  · cases h

end Go.Vae
end

section
set_option linter.unusedVariables false
set_option linter.unusedSimpArgs false
namespace Go.Vae
open Go Go.RowKit

variable {P : Program} {T : Tabs} {x : Cx} {j : Inj} {B : Nat → Option AO} {w : World}

theorem small_ne_unk {n : Nat} (h : n ≤ 70368744177664) : n < unk := by unfold unk; omega

theorem make_ok {hp : AH} (ht : TabsOK P T) (hx : hp.of x) (hng : x.ng ≤ x.n) (r : Rel x j B w) {t : TypeId} {l l' c c' v : Value} {e : Eff} {rd : List Nat} (hn : hp.sz < esz hp.sz e → j (x.n + hp.sz) = none)
    (h : amake T hp t l c = some (.val v e rd)) (hl : VR j l l') (hc : VR j c c') : Out P x j B hp.sz w (nv (Instr.makeSlice t l' c')) v e := by
  unfold amake at h
  split at h
  · rename_i n m ti hti
    obtain rfl := hl.int
    obtain rfl := hc.int
    split at h
    · rename_i el hk
      split at h
      · rename_i ei hei
        cases hb : (decide (n = m) && decide (0 ≤ n) && Nat.ble (ei.bytes * n.toNat) 70368744177664 && Nat.ble n.toNat 70368744177664 && Nat.ble 1 ei.size) with
        | false => rw [hb] at h; cases h
        | true =>
          rw [hb] at h
          simp only [cond] at h
          injection h with h
          injection h with h1 h2 h3
          subst h1 h2
          simp only [Bool.and_eq_true, decide_eq_true_eq] at hb
          obtain ⟨⟨⟨⟨rfl, hb1⟩, hb2⟩, hb3⟩, hb4⟩ := hb
          have hb2 := Nat.le_of_ble_eq_true hb2
          have hb3 := Nat.le_of_ble_eq_true hb3
          have hb4 := Nat.le_of_ble_eq_true hb4
          obtain ⟨k, rfl⟩ := Int.eq_ofNat_of_zero_le hb1
          simp only [Int.toNat_natCast] at hb2 hb3
          have hty := ht.ty el ei hei
          obtain ⟨i, i1, i2, i3, i4⟩ := hty.typeInfo w
          obtain ⟨z, z1, z2⟩ := hty.zeroValue w
          have hzs : z.cells.size = ei.size := by rw [z2]; simpa using hty.zlen
          have hzl : z.cells.toList = ei.zero := by rw [z2]
          have hnb : (i.bytes : Int) * (k : Int) ≤ 281474976710656 := by
            rw [i4, ← Int.natCast_mul]
            exact Int.ofNat_le.2 (Nat.le_trans hb2 (by decide))
          have hrm := range_map z.cells k (by omega)
          rw [hzl, hzs] at hrm
          have hcur : ((Array.range (k * ei.size)).map (z.cells[· % ei.size]!)).toList = reps k ei.zero := hrm
          refine Out.new (cur := (Array.range (k * ei.size)).map (z.cells[· % ei.size]!)) (t := el) (w' := { w with heap := w.heap.push (.cells ((Array.range (k * ei.size)).map (z.cells[· % ei.size]!)) el) }) (v' := .slice (some ⟨w.heap.size, 0, none⟩) k k) r hng (hn (Nat.lt_succ_self _)) (nv_run ?_) same_push rfl (fun q u hu => ?_) ?_
          · obtain ⟨i', z', y1, y2, y3, y4, y5⟩ := hty.info
            rw [i2] at y1
            injection y1 with y1
            subst y1
            have hr := run_make (P := P) w t el i z' (kind_slice ht hti hk) i2 y4 .i64 .i64 k k (by omega) (Int.le_refl _) hnb (by omega)
            simp only [Int.toNat_natCast, i3] at hr
            rw [hr]
            have hzz : z'.cells = z.cells := by rw [y5, z2]
            simp only [World.alloc, madeCells, hzz, hzs]
          · simp only [Int.toNat_natCast] at hu
            rw [← hcur] at hu
            refine ⟨u, by rw [← Array.getElem?_toList]; exact hu, ?_⟩
            rw [hcur] at hu
            exact reps_sr (hty.zsr j) k u (List.mem_of_getElem? hu)
          · rw [hx.2.1]
            simp only [Int.toNat_natCast]
            exact .of (.slice (addr_new _ _ _) (.inl ⟨rfl, small_ne_unk hb3⟩))
      · cases h
    · cases h
  · cases h

inductive OR (j : Inj) : Option Value → Option Value → Prop where
  | none : OR j .none .none
  | some {v v' : Value} (h : VR j v v') : OR j (.some v) (.some v')

theorem abound_spec {o o' : Option Value} {d l : Nat} (h : abound o d = some l) (ho : OR j o o') : (o = none ∧ o' = none ∧ l = d) ∨ ∃ n : Int, o = some (.int .i64 n) ∧ o' = some (.int .i64 n) ∧ 0 ≤ n ∧ l = n.toNat := by
  cases ho with
  | none => simp [abound] at h; exact .inl ⟨rfl, rfl, h.symm⟩
  | some hv =>
    unfold abound at h
    split at h
    · rename_i e; cases e
    · rename_i d' n e
      injection e with e
      subst e
      obtain rfl := hv.int
      cases hb : decide (0 ≤ n) with
      | false => rw [hb] at h; cases h
      | true =>
        rw [hb] at h
        simp only [cond] at h
        injection h with h
        exact .inr ⟨n, rfl, rfl, of_decide_eq_true hb, h.symm⟩
    · cases h

theorem sliceBound_run {n : Int} {y : Nat} (h0 : 0 ≤ n) (h1 : n.toNat ≤ y) (code : BoundsCode) (w : World) : (Instr.sliceBound (.int .i64 n) y code).run P w = .ok n.toNat w := by
  have h2 : n ≤ (y : Int) := by omega
  simp [Instr.sliceBound, asIntOf, h0, h2]

theorem sliceBounds_run {isS : Bool} {len cap l u m : Nat} {lo hi mx lo' hi' mx' : Option Value} (hlo : abound lo 0 = some l) (hhi : abound hi len = some u) (hmx : abound mx cap = some m) (olo : OR j lo lo') (ohi : OR j hi hi') (omx : OR j mx mx')
    (h1 : l ≤ u) (h2 : u ≤ m) (h3 : m ≤ cap) (h4 : mx = none ∨ hi.isSome = true) (w : World) : (Instr.sliceBounds isS len cap lo' hi' mx').run P w = .ok (l, u, m) w := by
  rcases abound_spec hmx omx with ⟨rfl, rfl, rfl⟩ | ⟨nm, rfl, rfl, g1, rfl⟩
  · rcases abound_spec hhi ohi with ⟨rfl, rfl, rfl⟩ | ⟨nh, rfl, rfl, g2, rfl⟩
    · rcases abound_spec hlo olo with ⟨rfl, rfl, rfl⟩ | ⟨nl, rfl, rfl, g3, rfl⟩
      · simp [Instr.sliceBounds]
      · simp [Instr.sliceBounds, sliceBound_run g3 h1]
    · rcases abound_spec hlo olo with ⟨rfl, rfl, rfl⟩ | ⟨nl, rfl, rfl, g3, rfl⟩
      · simp [Instr.sliceBounds, sliceBound_run g2 h2]
      · simp [Instr.sliceBounds, sliceBound_run g2 h2, sliceBound_run g3 h1]
  · rcases abound_spec hhi ohi with ⟨rfl, rfl, rfl⟩ | ⟨nh, rfl, rfl, g2, rfl⟩
    · rcases h4 with h4 | h4 <;> simp at h4
    · rcases abound_spec hlo olo with ⟨rfl, rfl, rfl⟩ | ⟨nl, rfl, rfl, g3, rfl⟩
      · simp [Instr.sliceBounds, sliceBound_run g1 h3, sliceBound_run g2 h2]
      · simp [Instr.sliceBounds, sliceBound_run g1 h3, sliceBound_run g2 h2, sliceBound_run g3 h1]

/-- A larger capacity does as well, where none is asked for. -/
theorem sliceBounds_run' {isS : Bool} {len cap l u : Nat} {lo hi lo' hi' : Option Value} (hlo : abound lo 0 = some l) (hhi : abound hi len = some u) (olo : OR j lo lo') (ohi : OR j hi hi')
    (h1 : l ≤ u) (h2 : u ≤ cap) (w : World) : (Instr.sliceBounds isS len cap lo' hi' none).run P w = .ok (l, u, cap) w :=
  sliceBounds_run (mx := none) hlo hhi rfl olo ohi .none h1 h2 (Nat.le_refl _) (.inl rfl) w

theorem slice_ok {sz : Nat} (ht : TabsOK P T) (r : Rel x j B w) {t : TypeId} {a a' v : Value} {lo hi mx lo' hi' mx' : Option Value} {e : Eff} {rd : List Nat} (h : aslice T t a lo hi mx = some (.val v e rd))
    (ha : VR j a a') (olo : OR j lo lo') (ohi : OR j hi hi') (omx : OR j mx mx') : Out P x j B sz w (nv (Instr.sliceAt t a' lo' hi' mx')) v e := by
  unfold aslice at h
  split at h
  · rename_i s ti hti
    obtain rfl := ha.str
    split at h
    · rename_i hk
      split at h
      · rename_i l u hl hu
        cases hb : (Nat.ble l u && Nat.ble u s.data.toList.length) with
        | false => rw [hb] at h; cases h
        | true =>
          rw [hb] at h
          obtain ⟨rfl, rfl, rfl⟩ := ok_some h
          simp only [Bool.and_eq_true, Nat.ble_eq] at hb
          cases omx
          have hu' := kind_string ht hti hk
          have hrun := sliceBounds_run' (P := P) (isS := false) (len := s.size) (cap := s.size) hl hu olo ohi hb.1 hb.2 w
          refine Out.pure r (nv_run (v := .string (s.extract l u)) ?_) ?_
          · simp [Instr.sliceAt, Instr.slice, run_underlying hu', hrun]
          · have : s.extract l u = ⟨⟨(s.data.toList.take u).drop l⟩⟩ := by
              apply ByteArray.ext
              rw [ByteArray.data_extract]
              apply Array.ext'
              simp [List.drop_take]
            rw [this]
            exact .of (.str _)
      · cases h
    · cases h
  · rename_i ao len cap ti hti
    split at h
    · rename_i el hk
      have hu' := kind_slice ht hti hk
      split at h
      · rename_i ei hei
        have hsz := (ht.ty el ei hei).sizeOf w
        cases hc : Nat.ble unk cap with
        | true =>
          rw [hc] at h
          simp only [cond] at h
          have hcap : unk ≤ cap := Nat.le_of_ble_eq_true hc
          split at h
          · rename_i l u b off hl hu
            cases hb : (Nat.ble l u && Nat.ble u len && (Nat.blt l len || Nat.beq l 0) && Nat.beq cap (unk + ei.size)) with
            | false => rw [hb] at h; cases h
            | true =>
              rw [hb] at h
              obtain ⟨rfl, rfl, rfl⟩ := ok_some h
              simp only [Bool.and_eq_true, Bool.or_eq_true, Nat.ble_eq, Nat.blt_eq, Nat.beq_eq] at hb
              obtain ⟨ad, c', rfl, had, hcc⟩ := ha.slice
              obtain ⟨hle, es, ln, hcc, hln, hrow⟩ : CapR j ad len cap c' := by
                rcases hcc with ⟨h1, h2⟩ | h2
                · omega
                · exact h2
              obtain ⟨⟨⟨hb1, hb2⟩, hb3⟩, hb4⟩ := hb
              obtain rfl : es = ei.size := by omega
              cases omx
              have hrun := sliceBounds_run' (P := P) (isS := true) (len := len) (cap := c') hl hu olo ohi hb1 (by omega) w
              have hsp : ad.spot = none := had.2.1
              have hadd : (ad.add (l * ei.size)).block = ad.block ∧ (ad.add (l * ei.size)).off = ad.off + l * ei.size := by
                obtain ⟨p, q, rr⟩ := ad
                have hsp : rr = none := hsp
                subst hsp
                rw [Addr.add_lit]
                exact ⟨rfl, rfl⟩
              have hlc : l ≤ c' := by omega
              have hmul : l * ei.size + (c' - l) * ei.size = c' * ei.size := by rw [← Nat.add_mul]; congr 1; omega
              have hcap' : CapR j (ad.add (l * ei.size)) (u - l) cap (c' - l) := ⟨by omega, ei.size, ln, hcc, by rw [hadd.1]; exact hln, by rw [hadd.2]; omega⟩
              refine Out.pure r (nv_run (v := .slice (some (ad.add (l * ei.size))) (u - l) (c' - l)) ?_) (.of (.slice had.add (.inr hcap')))
              by_cases hm : c' = l
              · have hl0 : l = 0 := by omega
                subst hl0
                subst hm
                simp [Instr.sliceAt, Instr.slice, run_underlying hu', hrun, hsz, Addr.add_zero']
              · simp [Instr.sliceAt, Instr.slice, run_underlying hu', hrun, hsz, hm]
          · rename_i m l u b off hl hu
            split at h
            · rename_i m' hm
              cases hb : (Nat.ble l u && Nat.ble u m' && Nat.ble m' len && hi.isSome && Nat.blt m' unk) with
              | false => rw [hb] at h; cases h
              | true =>
                rw [hb] at h
                obtain ⟨rfl, rfl, rfl⟩ := ok_some h
                simp only [Bool.and_eq_true, Nat.ble_eq, Nat.blt_eq] at hb
                obtain ⟨⟨⟨⟨b1, b2⟩, b3⟩, b4⟩, b5⟩ := hb
                obtain ⟨ad, c', rfl, had, hcc⟩ := ha.slice
                have hle : len ≤ c' := by
                  rcases hcc with ⟨h1, h2⟩ | h2
                  · omega
                  · exact h2.1
                have hm2 : abound (some m) c' = some m' := by
                  rcases abound_spec hm omx with ⟨h1, _⟩ | ⟨n, h1, _, h3, h4⟩
                  · cases h1
                  · rw [h1]
                    simp [abound, h3, h4]
                have hrun := sliceBounds_run (P := P) (isS := true) hl hu hm2 olo ohi omx b1 b2 (by omega) (.inr b4) w
                by_cases hml : m' = l
                · subst hml
                  have : Nat.beq m' m' = true := by simp [Nat.beq_eq]
                  rw [this]
                  simp only [cond, Nat.add_zero]
                  refine Out.pure r (nv_run (v := .slice (some ad) (u - m') (m' - m')) ?_) (.of (.slice had (.inl ⟨rfl, by omega⟩)))
                  simp [Instr.sliceAt, Instr.slice, run_underlying hu', hrun, hsz]
                · have : Nat.beq m' l = false := by
                    cases hq : Nat.beq m' l
                    · rfl
                    · exact absurd (by simpa [Nat.beq_eq] using hq) hml
                  rw [this]
                  simp only [cond]
                  refine Out.pure r (nv_run (v := .slice (some (ad.add (l * ei.size))) (u - l) (m' - l)) ?_) (.of (.slice had.add (.inl ⟨rfl, by omega⟩)))
                  simp [Instr.sliceAt, Instr.slice, run_underlying hu', hrun, hsz, hml]
            · cases h
          · cases h
        | false =>
          rw [hc] at h
          simp only [cond] at h
          have hcap : cap < unk := by
            rcases Nat.lt_or_ge cap unk with h1 | h1
            · exact h1
            · rw [Nat.ble_eq_true_of_le h1] at hc
              cases hc
          split at h
          · rename_i m l u hm hl hu
            cases hb : (Nat.ble l u && Nat.ble u m && Nat.ble m cap && (mx.isNone || hi.isSome) && Nat.blt m unk) with
            | false => rw [hb] at h; cases h
            | true =>
              rw [hb] at h
              simp only [cond] at h
              simp only [Bool.and_eq_true, Bool.or_eq_true, Nat.ble_eq, Nat.blt_eq] at hb
              obtain ⟨⟨⟨⟨b1, b2⟩, b3⟩, b4⟩, b5⟩ := hb
              have b4 : mx = none ∨ hi.isSome = true := b4.imp (fun h => by simpa using h) id
              split at h
              · obtain ⟨rfl, rfl, rfl⟩ := ok_some h
                obtain ⟨a', rfl, _, h0⟩ := ha.slice0
                have hrun := sliceBounds_run (P := P) (isS := true) hl hu hm olo ohi omx b1 b2 b3 b4 w
                cases a' with
                | none =>
                  refine Out.pure r (nv_run (v := .slice none (u - l) (m - l)) ?_) (.of (.nilslice none _ _ (by omega) (.inl rfl)))
                  simp [Instr.sliceAt, Instr.slice, run_underlying hu', hrun, hsz]
                | some ad =>
                  obtain ⟨h1, h2⟩ : len = 0 ∧ cap = 0 := h0.resolve_left (by simp)
                  obtain rfl : m = 0 := by omega
                  obtain rfl : u = 0 := by omega
                  obtain rfl : l = 0 := by omega
                  refine Out.pure r (nv_run (v := .slice (some ad) 0 0) ?_) (.of (.nilslice (some ad) _ _ (by omega) (.inr ⟨rfl, rfl⟩)))
                  simp [Instr.sliceAt, Instr.slice, run_underlying hu', hrun, hsz]
              · rename_i b off
                obtain ⟨rfl, rfl, rfl⟩ := ok_some h
                obtain ⟨ad, c', rfl, had, hcc⟩ := ha.slice
                have hcc : cap = c' := by
                  rcases hcc with ⟨h1, h2⟩ | ⟨_, _, _, h1, _⟩
                  · exact h1
                  · omega
                subst hcc
                have hrun := sliceBounds_run (P := P) (isS := true) hl hu hm olo ohi omx b1 b2 b3 b4 w
                by_cases hml : m = l
                · subst hml
                  have : Nat.beq m m = true := by simp [Nat.beq_eq]
                  rw [this]
                  simp only [cond, Nat.add_zero]
                  refine Out.pure r (nv_run (v := .slice (some ad) (u - m) (m - m)) ?_) (.of (.slice had (.inl ⟨rfl, by omega⟩)))
                  simp [Instr.sliceAt, Instr.slice, run_underlying hu', hrun, hsz]
                · have : Nat.beq m l = false := by
                    cases hq : Nat.beq m l
                    · rfl
                    · exact absurd (by simpa [Nat.beq_eq] using hq) hml
                  rw [this]
                  simp only [cond]
                  refine Out.pure r (nv_run (v := .slice (some (ad.add (l * ei.size))) (u - l) (m - l)) ?_) (.of (.slice had.add (.inl ⟨rfl, by omega⟩)))
                  simp [Instr.sliceAt, Instr.slice, run_underlying hu', hrun, hsz, hml]
              · cases h
          · cases h
      · cases h
    · cases h
  · cases h

end Go.Vae
end

section
set_option linter.unusedVariables false
set_option linter.unusedSimpArgs false
namespace Go.Vae
open Go Go.RowKit

variable {P : Program} {T : Tabs} {x : Cx} {j : Inj} {B : Nat → Option AO} {w : World}

theorem World.cell_heap {w w' : World} (h : w'.heap = w.heap) (a : Addr) : w'.cell? a = w.cell? a := by simp [World.cell?, h]

/-- The cells of what is appended or copied. -/
theorem src_rel {hp : AH} (hx : hp.of x) (r : Rel x j B w) {size n : Nat} {y y' : Value} {cs : List Value} {rd : List Nat} (h : srcCells hp size y n = some (cs, rd)) (hy : VR j y y') (hB : ∀ k, k ∈ rd → B k = hp.blk k) :
    cs.length = n * size ∧ ∃ cs', All2 (SR j) cs cs' ∧ ∀ w' : World, w'.heap = w.heap → (Builtin.firstCells size n y').run P w' = .ok ⟨cs'⟩ w' := by
  unfold srcCells at h
  split at h
  · rename_i b off len cap
    split at h
    · rename_i cs0 hcut
      injection h with h
      injection h with h1 h2
      subst h1
      obtain ⟨ad, c', rfl, had, _⟩ := hy.slice
      obtain ⟨h3, cs', h4, h5⟩ := AH.cut_rel hx r (rd_hB hx h2.symm hB) hcut had
      refine ⟨h3, cs', h4, fun w' hw => ?_⟩
      exact run_firstCells_some w' size n ad len c' cs' (by rw [h4.length, h3]) fun i v hv => by rw [World.cell_heap hw]; exact h5 i v hv
    · cases h
  · cases hb : Nat.beq n 0 with
    | false => rw [hb] at h; cases h
    | true =>
      rw [hb] at h
      injection h with h
      injection h with h1 h2
      subst h1
      obtain ⟨a', rfl, _, _⟩ := hy.slice0
      obtain rfl : n = 0 := by simpa [Nat.beq_eq] using hb
      cases a' with
      | none => exact ⟨by simp, [], .nil, fun w' _ => run_firstCells_none w' _ _ _ _⟩
      | some ad => exact ⟨by simp, [], .nil, fun w' hw => run_firstCells_some w' size 0 ad _ _ [] (by simp) fun i v hv => by simp at hv⟩
  · rename_i s
    cases hb : (Nat.ble n s.data.toList.length && Nat.beq size 1) with
    | false => rw [hb] at h; cases h
    | true =>
      rw [hb] at h
      injection h with h
      injection h with h1 h2
      subst h1
      obtain rfl := hy.str
      simp only [Bool.and_eq_true, Nat.ble_eq, Nat.beq_eq] at hb
      obtain ⟨hb1, rfl⟩ := hb
      refine ⟨by rw [List.length_map, List.length_take, Nat.mul_one]; exact Nat.min_eq_left hb1, _, All2.refl fun v hv => ?_, fun w' _ => ?_⟩
      · obtain ⟨c, _, rfl⟩ := List.mem_map.1 hv
        exact .int _ _
      · simp only [Builtin.firstCells, Sem.run_pure]
        congr 1
        apply Array.ext'
        simp
  · cases h

theorem lenV_run {y y' : Value} {n : Nat} (h : lenV y = some n) (hy : VR j y y') (w : World) : (Builtin.lenOf y').run P w = .ok n w := by
  unfold lenV at h
  split at h
  · rename_i a len cap
    injection h with h
    subst h
    cases a with
    | none => obtain ⟨a', rfl, _, _⟩ := hy.slice0; rfl
    | some a => obtain ⟨ad, c', rfl, _⟩ := hy.slice; rfl
  · injection h with h
    subst h
    obtain rfl := hy.str
    rfl
  · cases h

def storeAt (base : Option Addr) (k : Nat) (vs : List Value) : Sem Unit :=
  match base with
  | some a => storeCells (a.add k) vs
  | none => pure ()

/-- What an append's second argument comes to. -/
structure AS (P : Program) (e : TypeId) (i : TypeInfo) (tx : TypeId) (y' : Value) (n : Nat) (news : List Value) (w : World) : Prop where
  room : ∀ (t ty : TypeId) (base : Option Addr) (sLen sCap : Nat), P.underlying t = some (.slice e) → P.info? e = some i → sLen + n ≤ sCap →
    (Builtin.append_ #[t, tx] ty #[.slice base sLen sCap, y']).run P w = (storeAt base (sLen * i.size) news >>= fun _ => (pure (.slice base (sLen + n) sCap) : Sem Value)).run P w
  grow : ∀ (t ty : TypeId) (base : Option Addr) (sLen sCap : Nat) (z : Value) (olds : List Value), P.underlying t = some (.slice e) → P.info? e = some i → i.zero = some z → 0 < n → sCap < sLen + n → ((sLen + n : Nat) : Int) ≤ 9223372036854775807 →
    Builtin.nextslicecap (sLen + n) sCap * i.bytes ≤ 281474976710656 → (Builtin.firstCells i.size sLen (.slice base sLen sCap)).run P w.drew = .ok ⟨olds⟩ w.drew →
    (Builtin.append_ #[t, tx] ty #[.slice base sLen sCap, y']).run P w =
      .ok (.slice (some ⟨w.heap.size, 0, none⟩) (sLen + n) (grownCap w (sLen + n) sCap e)) (w.drew.alloc (.cells ((olds ++ news).toArray ++ Builtin.zeroCells z.cells (grownCap w (sLen + n) sCap e - (sLen + n))) e))

theorem AS.ofSeq {e : TypeId} {i : TypeInfo} {tx : TypeId} {y' : Value} {n : Nat} {news : List Value} (hk : (∃ e', P.underlying tx = some (.slice e')) ∨ P.underlying tx = some .string) (hl : ∀ w' : World, (Builtin.lenOf y').run P w' = .ok n w')
    (hc : ∀ w' : World, w'.heap = w.heap → (Builtin.firstCells i.size n y').run P w' = .ok ⟨news⟩ w') : AS P e i tx y' n news w := by
  refine ⟨fun t ty base sLen sCap ht hi hroom => ?_, fun t ty base sLen sCap z olds ht hi hz hpn hg h63 hfit hold => ?_⟩
  · have := hc w rfl
    rcases hk with ⟨e', hk⟩ | hk <;> cases base <;> simp [storeAt, Builtin.append_, run_underlying ht, run_underlying hk, Go.sizeOf, Go.typeInfo, hi, hl, hroom, this]
  · have hn : ¬ (sLen + n ≤ sCap) := by omega
    have h63' : ¬ (9223372036854775807 < ((sLen : Int) + (n : Int))) := by omega
    have h48' : ¬ (281474976710656 < Builtin.nextslicecap (sLen + n) sCap * i.bytes) := by omega
    have := hc w.drew rfl
    rcases hk with ⟨e', hk⟩ | hk <;>
      (simp [Builtin.append_, run_underlying ht, run_underlying hk, Go.sizeOf, Go.typeInfo, Go.zeroValue, hi, hz, hl, hn, h63', h48', Question.forced, this, hold, newRow, grownCap]
       congr 2
       apply Array.ext'
       simp [List.append_assoc])

theorem AS.ofZeros {e : TypeId} {i : TypeInfo} {tx : TypeId} {kn : IntKind} {n : Nat} {zc : List Value} {z : Value} (htn : P.underlying tx = some (.int kn)) (hz : i.zero = some z) (hzc : z.cells = ⟨zc⟩) (hzl : zc.length = i.size) (hpos : 0 < i.size)
    (hw : IntKind.i64.wrap (n : Int) = n) (hb : n * i.bytes ≤ 281474976710656) : AS P e i tx (.int .i64 n) n (reps n zc) w := by
  have hb' : ¬ (281474976710656 < (n : Int) * (i.bytes : Int)) := by rw [← Int.natCast_mul]; omega
  have hneg : ¬ ((n : Int) < 0) := by omega
  have hzr : Builtin.zeroCells z.cells n = ⟨reps n zc⟩ := by
    apply Array.ext'
    have := range_map z.cells n (by rw [hzc]; simp; omega)
    rw [hzc] at this ⊢
    exact this
  have hzn : n = 0 → reps n zc = [] := fun h => by subst h; rfl
  refine ⟨fun t ty base sLen sCap ht hi hroom => ?_, fun t ty base sLen sCap z' olds ht hi hz' hpn hg h63 hfit hold => ?_⟩
  · by_cases h0 : n = 0
    · subst h0
      cases base <;> simp [storeAt, Builtin.append_, run_underlying ht, run_underlying htn, Go.sizeOf, Go.typeInfo, Go.zeroValue, hi, hz, asInt, asIntOf, hw, reps, hroom] <;> simp_all [IntKind.wrap]
    · have hns : ¬ (n * i.size = 0) := Nat.mul_ne_zero h0 (by omega)
      cases base <;> simp [storeAt, Builtin.append_, run_underlying ht, run_underlying htn, Go.sizeOf, Go.typeInfo, Go.zeroValue, hi, hz, asInt, asIntOf, hw, hneg, hb', hns, hroom, hzr, h0] <;> simp_all
  · have hn : ¬ (sLen + n ≤ sCap) := by omega
    have h63' : ¬ (9223372036854775807 < ((sLen : Int) + (n : Int))) := by omega
    have h48' : ¬ (281474976710656 < Builtin.nextslicecap (sLen + n) sCap * i.bytes) := by omega
    rw [hz] at hz'
    injection hz' with hz'
    subst hz'
    have h0 : n ≠ 0 := by omega
    have hns : ¬ (n * i.size = 0) := Nat.mul_ne_zero h0 (by omega)
    simp [Builtin.append_, run_underlying ht, run_underlying htn, Go.sizeOf, Go.typeInfo, Go.zeroValue, hi, hz, asInt, asIntOf, hw, hn, hneg, hns, h63', h48', hb', Question.forced, hold, newRow, grownCap, hzr, h0]
    congr 2
    apply Array.ext'
    simp [List.append_assoc]

theorem All2.size_append {α β : Type} {R : α → β → Prop} {a b : List α} {a' b' : List β} (h : All2 R a a') (k : All2 R b b') : (a' ++ b').length = (a ++ b).length := (h.append k).length

/-- A new row with more room than is filled. -/
theorem grow_rel {sz : Nat} (r : Rel x j B w) (hng : x.ng ≤ x.n) (hn : j (x.n + sz) = none) {cs cs' : List Value} (hcs : All2 (SR j) cs cs') {rest : Array Value} {el : TypeId} {len cap size : Nat} (hlen : len ≤ cap) (hrow : cs'.length + rest.size = cap * size) :
    ∃ j', Rel x j' (Bput B sz (.cells cs)) (w.drew.alloc (.cells (cs'.toArray ++ rest) el)) ∧ (∀ m, Ext x j sz m w j' (sz + 1) (w.drew.alloc (.cells (cs'.toArray ++ rest) el))) ∧
      SR j' (.slice (some ⟨x.n + sz, 0, none⟩) len (unk + size)) (.slice (some ⟨w.heap.size, 0, none⟩) len cap) := by
  have hlen0 : j.len w.heap.size = none := by
    cases h : j.len w.heap.size with
    | none => rfl
    | some l => have := r.len_lt h; omega
  have hw : (w.drew.alloc (.cells (cs'.toArray ++ rest) el)).heap = w.heap.push (.cells (cs'.toArray ++ rest) el) := rfl
  have r1 := r.alloc (w' := w.drew.alloc (.cells (cs'.toArray ++ rest) el)) (cs := cs) hn hw (fun i v hv => by
    obtain ⟨v', h1, h2⟩ := hcs.at_ i v hv
    refine ⟨v', ?_, h2⟩
    have h3 : i < cs'.length := (List.getElem?_eq_some_iff.1 h1).1
    rw [Array.getElem?_append_left (by simpa using h3)]
    simpa using h1) hng
  have r2 := r1.setLen (c := w.heap.size) (l := cap * size) hlen0 (cur := cs'.toArray ++ rest) (t := el) (by rw [hw]; simp) (by simp [hrow])
  refine ⟨_, r2, fun m => (Ext.alloc (w := w) (w' := w.drew.alloc (.cells (cs'.toArray ++ rest) el)) m hn ⟨rfl, rfl, rfl, by rw [hw]; simp⟩ hw).setLen hlen0, .slice ⟨rfl, rfl, w.heap.size, 0, by simp [Inj.setLen, Inj.put], rfl, rfl⟩ (.inr ⟨hlen, size, cap * size, rfl, by simp [Inj.setLen], by simp⟩)⟩

theorem zeroCells_size (z : Array Value) (n : Nat) : (Builtin.zeroCells z n).size = n * z.size := by simp [Builtin.zeroCells]

theorem appendTo_ok {hp : AH} (ht : TabsOK P T) (hx : hp.of x) (hwf : hp.wf) (hng : x.ng ≤ x.n) (r : Rel x j B w) {t tx ty el : TypeId} {ei : TI} {i : TypeInfo} {z : Value} (hu : P.underlying t = some (.slice el)) (hi : P.info? el = some i)
    (hsz : i.size = ei.size) (hby : i.bytes = ei.bytes) (hz : i.zero = some z) (hzc : z.cells = ⟨ei.zero⟩) (hzl : ei.zero.length = ei.size) (hpos : 0 < ei.size)
    {base : Option Addr} {sLen sCap n : Nat} {news news' : List Value} {rd rd' : List Nat} {s' y' v : Value} {e : Eff} (hn : hp.sz < esz hp.sz e → j (x.n + hp.sz) = none) (h : aappendTo hp ei base sLen sCap n news rd = some (.val v e rd')) (hs : VR j (.slice base sLen sCap) s')
    (hy : AS P el i tx y' n news' w) (hnl : news.length = n * ei.size) (hnews : All2 (SR j) news news') (hB : ∀ k, k ∈ rd' → B k = hp.blk k) (hBw : ∀ k, k ∈ e.wr → B k = hp.blk k) :
    Out P x j B hp.sz w (nv (Builtin.append_ #[t, tx] ty #[s', y'])) v e := by
  have hnl' : news'.length = n * ei.size := by rw [hnews.length, hnl]
  unfold aappendTo at h
  cases h0 : Nat.beq n 0 with
  | true =>
    rw [h0] at h
    simp only [cond] at h
    have h0 : n = 0 := by simpa [Nat.beq_eq] using h0
    subst h0
    cases hb : Nat.ble sLen sCap with
    | false => rw [hb] at h; cases h
    | true =>
      rw [hb] at h
      simp only [cond] at h
      injection h with h
      injection h with h1 h2 h3
      subst h1 h2
      have hb := Nat.le_of_ble_eq_true hb
      have hnil : news' = [] := List.eq_nil_of_length_eq_zero (by simpa using hnl')
      subst hnil
      cases base with
      | none =>
        have hs0 := hs
        obtain ⟨a', rfl, _, _⟩ := hs.slice0
        refine Out.pure r (nv_run ?_) hs0
        rw [hy.room t ty a' sLen sCap hu hi hb]
        cases a' <;> simp [storeAt, storeCells]
      | some a =>
        have hs0 := hs
        obtain ⟨ad, c', rfl, had, hcc⟩ := hs.slice
        have hle : sLen ≤ c' := by
          rcases hcc with ⟨h1, h2⟩ | h2
          · omega
          · exact h2.1
        refine Out.pure r (nv_run ?_) hs0
        rw [hy.room t ty (some ad) sLen c' hu hi hle]
        simp [storeAt, storeCells]
  | false =>
    rw [h0] at h
    simp only [cond] at h
    have h0 : 0 < n := by
      rcases Nat.eq_zero_or_pos n with h1 | h1
      · subst h1; cases h0
      · exact h1
    cases hc : Nat.ble unk sCap with
    | true =>
      rw [hc] at h
      simp only [cond] at h
      have hc := Nat.le_of_ble_eq_true hc
      split at h
      · rename_i b off
        cases hq : Nat.blt b hp.n with
        | true => rw [hq] at h; cases h
        | false =>
          rw [hq] at h
          simp only [cond] at h
          have hble := blt_false hq
          split at h
          · rename_i old hcut
            cases hb : (Nat.ble ((sLen + n) * ei.bytes) 70368744177664 && Nat.ble (sLen + n) 70368744177664 && Nat.beq sCap (unk + ei.size)) with
            | false => rw [hb] at h; cases h
            | true =>
              rw [hb] at h
              simp only [cond] at h
              injection h with h
              injection h with h1 h2 h3
              subst h1 h2 h3
              simp only [Bool.and_eq_true, Nat.ble_eq, Nat.beq_eq] at hb
              obtain ⟨⟨hb1, hb2⟩, hb3⟩ := hb
              rw [hx.2.1] at hble hBw ⊢
              have hBb : x.n ≤ b → B (b - x.n) = hp.blk (b - x.n) := fun _ => hBw _ (by simp [Eff.wr])
              have hBk := hBb hble
              obtain ⟨ad, c', rfl, had, hcc⟩ := hs.slice
              obtain ⟨hle, es, ln, hcc, hln, hrow⟩ : CapR j ad sLen sCap c' := by
                rcases hcc with ⟨h1, h2⟩ | h2
                · omega
                · exact h2
              obtain rfl : es = ei.size := by omega
              obtain ⟨l1, old', hold, hcell⟩ := AH.cut_rel hx r hBb hcut had
              have hblk : ∃ cs0, B (b - x.n) = some (.cells cs0) := by
                unfold AH.cut at hcut
                rw [hq] at hcut
                simp only [cond] at hcut
                split at hcut
                · rename_i cs0 h4
                  rw [hx.2.1] at h4
                  exact ⟨cs0, by rw [hBk, h4]⟩
                · cases hcut
              obtain ⟨cs0, hblk⟩ := hblk
              have hks : b - x.n < hp.sz := by
                rw [hBk] at hblk
                exact AH.wf_lt hwf hblk
              by_cases hroom : sLen + n ≤ c'
              · obtain ⟨_, h5, c, s, h6, h7, h8⟩ := had
                obtain ⟨ab, ao, asp⟩ := ad
                have h5 : asp = none := h5
                have h7 : ab = c := h7
                subst h5 h7
                have h8 : ao = off + s := h8
                obtain ⟨cur, tt, h9, h10⟩ := r.lens ab ln hln
                have hmul : sLen * ei.size + n * ei.size ≤ c' * ei.size := by rw [← Nat.add_mul]; exact Nat.mul_le_mul_right _ hroom
                have hrow : ao + c' * ei.size ≤ ln := hrow
                have hrun := run_storeCells_at P ab (ao + sLen * ei.size) tt news' 0 cur w h9 (by omega) (SR.oneCells hnews)
                have hj : j (x.n + (b - x.n)) = some (ab, s) := by rw [show x.n + (b - x.n) = b by omega]; exact h6
                have holdl : old'.length = sLen * ei.size := by rw [hold.length, l1]
                have hrow' : ∀ cur0 t0 f0, w.heap[ab]? = some (.cells cur0 t0 f0) → (cur.toList.take (ao + sLen * ei.size + 0) ++ news' ++ cur.toList.drop (ao + sLen * ei.size + 0 + news'.length)).toArray.size = cur0.size := fun cur0 _ _ hh => by
                  rw [h9] at hh
                  injection hh with hh
                  injection hh with hh
                  rw [← hh]
                  simp
                  omega
                have hoth : ∀ i, i ≠ ab → (w.setRow ab (cur.toList.take (ao + sLen * ei.size + 0) ++ news' ++ cur.toList.drop (ao + sLen * ei.size + 0 + news'.length)).toArray).heap[i]? = w.heap[i]? := fun i hi => setRow_other w ab i _ hi
                refine ⟨.value (.slice (some ⟨ab, ao, none⟩) (sLen + n) c'), _, _, j.put (x.n + hp.sz) (ab, ao), nv_run ?_, .inl rfl, ?_,
                  r.take hj hblk (hn (Nat.lt_succ_self _)) (s' := ao) (setRow_heap w ab cur _ tt _ h9) hrow' hoth (by simp) (cs := old ++ news) ?_ hng, Ext.take hj (Nat.le_refl _) hks (hn (Nat.lt_succ_self _)) ⟨rfl, rfl, rfl, by simp⟩ hoth⟩
                · rw [hy.room t ty _ sLen c' hu hi hroom]
                  simp only [storeAt, hsz, Addr.add_lit]
                  rw [Sem.run_bind, hrun]
                  rfl
                · exact .of (.slice ⟨rfl, rfl, ab, ao, by simp [Inj.put], rfl, by simp⟩ (.inr ⟨hroom, ei.size, ln, rfl, hln, hrow⟩))
                · intro i v hv
                  rw [List.getElem?_append] at hv
                  simp only [Nat.add_zero, List.getElem?_toArray, List.append_assoc, List.getElem?_append, List.length_take, Array.length_toList, List.getElem?_take, List.getElem?_drop]
                  split at hv
                  · rename_i h11
                    obtain ⟨v', h12, h13⟩ := hold.at_ _ _ hv
                    refine ⟨v', ?_, h13⟩
                    rw [if_pos (by omega), if_pos (by omega)]
                    have h14 := hcell i v' h12
                    rw [Addr.add_lit] at h14
                    simp only [World.cell?, h9] at h14
                    rw [Nat.add_comm i ao]
                    simpa using h14
                  · rename_i h11
                    obtain ⟨v', h12, h13⟩ := hnews.at_ _ _ hv
                    refine ⟨v', ?_, h13⟩
                    have h14 : i - old.length < news'.length := (List.getElem?_eq_some_iff.1 h12).1
                    rw [if_neg (by omega), if_pos (by omega), show i + ao - min (ao + sLen * ei.size) cur.size = i - old.length by omega]
                    exact h12
              · have hg : c' < sLen + n := by omega
                have hge := grownCap_ge w (sLen + n) c' el
                obtain ⟨j', g1, g2, g3⟩ := grow_rel (sz := hp.sz) (len := sLen + n) (cap := grownCap w (sLen + n) c' el) (size := ei.size) (el := el) (rest := Builtin.zeroCells z.cells (grownCap w (sLen + n) c' el - (sLen + n))) (r.kill (b - x.n)) hng (hn (Nat.lt_succ_self _)) (hold.append hnews) hge (by
                  rw [zeroCells_size, hzc, List.length_append, hold.length, l1, hnl', ← Nat.add_mul]
                  simp only [List.size_toArray, hzl]
                  rw [← Nat.add_mul]
                  congr 1
                  omega)
                refine ⟨.value (.slice (some ⟨w.heap.size, 0, none⟩) (sLen + n) (grownCap w (sLen + n) c' el)), _, _, j', nv_run ?_, .inl rfl, ?_, g1, g2 _⟩
                · refine hy.grow t ty (some ad) sLen c' z old' hu hi hz h0 hg (by omega) ?_ ?_
                  · rw [hby]
                    exact growslice_fits hg (by omega)
                  · rw [hsz]
                    exact run_firstCells_some w.drew ei.size sLen ad sLen c' old' (by rw [hold.length, l1]) fun i v hv => hcell i v hv
                · exact .of g3
          · cases h
      · cases h
    | false =>
      rw [hc] at h
      simp only [cond] at h
      have hc : sCap < unk := by
        rcases Nat.lt_or_ge sCap unk with h1 | h1
        · exact h1
        · rw [Nat.ble_eq_true_of_le h1] at hc; cases hc
      cases hr : Nat.ble (sLen + n) sCap with
      | true =>
        rw [hr] at h
        simp only [cond] at h
        have hr := Nat.le_of_ble_eq_true hr
        split at h
        · rename_i b off
          cases hq : Nat.blt b hp.n with
          | true => rw [hq] at h; cases h
          | false =>
            rw [hq] at h
            simp only [cond] at h
            have hble := blt_false hq
            split at h
            · rename_i cs hcs
              split at h
              · rename_i cs1 hput
                injection h with h
                injection h with h1 h2 h3
                subst h1 h2 h3
                rw [hx.2.1] at hble hBw hcs ⊢
                have hs0 := hs
                obtain ⟨ad, c', rfl, had, hcc⟩ := hs.slice
                obtain rfl : sCap = c' := by
                  rcases hcc with ⟨h1, h2⟩ | ⟨_, _, _, h1, _⟩
                  · exact h1
                  · omega
                obtain ⟨w', h6, h7, h8, h9⟩ := puts_ok (P := P) hx hwf r hble hcs (hBw _ (by simp [Eff.wr])) hput hnews had.add
                refine ⟨.value (.slice (some ad) (sLen + n) sCap), _, w', j, nv_run ?_, .inl rfl, .of (.slice had (.inl ⟨rfl, hc⟩)), h8, h9⟩
                rw [hy.room t ty _ sLen sCap hu hi hr]
                simp only [storeAt, hsz]
                rw [Sem.run_bind, h6]
                rfl
              · cases h
            · cases h
        · cases h
      | false =>
        rw [hr] at h
        simp only [cond] at h
        have hg : sCap < sLen + n := by
          rcases Nat.lt_or_ge sCap (sLen + n) with h1 | h1
          · exact h1
          · rw [Nat.ble_eq_true_of_le h1] at hr; cases hr
        split at h
        · rename_i old rd1 hsrc
          cases hb : (Nat.ble ((sLen + n) * ei.bytes) 70368744177664 && Nat.ble (sLen + n) 70368744177664) with
          | false => rw [hb] at h; cases h
          | true =>
            rw [hb] at h
            simp only [cond] at h
            injection h with h
            injection h with h1 h2 h3
            subst h1 h2 h3
            simp only [Bool.and_eq_true, Nat.ble_eq] at hb
            obtain ⟨hb1, hb2⟩ := hb
            obtain ⟨l1, old', hold, hfc⟩ := src_rel (P := P) hx r hsrc hs fun k hk => hB k (by simp [hk])
            have hs' : ∃ base', s' = .slice base' sLen sCap := by
              cases base with
              | none => obtain ⟨a', rfl, _, _⟩ := hs.slice0; exact ⟨a', rfl⟩
              | some a =>
                obtain ⟨ad, c', rfl, had, hcc⟩ := hs.slice
                rcases hcc with ⟨h1, h2⟩ | ⟨_, _, _, h1, _⟩
                · subst h1; exact ⟨_, rfl⟩
                · omega
            obtain ⟨base', rfl⟩ := hs'
            have hge := grownCap_ge w (sLen + n) sCap el
            obtain ⟨j', g1, g2, g3⟩ := grow_rel (sz := hp.sz) (len := sLen + n) (cap := grownCap w (sLen + n) sCap el) (size := ei.size) (el := el) (rest := Builtin.zeroCells z.cells (grownCap w (sLen + n) sCap el - (sLen + n))) r hng (hn (Nat.lt_succ_self _)) (hold.append hnews) hge (by
              rw [zeroCells_size, hzc, List.length_append, hold.length, l1, hnl', ← Nat.add_mul]
              simp only [List.size_toArray, hzl]
              rw [← Nat.add_mul]
              congr 1
              omega)
            refine ⟨.value (.slice (some ⟨w.heap.size, 0, none⟩) (sLen + n) (grownCap w (sLen + n) sCap el)), _, _, j', nv_run ?_, .inl rfl, ?_, g1, g2 _⟩
            · refine hy.grow t ty base' sLen sCap z old' hu hi hz h0 hg (by omega) ?_ ?_
              · rw [hby]
                exact growslice_fits hg (by omega)
              · rw [hsz]
                exact hfc w.drew rfl
            · rw [hx.2.1]
              exact .of g3
        · cases h

theorem isInt_eq {k : TK} (h : isInt k = true) : ∃ i, k = .int i := by
  cases k <;> simp_all [isInt]

theorem append_ok {hp : AH} (ht : TabsOK P T) (hx : hp.of x) (hwf : hp.wf) (hng : x.ng ≤ x.n) (r : Rel x j B w) {st xt ty : TypeId} {s s' y y' v : Value} {e : Eff} {rd : List Nat} (hn : hp.sz < esz hp.sz e → j (x.n + hp.sz) = none) (h : aappend T hp st xt s y = some (.val v e rd))
    (hs : VR j s s') (hy : VR j y y') (hB : ∀ k, k ∈ rd → B k = hp.blk k) (hBw : ∀ k, k ∈ e.wr → B k = hp.blk k) : Out P x j B hp.sz w (nv (Builtin.append_ #[st, xt] ty #[s', y'])) v e := by
  unfold aappend at h
  split at h
  · rename_i ti xi base sLen sCap hti hxi
    split at h
    · rename_i el hk
      split at h
      · rename_i ei hei
        cases hb : (Nat.ble 1 ei.size && Nat.ble 1 ei.bytes) with
        | false => rw [hb] at h; cases h
        | true =>
          rw [hb] at h
          simp only [cond] at h
          simp only [Bool.and_eq_true, Nat.ble_eq] at hb
          have hty := ht.ty el ei hei
          obtain ⟨i, z, i1, i2, i3, i4, i5⟩ := hty.info
          have hu := kind_slice ht hti hk
          obtain ⟨d, d1, _, d3⟩ := (ht.ty xt xi hxi).desc
          cases hi : isInt xi.k with
          | true =>
            rw [hi] at h
            simp only [cond] at h
            obtain ⟨ki, hki⟩ := isInt_eq hi
            rw [hki] at d3
            have d3 : d = .int ki := d3
            subst d3
            split at h
            · rename_i l
              cases hc : (decide (0 ≤ l) && Nat.ble (l.toNat * ei.bytes) 70368744177664 && Nat.ble l.toNat 70368744177664) with
              | false => rw [hc] at h; cases h
              | true =>
                rw [hc] at h
                simp only [cond] at h
                simp only [Bool.and_eq_true, Nat.ble_eq, decide_eq_true_eq] at hc
                obtain ⟨⟨hc1, hc2⟩, hc3⟩ := hc
                obtain ⟨k, rfl⟩ := Int.eq_ofNat_of_zero_le hc1
                simp only [Int.toNat_natCast] at hc2 hc3 h
                obtain rfl := hy.int
                have hw : IntKind.i64.wrap (k : Int) = k := by rw [IntKind.wrap_i64]; omega
                have hzl : ei.zero.length = i.size := by rw [i2]; exact hty.zlen
                have has := AS.ofZeros (P := P) (e := el) (i := i) (w := w) d1 i4 i5 hzl (by omega) hw (by rw [i3]; omega)
                exact appendTo_ok ht hx hwf hng r hu i1 i2 i3 i4 i5 hty.zlen hb.1 hn h hs has (by rw [reps_length, hty.zlen]) (All2.refl (reps_sr (hty.zsr j) k)) hB hBw
            · cases h
          | false =>
            rw [hi] at h
            simp only [cond] at h
            cases hq : isSeq xi.k with
            | false => rw [hq] at h; cases h
            | true =>
              rw [hq] at h
              simp only [cond] at h
              split at h
              · rename_i n hlen
                split at h
                · rename_i news rd1 hsrc
                  have hkind : (∃ e', P.underlying xt = some (.slice e')) ∨ P.underlying xt = some .string := by
                    cases hxk : xi.k <;> rw [hxk] at hq d3 <;> simp [isSeq] at hq
                    · have d3 : d = .string := d3
                      exact .inr (by rw [d1, d3])
                    · rename_i e'
                      have d3 : d = .slice e' := d3
                      exact .inl ⟨e', by rw [d1, d3]⟩
                  have hsub : ∀ k, k ∈ rd1 → k ∈ rd := by
                    intro k hk
                    clear hB hBw hkind hq hi
                    unfold aappendTo at h
                    cases g1 : Nat.beq n 0 <;> rw [g1] at h <;> simp only [cond] at h
                    · cases g2 : Nat.ble unk sCap <;> rw [g2] at h <;> simp only [cond] at h
                      · cases g3 : Nat.ble (sLen + n) sCap <;> rw [g3] at h <;> simp only [cond] at h
                        · split at h
                          · cases g4 : (Nat.ble ((sLen + n) * ei.bytes) 70368744177664 && Nat.ble (sLen + n) 70368744177664) <;> rw [g4] at h <;> simp only [cond] at h
                            · cases h
                            · injection h with h; injection h with _ _ h3; rw [← h3]; simp [hk]
                          · cases h
                        · split at h
                          · rename_i b off
                            cases g4 : Nat.blt b hp.n <;> rw [g4] at h <;> simp only [cond] at h
                            · split at h
                              · split at h
                                · injection h with h; injection h with _ _ h3; rw [← h3]; exact hk
                                · cases h
                              · cases h
                            · cases h
                          · cases h
                      · split at h
                        · rename_i b off
                          cases g4 : Nat.blt b hp.n <;> rw [g4] at h <;> simp only [cond] at h
                          · split at h
                            · cases g5 : (Nat.ble ((sLen + n) * ei.bytes) 70368744177664 && Nat.ble (sLen + n) 70368744177664 && Nat.beq sCap (unk + ei.size)) <;> rw [g5] at h <;> simp only [cond] at h
                              · cases h
                              · injection h with h; injection h with _ _ h3; rw [← h3]; exact hk
                            · cases h
                          · cases h
                        · cases h
                    · cases g2 : Nat.ble sLen sCap <;> rw [g2] at h <;> simp only [cond] at h
                      · cases h
                      · injection h with h; injection h with _ _ h3; rw [← h3]; exact hk
                  obtain ⟨l1, news', hnews, hfc⟩ := src_rel (P := P) hx r hsrc hy fun k hk => hB k (hsub k hk)
                  have has := AS.ofSeq (e := el) (i := i) (w := w) hkind (fun w' => lenV_run hlen hy w') (by rw [i2]; exact hfc)
                  exact appendTo_ok ht hx hwf hng r hu i1 i2 i3 i4 i5 hty.zlen hb.1 hn h hs has l1 hnews hB hBw
                · cases h
              · cases h
      · cases h
    · cases h
  · cases h

/-! ### the other builtins -/
def BaseR (j : Inj) : Option Addr → Option Addr → Prop
  | none, _ => True
  | some a, some a' => AddrR j a a'
  | _, _ => False

theorem VR.base {a : Option Addr} {n c : Nat} {v' : Value} (h : VR j (.slice a n c) v') : ∃ a' c', v' = .slice a' n c' ∧ BaseR j a a' := by
  cases a with
  | none => obtain ⟨a', rfl, _, _⟩ := h.slice0; exact ⟨a', c, rfl, trivial⟩
  | some a => obtain ⟨a', c', rfl, h1, _⟩ := h.slice; exact ⟨some a', c', rfl, h1⟩

def putAt (base : Option Addr) (vs : List Value) : Sem Unit :=
  match base with
  | some a => storeCells a vs
  | none => pure ()

theorem aputs_ok {hp : AH} (hx : hp.of x) (hwf : hp.wf) (r : Rel x j B w) {base base' : Option Addr} {cs cs' : List Value} {v v2 : Value} {e : Eff} {rd rd2 : List Nat} (h : aputs hp base cs v rd = some (.val v2 e rd2)) (hb : BaseR j base base')
    (hcs : All2 (SR j) cs cs') (hBw : ∀ k, k ∈ e.wr → B k = hp.blk k) :
    v2 = v ∧ rd2 = rd ∧ ∃ w', (putAt base' cs').run P w = .ok () w' ∧ Rel x j (Bapp B hp.sz e) w' ∧ Ext x j hp.sz e.low w j (esz hp.sz e) w' := by
  unfold aputs at h
  split at h
  · injection h with h
    injection h with h1 h2 h3
    subst h1 h2 h3
    cases hcs
    exact ⟨rfl, rfl, w, by cases base' <;> simp [putAt, storeCells], r, Ext.refl _ _ _ _ _⟩
  · split at h
    · rename_i b off
      cases hq : Nat.blt b hp.n with
      | true => rw [hq] at h; cases h
      | false =>
        rw [hq] at h
        simp only [cond] at h
        have hble := blt_false hq
        split at h
        · rename_i row hrow
          split at h
          · rename_i row1 hput
            injection h with h
            injection h with h1 h2 h3
            subst h1 h2 h3
            rw [hx.2.1] at hble hBw hrow ⊢
            cases base' with
            | none => exact absurd hb (by simp [BaseR])
            | some a' =>
              obtain ⟨w', h6, h7, h8, h9⟩ := puts_ok (P := P) hx hwf r hble hrow (hBw _ (by simp [Eff.wr])) hput hcs hb
              exact ⟨rfl, rfl, w', h6, h8, h9⟩
          · cases h
        · cases h
    · cases h

theorem copy_ok {hp : AH} (ht : TabsOK P T) (hx : hp.of x) (hwf : hp.wf) (r : Rel x j B w) {dt ty : TypeId} {tys : Array TypeId} (htys : tys[0]? = some dt) {d d' y y' v : Value} {e : Eff} {rd : List Nat} (h : acopy T hp dt d y = some (.val v e rd))
    (hd : VR j d d') (hy : VR j y y') (hB : ∀ k, k ∈ rd → B k = hp.blk k) (hBw : ∀ k, k ∈ e.wr → B k = hp.blk k) : Out P x j B hp.sz w (nv (Builtin.copy_ tys ty #[d', y'])) v e := by
  unfold acopy at h
  split at h
  · rename_i ti base dLen dCap sLen hti hlen
    split at h
    · rename_i el hk
      split at h
      · rename_i ei hei
        split at h
        · rename_i cs rd1 hsrc
          obtain ⟨a', c', rfl, hb⟩ := hd.base
          have hrd : rd = rd1 := by
            unfold aputs at h
            split at h
            · injection h with h; injection h with _ _ h3; exact h3.symm
            · split at h
              · rename_i b off
                cases hq : Nat.blt b hp.n <;> rw [hq] at h <;> simp only [cond] at h
                · split at h
                  · split at h
                    · injection h with h; injection h with _ _ h3; exact h3.symm
                    · cases h
                  · cases h
                · cases h
              · cases h
          subst hrd
          obtain ⟨l1, cs', hcs, hfc⟩ := src_rel (P := P) hx r hsrc hy hB
          obtain ⟨rfl, _, w', h1, h2, h3⟩ := aputs_ok (P := P) hx hwf r h hb hcs hBw
          have hsz := (ht.ty el ei hei).sizeOf w
          have hl := lenV_run (P := P) hlen hy w
          refine ⟨_, _, w', j, nv_run (v := .int .i64 (Nat.min sLen dLen)) ?_, .inl rfl, .of (.int _ _), h2, h3⟩
          have hu := kind_slice ht hti hk
          cases a' with
          | none =>
            simp only [putAt, Sem.run_pure] at h1
            injection h1 with _ h1
            subst h1
            simp only [Builtin.copy_, htys]
            simp [run_underlying hu, hl, hsz, hfc w rfl, goInt]
          | some a' =>
            simp only [putAt] at h1
            simp only [Builtin.copy_, htys]
            simp [run_underlying hu, hl, hsz, hfc w rfl, goInt, h1]
        · cases h
      · cases h
    · cases h
  · cases h

theorem zeroCells_reps {z : Value} {zc : List Value} (hzc : z.cells = ⟨zc⟩) (n : Nat) : Builtin.zeroCells z.cells n = ⟨reps n zc⟩ := by
  apply Array.ext'
  rcases Nat.eq_zero_or_pos zc.length with h0 | h0
  · have hnil : zc = [] := List.eq_nil_of_length_eq_zero h0
    subst hnil
    have : ∀ n, reps n ([] : List Value) = [] := fun n => by induction n with | zero => rfl | succ n ih => simp [reps, ih]
    rw [hzc]
    simp [Builtin.zeroCells, this]
  · have := range_map z.cells n (by rw [hzc]; simpa using h0)
    rw [hzc] at this ⊢
    exact this

theorem clear_ok {hp : AH} (ht : TabsOK P T) (hx : hp.of x) (hwf : hp.wf) (r : Rel x j B w) {t ty : TypeId} {tys : Array TypeId} (htys : tys[0]? = some t) {d d' v : Value} {e : Eff} {rd : List Nat} (h : aclear T hp t d = some (.val v e rd))
    (hd : VR j d d') (hBw : ∀ k, k ∈ e.wr → B k = hp.blk k) : Out P x j B hp.sz w (nv (Builtin.clear_ tys ty #[d'])) v e := by
  unfold aclear at h
  split at h
  · rename_i ti base n c hti
    split at h
    · rename_i el hk
      split at h
      · rename_i ei hei
        obtain ⟨a', c', rfl, hb⟩ := hd.base
        have hty := ht.ty el ei hei
        obtain ⟨z, z1, z2⟩ := hty.zeroValue w
        have hu := kind_slice ht hti hk
        obtain ⟨rfl, _, w', h1, h2, h3⟩ := aputs_ok (P := P) hx hwf r h hb (All2.refl (reps_sr (hty.zsr j) n)) hBw
        refine ⟨_, _, w', j, nv_run (v := .tuple #[]) ?_, .inl rfl, .tup .nil, h2, h3⟩
        cases a' with
        | none =>
          simp only [putAt, Sem.run_pure] at h1
          injection h1 with _ h1
          subst h1
          simp only [Builtin.clear_, htys]
          simp [run_underlying hu]
        | some a' =>
          simp only [putAt] at h1
          cases n with
          | zero =>
            simp only [reps, storeCells] at h1
            have h1 : Result.ok () w = Result.ok () w' := h1
            injection h1 with _ h1
            subst h1
            simp only [Builtin.clear_, htys]
            simp [run_underlying hu]
          | succ n =>
            have hz := zeroCells_reps z2 (n + 1)
            simp only [Builtin.clear_, htys]
            simp [run_underlying hu, z1, hz, h1]
      · cases h
    · cases h
  · cases h

theorem len_ok {sz : Nat} (ht : TabsOK P T) (r : Rel x j B w) {t ty : TypeId} {tys : Array TypeId} (htys : tys[0]? = some t) {d d' v : Value} {e : Eff} {rd : List Nat} (h : alen T t d = some (.val v e rd)) (hd : VR j d d') :
    Out P x j B sz w (nv (Builtin.len_ tys ty #[d'])) v e := by
  unfold alen at h
  split at h
  · rename_i ti hti
    split at h
    · rename_i s hk
      obtain ⟨rfl, rfl, rfl⟩ := ok_some h
      obtain rfl := hd.str
      refine Out.pure r (nv_run (v := .int .i64 s.data.toList.length) ?_) (.of (.int _ _))
      simp only [Builtin.len_, htys]
      simp [run_underlying (kind_string ht hti hk), goInt]
    · rename_i el a n c hk
      obtain ⟨rfl, rfl, rfl⟩ := ok_some h
      obtain ⟨a', c', rfl, _⟩ := hd.base
      refine Out.pure r (nv_run (v := .int .i64 n) ?_) (.of (.int _ _))
      simp only [Builtin.len_, htys]
      simp [run_underlying (kind_slice ht hti hk), goInt]
    · rename_i n el hk
      obtain ⟨rfl, rfl, rfl⟩ := ok_some h
      refine Out.pure r (nv_run (v := .int .i64 n) ?_) (.of (.int _ _))
      simp only [Builtin.len_, htys]
      simp [run_underlying (kind_array ht hti hk), goInt]
    · cases h
  · cases h

theorem cap_ok {sz : Nat} (ht : TabsOK P T) (r : Rel x j B w) {t ty : TypeId} {tys : Array TypeId} (htys : tys[0]? = some t) {d d' v : Value} {e : Eff} {rd : List Nat} (h : acap T t d = some (.val v e rd)) (hd : VR j d d') :
    Out P x j B sz w (nv (Builtin.cap_ tys ty #[d'])) v e := by
  unfold acap at h
  split at h
  · rename_i ti hti
    split at h
    · rename_i el a n c hk
      cases hb : Nat.ble unk c with
      | true => rw [hb] at h; cases h
      | false =>
        rw [hb] at h
        obtain ⟨rfl, rfl, rfl⟩ := ok_some h
        have hc : c < unk := by
          rcases Nat.lt_or_ge c unk with h1 | h1
          · exact h1
          · rw [Nat.ble_eq_true_of_le h1] at hb; cases hb
        have hd' : ∃ a', d' = .slice a' n c := by
          cases a with
          | none => obtain ⟨a', rfl, _, _⟩ := hd.slice0; exact ⟨a', rfl⟩
          | some a =>
            obtain ⟨a', c', rfl, _, h1⟩ := hd.slice
            rcases h1 with ⟨h1, _⟩ | ⟨_, _, _, h1, _⟩
            · subst h1; exact ⟨some a', rfl⟩
            · omega
        obtain ⟨a', rfl⟩ := hd'
        refine Out.pure r (nv_run (v := .int .i64 c) ?_) (.of (.int _ _))
        simp only [Builtin.cap_, htys]
        simp [run_underlying (kind_slice ht hti hk), goInt]
    · cases h
  · cases h

theorem extreme_run (mx : Bool) : ∀ (l : List Value) (v r : Value) (l' : List Value) (v' : Value), aextreme mx v l = some r → (∃ k n, v = .int k n) → VR j v v' → All2 (VR j) l l' →
    (∃ k n, r = .int k n) ∧ ∀ w : World, (l'.foldlM (if mx then Builtin.max2 else Builtin.min2) v').run P w = .ok r w
  | [], v, r, _, v', h, hv, hvr, .nil => by
    simp only [aextreme, Option.some.injEq] at h
    subst h
    obtain ⟨k, n, rfl⟩ := hv
    obtain rfl := hvr.int
    exact ⟨⟨k, n, rfl⟩, fun w => by simp⟩
  | y :: l, v, r, _, v', h, hv, hvr, .cons (y := y') hy hl => by
    unfold aextreme at h
    obtain ⟨k, n, rfl⟩ := hv
    obtain rfl := hvr.int
    split at h
    · rename_i h1; cases h1
    · rename_i k0 n0 k' m rest h1 h2
      injection h1 with h1 h1'
      subst h1 h1'
      injection h2 with h2 h2'
      subst h2 h2'
      obtain rfl := hy.int
      cases hb : decide (k = k') with
      | false => rw [hb] at h; cases h
      | true =>
        rw [hb] at h
        simp only [cond] at h
        obtain rfl := of_decide_eq_true hb
        obtain ⟨h3, h4⟩ := extreme_run mx l _ r _ _ h ⟨_, _, rfl⟩ (.of (.int _ _)) hl
        refine ⟨h3, fun w => ?_⟩
        rw [List.foldlM_cons, Sem.run_bind]
        cases mx with
        | true =>
          have := h4 w
          simp only [if_true] at this ⊢
          simp only [Builtin.max2, Sem.run_pure, Result.andThen_ok]
          rw [← this]
          congr 3
          by_cases hc : m > n <;> simp [hc]
        | false =>
          have := h4 w
          simp only [if_false, Bool.false_eq_true] at this ⊢
          simp only [Builtin.min2, Sem.run_pure, Result.andThen_ok]
          rw [← this]
          congr 3
          by_cases hc : m < n <;> simp [hc]
    · cases h

end Go.Vae
end

section
set_option linter.unusedVariables false
set_option linter.unusedSimpArgs false
namespace Go.Vae
open Go Go.RowKit

variable {P : Program} {T : Tabs} {x : Cx} {j : Inj} {B : Nat → Option AO} {w : World}

/-- The operands of an operation stand for the machine's. -/
def EvR (j : Inj) (h : AH) (fr : Fr) (a : Act) (os : Array Operand) : Prop := ∀ o ∈ os, VR j (fr.ev h o) (a.eval o)

theorem FrR.evs {h : AH} (hx : h.of x) (r : Rel x j B w) {nt : Nat} {fr : Fr} {a : Act} (hf : FrR j nt fr a) (os : Array Operand) : EvR j h fr a os := fun o _ => hf.ev hx r o

theorem EvR.list {h : AH} {fr : Fr} {a : Act} {os : Array Operand} (hE : EvR j h fr a os) : ∀ (l : List Operand), (∀ o ∈ l, o ∈ os) → All2 (VR j) (l.map (fr.ev h)) (l.map a.eval)
  | [], _ => .nil
  | o :: l, hl => .cons (hE o (hl o (by simp))) (hE.list l fun o' ho => hl o' (by simp [ho]))

theorem EvR.parts {h : AH} {fr : Fr} {a : Act} {os : Array Operand} (hE : EvR j h fr a os) : ∀ (l : List (Nat × Operand)), (∀ o ∈ l, o.2 ∈ os) →
    All2 (fun p p' => p.1 = p'.1 ∧ VR j p.2 p'.2) (l.map fun p => (p.1, fr.ev h p.2)) (l.map fun p => (p.1, a.eval p.2))
  | [], _ => .nil
  | o :: l, hl => .cons ⟨rfl, hE o.2 (hl o (by simp))⟩ (hE.parts l fun o' ho => hl o' (by simp [ho]))

theorem EvR.opt {h : AH} {fr : Fr} {a : Act} {os : Array Operand} (hE : EvR j h fr a os) : ∀ (l : Option Operand), (∀ o, l = some o → o ∈ os) → OR j (l.map (fr.ev h)) (l.map a.eval)
  | none, _ => .none
  | some o, hl => .some (hE o (hl o rfl))

theorem all_ptr : ∀ {l l' : List Value}, All2 (VR j) l l' → l.all isPtr = true → All2 (fun v v' => ∃ a a', v = .pointer (some a) ∧ v' = .pointer (some a') ∧ AddrR j a a') l l'
  | [], _, .nil, _ => .nil
  | v :: l, _, .cons h t, hp => by
    simp only [List.all_cons, Bool.and_eq_true] at hp
    refine .cons ?_ (all_ptr t hp.2)
    have h1 := hp.1
    unfold isPtr at h1
    split at h1
    · rename_i a
      obtain ⟨a', rfl, h2⟩ := h.ptr
      exact ⟨a, a', rfl, rfl, h2⟩
    · cases h1

theorem op_ok {hp : AH} (ht : TabsOK P T) (hx : hp.of x) (hwf : hp.wf) (hng : x.ng ≤ x.n) (r : Rel x j B w) {fr : Fr} {a : Act} {o : Oper} {v : Value} {e : Eff} {rd : List Nat} (hn : hp.sz < esz hp.sz e → j (x.n + hp.sz) = none) (h : aop T hp (fr.ev hp) o = some (.val v e rd))
    (hE : EvR j hp fr a o.op.operands) (hB : ∀ k, k ∈ rd → B k = hp.blk k) (hBw : ∀ k, k ∈ e.wr → B k = hp.blk k) : Out P x j B hp.sz w (execOp a.eval o) v e := by
  obtain ⟨dst, op, ty, pos, after, guard⟩ := o
  cases op
  case move y =>
    obtain ⟨rfl, rfl, rfl⟩ := ok_some h
    exact Out.pure r rfl (hE y (by simp [Op.operands]))
  case assign y =>
    obtain ⟨rfl, rfl, rfl⟩ := ok_some h
    exact Out.pure r rfl (hE y (by simp [Op.operands]))
  case pick c p q =>
    have hc := hE c (by simp [Op.operands])
    have hp' := hE p (by simp [Op.operands])
    have hq := hE q (by simp [Op.operands])
    simp only [aop] at h
    generalize fr.ev hp c = vc at h hc
    split at h
    · rename_i b
      obtain ⟨rfl, rfl, rfl⟩ := ok_some h
      have hc := hc.bool
      cases b with
      | true => exact Out.pure (v' := a.eval p) r (by simp [execOp, hc, asBool]) hp'
      | false => exact Out.pure (v' := a.eval q) r (by simp [execOp, hc, asBool]) hq
    · cases h
  case alloc t =>
    simp only [aop] at h
    split at h
    · rename_i ti hti
      injection h with h
      injection h with h1 h2 h3
      subst h1 h2
      exact alloc_ok ht hx hng r (hn (Nat.lt_succ_self _)) hti
    · cases h
  case box t y =>
    simp only [aop] at h
    split at h
    · rename_i cs hcs
      injection h with h
      injection h with h1 h2 h3
      subst h1 h2
      exact box_ok hx hng r (hn (Nat.lt_succ_self _)) t (hE y (by simp [Op.operands])) hcs
    · cases h
  case build t ps =>
    have := hE.parts ps.toList (fun o ho => by simp only [Op.operands]; simp; exact ⟨o.1, by simpa using ho⟩)
    exact build_ok ht r h (by rw [Array.toList_map]; exact this)
  case buildSlice t len ps =>
    have := hE.parts ps.toList (fun o ho => by simp only [Op.operands]; simp; exact ⟨o.1, by simpa using ho⟩)
    exact buildSlice_ok ht hx hng r hn h (by rw [Array.toList_map]; exact this)
  case load t y => exact load_ok ht hx r h (hE y (by simp [Op.operands])) hB
  case store t y z => exact store_ok ht hx hwf r h (hE y (by simp [Op.operands])) (hE z (by simp [Op.operands])) hBw
  case nilCheck y =>
    have hy := hE y (by simp [Op.operands])
    rcases nil_ok (sz := hp.sz) r h hy with ⟨⟨b, h1⟩, rfl, rfl⟩ | ⟨⟨f, p, c, h1⟩, rfl, rfl⟩
    · exact Out.pure (v' := a.eval y) r (by simp [execOp, h1]) hy
    · exact Out.pure (v' := a.eval y) r (by simp [execOp, h1]) hy
  case binOp op t y z yt =>
    obtain ⟨h1, rfl, rfl⟩ := okO_some h
    exact bin_ok ht r h1 (hE y (by simp [Op.operands])) (hE z (by simp [Op.operands]))
  case unOp op t y =>
    obtain ⟨h1, rfl, rfl⟩ := okO_some h
    exact un_ok r h1 (hE y (by simp [Op.operands]))
  case convert s d y =>
    simp only [aop] at h
    split at h
    · rename_i ti hti
      obtain ⟨d', d1, _⟩ := (ht.ty s ti hti).desc
      exact convert_ok ht r (by rw [d1]; rfl) h (hE y (by simp [Op.operands]))
    · cases h
  case makeFunc fn first caps =>
    simp only [aop] at h
    cases hf : first.toList.isEmpty with
    | false => rw [hf] at h; cases h
    | true =>
      rw [hf] at h
      simp only [cond] at h
      have hfe : first = #[] := by
        apply Array.ext'
        simpa using hf
      subst hfe
      unfold afunc at h
      split at h
      · rename_i g
        cases hc : (caps.toList.map (fr.ev hp)).all isPtr with
        | false => rw [hc] at h; cases h
        | true =>
          rw [hc] at h
          obtain ⟨rfl, rfl, rfl⟩ := ok_some h
          have h1 := hE.list caps.toList (fun o ho => by simp only [Op.operands]; simpa using ho)
          refine Out.pure (v' := .func (.func g) #[] ⟨caps.toList.map a.eval⟩) r ?_ (.of (.func (all_ptr h1 hc)))
          simp only [execOp, Instr.makeFunc]
          have : caps.map a.eval = ⟨caps.toList.map a.eval⟩ := by apply Array.ext'; simp
          rw [this]
          simp
      · cases h
  case makeSlice t l c => exact make_ok ht hx hng r hn h (hE l (by simp [Op.operands])) (hE c (by simp [Op.operands]))
  case slice t y lo hi mx =>
    exact slice_ok ht r h (hE y (by simp [Op.operands])) (hE.opt lo fun o ho => by simp [Op.operands, ho]) (hE.opt hi fun o ho => by simp [Op.operands, ho]) (hE.opt mx fun o ho => by simp [Op.operands, ho])
  case fieldAddr s y f => exact fieldAddr_ok ht r h (hE y (by simp [Op.operands]))
  case field s y f => exact field_ok ht r h (hE y (by simp [Op.operands]))
  case indexAddr t y i => exact indexAddr_ok ht r h (hE y (by simp [Op.operands])) (hE i (by simp [Op.operands]))
  case index t y i => exact index_ok ht r h (hE y (by simp [Op.operands])) (hE i (by simp [Op.operands]))
  case extract y i => exact extract_ok r h (hE y (by simp [Op.operands]))
  case call c =>
    have hEc : ∀ o ∈ c.args.toList, o ∈ (Op.call c).operands := fun o ho => by
      simp only [Op.operands, Call.operands]
      simp [Array.mem_def.2 ho]
    have hargs := hE.list c.args.toList hEc
    simp only [aop, acall] at h
    split at h
    · rename_i b hcal
      have hres : execOp a.eval ⟨dst, .call c, ty, pos, after, guard⟩ = builtin b c.argTypes ty (c.args.map fun | .const _ => true | _ => false) (c.args.map a.eval) := by
        simp only [execOp, resolve, hcal]
        rfl
      rw [hres]
      have hts : c.argTypes = ⟨c.argTypes.toList⟩ := rfl
      have has : c.args.map a.eval = ⟨c.args.toList.map a.eval⟩ := by apply Array.ext'; simp
      rw [has]
      generalize c.args.toList.map (fr.ev hp) = xs at h hargs
      generalize c.args.toList.map a.eval = ys at hargs ⊢
      generalize (c.args.map fun | .const _ => true | _ => false) = consts
      unfold abuiltin at h
      split at h
      · rename_i t y htl
        cases hargs with
        | cons hy hz => cases hz; exact len_ok ht r (by rw [← Array.getElem?_toList, htl]; rfl) h hy
      · rename_i t y htl
        cases hargs with
        | cons hy hz => cases hz; exact cap_ok ht r (by rw [← Array.getElem?_toList, htl]; rfl) h hy
      · rename_i t u s y htl
        cases hargs with
        | cons hs hz => cases hz with
          | cons hy hz => cases hz; rw [show c.argTypes = #[t, u] from Array.ext' htl]; exact append_ok ht hx hwf hng r hn h hs hy hB hBw
      · rename_i t ts d s htl
        cases hargs with
        | cons hs hz => cases hz with
          | cons hy hz => cases hz; exact copy_ok ht hx hwf r (by rw [← Array.getElem?_toList, htl]; rfl) h hs hy hB hBw
      · rename_i t y htl
        cases hargs with
        | cons hy hz => cases hz; exact clear_ok ht hx hwf r (by rw [← Array.getElem?_toList, htl]; rfl) h hy hBw
      · rename_i y rest
        obtain ⟨h0, rfl, rfl⟩ := okO_some h
        clear h
        cases hargs with
        | cons hy hz =>
          rename_i y' rest'
          by_cases hk : ∃ k n, y = .int k n
          · obtain ⟨h1, h2⟩ := extreme_run (P := P) false _ _ _ _ _ h0 hk hy hz
            obtain ⟨k, n, rfl⟩ := h1
            exact Out.pure r (nv_run (h2 w)) (.of (.int _ _))
          · cases hz with
            | nil =>
              simp only [aextreme, Option.some.injEq] at h0
              subst h0
              exact Out.pure r (nv_run (v := y') rfl) hy
            | cons _ _ =>
              unfold aextreme at h0
              split at h0
              · rename_i h1; cases h1
              · exact absurd ⟨_, _, rfl⟩ hk
              · cases h0
      · rename_i y rest
        obtain ⟨h0, rfl, rfl⟩ := okO_some h
        clear h
        cases hargs with
        | cons hy hz =>
          rename_i y' rest'
          by_cases hk : ∃ k n, y = .int k n
          · obtain ⟨h1, h2⟩ := extreme_run (P := P) true _ _ _ _ _ h0 hk hy hz
            obtain ⟨k, n, rfl⟩ := h1
            exact Out.pure r (nv_run (h2 w)) (.of (.int _ _))
          · cases hz with
            | nil =>
              simp only [aextreme, Option.some.injEq] at h0
              subst h0
              exact Out.pure r (nv_run (v := y') rfl) hy
            | cons _ _ =>
              unfold aextreme at h0
              split at h0
              · rename_i h1; cases h1
              · exact absurd ⟨_, _, rfl⟩ hk
              · cases h0
      · cases h
    · rename_i f hcal
      split at h <;> cases h
    · cases h
  all_goals (simp only [aop] at h; cases h)

end Go.Vae
end

section
set_option linter.unusedVariables false
set_option linter.unusedSimpArgs false
namespace Go.Vae
open Go Go.RowKit

/-! ### an operation reads and writes blocks that are there -/
def AccOK (h : AH) : Option AR → Prop
  | some (.val _ e rd) => (∀ k, k ∈ rd → (h.blk k).isSome = true) ∧ ∀ k, k ∈ e.wr → (h.blk k).isSome = true
  | some (.go _ _) => False
  | none => True

theorem AccOK.none' {h : AH} : AccOK h none := trivial
theorem AccOK.cond {h : AH} {c : Bool} {a b : Option AR} (ha : c = true → AccOK h a) (hb : c = false → AccOK h b) : AccOK h (bif c then a else b) := by
  cases c
  · exact hb rfl
  · exact ha rfl
theorem AccOK.ok {h : AH} {v : Value} : AccOK h (ok v) := ⟨fun _ hk => by simp at hk, fun _ hk => by simp [Eff.wr] at hk⟩
theorem AccOK.okO {h : AH} {v : Option Value} : AccOK h (okO v) := by
  cases v
  · exact trivial
  · exact AccOK.ok
theorem AccOK.new {h : AH} {v : Value} {cs : List Value} : AccOK h (some (.val v (.new cs) [])) := ⟨fun _ hk => by simp at hk, fun _ hk => by simp [Eff.wr] at hk⟩

theorem rdOf_mem {h : AH} {b k : Nat} (hk : k ∈ rdOf h b) : k = b - h.n ∧ Nat.blt b h.n = false := by
  unfold rdOf at hk
  cases hq : Nat.blt b h.n <;> rw [hq] at hk <;> simp at hk
  exact ⟨hk, rfl⟩

theorem cut_acc {h : AH} {b off n : Nat} {cs : List Value} (hc : h.cut b off n = some cs) : ∀ k, k ∈ rdOf h b → (h.blk k).isSome = true := by
  intro k hk
  obtain ⟨rfl, hq⟩ := rdOf_mem hk
  unfold AH.cut at hc
  rw [hq] at hc
  simp only [cond] at hc
  split at hc
  · rename_i l hl; rw [hl]; rfl
  · cases hc

theorem cell_acc {h : AH} {b off : Nat} {v : Value} (hc : h.cell b off = some v) : ∀ k, k ∈ rdOf h b → (h.blk k).isSome = true := by
  intro k hk
  obtain ⟨rfl, hq⟩ := rdOf_mem hk
  unfold AH.cell at hc
  rw [hq] at hc
  simp only [cond] at hc
  split at hc
  · rename_i l hl; rw [hl]; rfl
  · cases hc

theorem loadT_acc {T : Tabs} {h : AH} {t : TypeId} {b off : Nat} {v : Value} (hc : loadT T h t b off = some v) : ∀ k, k ∈ rdOf h b → (h.blk k).isSome = true := by
  unfold loadT at hc
  split at hc
  · rename_i ti hti
    cases ha : ti.agg with
    | true =>
      rw [ha] at hc
      simp only [cond, Option.map_eq_some_iff] at hc
      obtain ⟨cs, h1, _⟩ := hc
      exact cut_acc h1
    | false =>
      rw [ha] at hc
      exact cell_acc hc
  · cases hc

theorem srcCells_acc {h : AH} {size n : Nat} {x : Value} {cs : List Value} {rd : List Nat} (hs : srcCells h size x n = some (cs, rd)) : ∀ k, k ∈ rd → (h.blk k).isSome = true := by
  unfold srcCells at hs
  split at hs
  · split at hs
    · rename_i hc
      injection hs with hs; injection hs with _ hs; subst hs
      exact cut_acc hc
    · cases hs
  · cases hq : Nat.beq n 0 <;> rw [hq] at hs
    · cases hs
    · injection hs with hs; injection hs with _ hs; subst hs; simp
  · rename_i s
    cases hq : (Nat.ble n s.data.toList.length && Nat.beq size 1) <;> rw [hq] at hs
    · cases hs
    · injection hs with hs; injection hs with _ hs; subst hs; simp
  · cases hs

theorem aappendTo_acc {h : AH} {ei : TI} {base : Option Addr} {sLen sCap n : Nat} {news : List Value} {rd : List Nat} (hrd : ∀ k, k ∈ rd → (h.blk k).isSome = true) : AccOK h (aappendTo h ei base sLen sCap n news rd) := by
  unfold aappendTo
  refine AccOK.cond (fun _ => AccOK.cond (fun _ => ⟨hrd, by simp [Eff.wr]⟩) fun _ => trivial) fun _ => AccOK.cond (fun _ => ?_) fun _ => AccOK.cond (fun _ => ?_) fun _ => ?_
  · split
    · refine AccOK.cond (fun _ => trivial) fun hq => ?_
      split
      · rename_i old hc
        refine AccOK.cond (fun _ => ⟨hrd, fun k hk => ?_⟩) fun _ => trivial
        simp only [Eff.wr, List.mem_singleton] at hk
        subst hk
        exact cut_acc hc _ (by unfold rdOf; rw [hq]; simp)
      · trivial
    · trivial
  · split
    · refine AccOK.cond (fun _ => trivial) fun hq => ?_
      split
      · rename_i cs hc
        split
        · refine ⟨hrd, fun k hk => ?_⟩
          simp only [Eff.wr, List.mem_singleton] at hk
          subst hk
          rw [hc]; rfl
        · trivial
      · trivial
    · trivial
  · split
    · rename_i old rd' hs
      refine AccOK.cond (fun _ => ⟨fun k hk => ?_, by simp [Eff.wr]⟩) fun _ => trivial
      rcases List.mem_append.1 hk with hk | hk
      · exact srcCells_acc hs k hk
      · exact hrd k hk
    · trivial

theorem aputs_acc {h : AH} {base : Option Addr} {cs : List Value} {v : Value} {rd : List Nat} (hrd : ∀ k, k ∈ rd → (h.blk k).isSome = true) : AccOK h (aputs h base cs v rd) := by
  unfold aputs
  split
  · exact ⟨hrd, by simp [Eff.wr]⟩
  · split
    · refine AccOK.cond (fun _ => trivial) fun hq => ?_
      split
      · rename_i hc
        split
        · refine ⟨hrd, fun k hk => ?_⟩
          simp only [Eff.wr, List.mem_singleton] at hk
          subst hk
          rw [hc]; rfl
        · trivial
      · trivial
    · trivial

theorem aop_acc' {T : Tabs} {h : AH} {ρ : Operand → Value} {o : Oper} (hv : ∀ c f, o.op = .call c → c.callee = .value f → False) : AccOK h (aop T h ρ o) := by
  obtain ⟨dst, op, ty, pos, after, guard⟩ := o
  cases op
  case pick c p q =>
    simp only [aop]
    split
    · exact AccOK.ok
    · trivial
  case alloc t =>
    simp only [aop]
    split
    · exact AccOK.new
    · trivial
  case box t y =>
    simp only [aop]
    split
    · exact AccOK.new
    · trivial
  case build t ps =>
    simp only [aop, abuild]
    repeat' split
    all_goals first | exact AccOK.okO | trivial
  case buildSlice t len ps =>
    simp only [aop, abuildSlice]
    split
    · split
      · split
        · refine AccOK.cond (fun _ => ?_) fun _ => trivial
          split
          · exact AccOK.new
          · trivial
        · trivial
      · trivial
    · trivial
  case load t y =>
    simp only [aop, aload]
    split
    · split
      · rename_i hv
        exact ⟨loadT_acc hv, by simp [Eff.wr]⟩
      · trivial
    · trivial
  case store t y z =>
    simp only [aop, astore]
    split
    · refine AccOK.cond (fun _ => trivial) fun _ => ?_
      split
      · rename_i hc
        refine AccOK.cond (fun _ => ?_) fun _ => trivial
        split
        · refine ⟨by simp, fun k hk => ?_⟩
          simp only [Eff.wr, List.mem_singleton] at hk
          subst hk
          rw [hc]; rfl
        · trivial
      · trivial
    · trivial
  case nilCheck y =>
    simp only [aop, anil]
    split <;> first | exact AccOK.ok | trivial
  case convert s d y =>
    simp only [aop, aconvert]
    repeat' split
    all_goals first | exact AccOK.ok | trivial
  case makeFunc fn first caps =>
    simp only [aop, afunc]
    refine AccOK.cond (fun _ => ?_) fun _ => trivial
    split
    · exact AccOK.cond (fun _ => AccOK.ok) fun _ => trivial
    · trivial
  case makeSlice t l c =>
    simp only [aop, amake]
    split
    · split
      · split
        · exact AccOK.cond (fun _ => AccOK.new) fun _ => trivial
        · trivial
      · trivial
    · trivial
  case slice t y lo hi mx =>
    simp only [aop, aslice]
    split
    · split
      · split
        · exact AccOK.cond (fun _ => AccOK.ok) fun _ => trivial
        · trivial
      · trivial
    · split
      · split
        · refine AccOK.cond (fun _ => ?_) fun _ => ?_
          · split
            · exact AccOK.cond (fun _ => AccOK.ok) fun _ => trivial
            · split
              · exact AccOK.cond (fun _ => AccOK.ok) fun _ => trivial
              · trivial
            · trivial
          · split
            · refine AccOK.cond (fun _ => ?_) fun _ => trivial
              split <;> first | exact AccOK.ok | trivial
            · trivial
        · trivial
      · trivial
    · trivial
  case fieldAddr s y f =>
    simp only [aop, afieldAddr]
    split
    · split
      · split
        · split
          · exact AccOK.cond (fun _ => AccOK.ok) fun _ => trivial
          · trivial
        · trivial
      · trivial
    · trivial
  case field s y f =>
    simp only [aop, afield]
    repeat' split
    all_goals first | exact AccOK.okO | trivial
  case indexAddr t y i =>
    simp only [aop, aindexAddr]
    split
    · split
      · split
        · exact AccOK.cond (fun _ => AccOK.ok) fun _ => trivial
        · trivial
      · trivial
    · split
      · split
        · exact AccOK.cond (fun _ => AccOK.ok) fun _ => trivial
        · trivial
      · trivial
    · trivial
  case index t y i =>
    simp only [aop, aindex]
    split
    · split
      · refine AccOK.cond (fun _ => ?_) fun _ => trivial
        split <;> first | exact AccOK.ok | trivial
      · trivial
    · split
      · split
        · exact AccOK.cond (fun _ => AccOK.okO) fun _ => trivial
        · trivial
      · trivial
    · trivial
  case extract y i =>
    simp only [aop, aextract]
    split <;> first | exact AccOK.okO | trivial
  case call c =>
    simp only [aop, acall]
    split
    · unfold abuiltin
      split
      · unfold alen
        repeat' split
        all_goals first | exact AccOK.ok | trivial
      · unfold acap
        repeat' split
        all_goals first | exact AccOK.cond (fun _ => trivial) (fun _ => AccOK.ok) | trivial
      · unfold aappend
        split
        · split
          · split
            · refine AccOK.cond (fun _ => AccOK.cond (fun _ => ?_) fun _ => AccOK.cond (fun _ => ?_) fun _ => trivial) fun _ => trivial
              · split
                · exact AccOK.cond (fun _ => aappendTo_acc (by simp)) fun _ => trivial
                · trivial
              · split
                · split
                  · rename_i hs
                    exact aappendTo_acc (srcCells_acc hs)
                  · trivial
                · trivial
            · trivial
          · trivial
        · trivial
      · unfold acopy
        split
        · split
          · split
            · split
              · rename_i hs
                exact aputs_acc (srcCells_acc hs)
              · trivial
            · trivial
          · trivial
        · trivial
      · unfold aclear
        split
        · split
          · split
            · exact aputs_acc (by simp)
            · trivial
          · trivial
        · trivial
      · exact AccOK.okO
      · exact AccOK.okO
      · trivial
    · rename_i f hcal
      exact (hv c f rfl hcal).elim
    · trivial
  all_goals simp only [aop]
  all_goals first | exact AccOK.ok | exact AccOK.okO | trivial

theorem aop_go {T : Tabs} {h : AH} {ρ : Operand → Value} {o : Oper} {f : FuncId} {args : List Value} (hop : aop T h ρ o = some (.go f args)) : ∃ c fo, o.op = .call c ∧ c.callee = .value fo := by
  refine Classical.byContradiction fun hn => ?_
  have := aop_acc' (T := T) (h := h) (ρ := ρ) (o := o) fun c fo h1 h2 => hn ⟨c, fo, h1, h2⟩
  rw [hop] at this
  exact this

theorem aop_acc {T : Tabs} {h : AH} {ρ : Operand → Value} {o : Oper} {v : Value} {e : Eff} {rd : List Nat} (hop : aop T h ρ o = some (.val v e rd)) : (∀ k, k ∈ rd → (h.blk k).isSome = true) ∧ ∀ k, k ∈ e.wr → (h.blk k).isSome = true := by
  by_cases hv : ∃ c fo, o.op = .call c ∧ c.callee = .value fo
  · obtain ⟨c, fo, h1, h2⟩ := hv
    obtain ⟨dst, op, ty, pos, after, guard⟩ := o
    have h1 : op = .call c := h1
    subst h1
    simp only [aop, acall, h2] at hop
    split at hop <;> cases hop
  · have := aop_acc' (T := T) (h := h) (ρ := ρ) (o := o) fun c fo h1 h2 => hv ⟨c, fo, h1, h2⟩
    rw [hop] at this
    exact this

/-! ### heaps -/
theorem app_blk {h : AH} (hwf : h.wf) {e : Eff} (hw : ∀ k, k ∈ e.wr → (h.blk k).isSome = true) : ∀ k, (h.app e).blk k = Bapp h.blk h.sz e k := by
  have lt : ∀ k, k ∈ e.wr → k < h.sz := fun k hk => by
    obtain ⟨o, ho⟩ := Option.isSome_iff_exists.1 (hw k hk)
    exact AH.wf_lt hwf ho
  intro k
  cases e with
  | nil => rfl
  | new cs =>
    simp only [AH.app, AH.blk, Bapp, Bput]
    split
    · rename_i e; subst e; exact Tr.get_set_eq _ _ _
    · rename_i e; exact Tr.get_set_ne _ _ e
  | set k' cs =>
    have h1 := lt k' (by simp [Eff.wr])
    simp only [AH.app, AH.blk, Bapp, Bput]
    split
    · rename_i e; subst e; exact Tr.get_set_eq _ _ _
    · rename_i e; exact Tr.get_set_ne _ _ e
  | grow k' cs =>
    have h1 := lt k' (by simp [Eff.wr])
    simp only [AH.app, AH.blk, Bapp, Bput]
    split
    · rename_i e; subst e; exact Tr.get_set_eq _ _ _
    · rename_i e
      rw [Tr.get_set_ne _ _ e]
      split
      · rename_i e; subst e; exact Tr.get_set_eq _ _ _
      · rename_i e; exact Tr.get_set_ne _ _ e

theorem app_wf {h : AH} (hwf : h.wf) {e : Eff} (hw : ∀ k, k ∈ e.wr → (h.blk k).isSome = true) : (h.app e).wf := by
  intro k hk
  have lt : ∀ k, k ∈ e.wr → k < h.sz := fun k hk => by
    obtain ⟨o, ho⟩ := Option.isSome_iff_exists.1 (hw k hk)
    exact AH.wf_lt hwf ho
  rw [app_blk hwf hw]
  rw [AH.app_sz] at hk
  cases e with
  | nil => exact hwf k hk
  | new cs =>
    simp only [esz] at hk
    simp only [Bapp, Bput]
    rw [if_neg (by omega)]
    exact hwf k (by omega)
  | set k' cs =>
    have h1 := lt k' (by simp [Eff.wr])
    simp only [esz] at hk
    simp only [Bapp, Bput]
    rw [if_neg (by omega)]
    exact hwf k hk
  | grow k' cs =>
    have h1 := lt k' (by simp [Eff.wr])
    simp only [esz] at hk
    simp only [Bapp, Bput]
    rw [if_neg (by omega), if_neg (by omega)]
    exact hwf k (by omega)

/-- What a run does to the heap. -/
structure Grow (h : AH) (low : Nat) (h' : AH) : Prop where
  wf : h'.wf
  le : h.sz ≤ h'.sz
  ng : h'.ng = h.ng
  n : h'.n = h.n
  ro : h'.ro = h.ro
  frame : ∀ k, k < h.sz → k < low → h'.blk k = h.blk k

theorem Grow.refl {h : AH} (hw : h.wf) (low : Nat) : Grow h low h := ⟨hw, Nat.le_refl _, rfl, rfl, rfl, fun _ _ _ => rfl⟩

theorem Grow.mono {h h' : AH} {l l' : Nat} (g : Grow h l h') (hl : l' ≤ l) : Grow h l' h' := ⟨g.wf, g.le, g.ng, g.n, g.ro, fun k h1 h2 => g.frame k h1 (by omega)⟩

theorem Grow.trans {a b c : AH} {l l' : Nat} (g : Grow a l b) (g' : Grow b l' c) : Grow a (Nat.min l l') c :=
  ⟨g'.wf, Nat.le_trans g.le g'.le, g'.ng.trans g.ng, g'.n.trans g.n, g'.ro.trans g.ro, fun k h1 h2 => by
    have h3 : k < l := Nat.lt_of_lt_of_le h2 (Nat.min_le_left _ _)
    have h4 : k < l' := Nat.lt_of_lt_of_le h2 (Nat.min_le_right _ _)
    rw [g'.frame k (Nat.lt_of_lt_of_le h1 g.le) h4, g.frame k h1 h3]⟩

theorem Grow.of {h h' : AH} {l : Nat} (g : Grow h l h') {x : Cx} (hx : h.of x) : h'.of x := ⟨g.ng.trans hx.1, g.n.trans hx.2.1, g.ro.trans hx.2.2⟩

theorem esz_le (sz : Nat) (e : Eff) : sz ≤ esz sz e := by cases e <;> simp [esz]

theorem Grow.app {h : AH} (hwf : h.wf) {e : Eff} (hw : ∀ k, k ∈ e.wr → (h.blk k).isSome = true) (d : Nat) : Grow h (e.lowD d) (h.app e) := by
  refine ⟨app_wf hwf hw, by rw [AH.app_sz]; exact esz_le _ _, by cases e <;> rfl, by cases e <;> rfl, by cases e <;> rfl, fun k h1 h2 => ?_⟩
  rw [app_blk hwf hw]
  cases e with
  | nil => rfl
  | new cs => simp only [Bapp, Bput]; rw [if_neg (by omega)]
  | set k' cs => simp only [Eff.lowD] at h2; simp only [Bapp, Bput]; rw [if_neg (by omega)]
  | grow k' cs => simp only [Eff.lowD] at h2; simp only [Bapp, Bput]; rw [if_neg (by omega), if_neg (by omega)]

end Go.Vae
end

section
set_option linter.unusedVariables false
set_option linter.unusedSimpArgs false
namespace Go.Vae
open Go Go.RowKit

variable {P : Program} {T : Tabs} {x : Cx} {j : Inj} {B : Nat → Option AO} {w : World}

/-- The blocks of the heap below its size, others as given. -/
def AH.view (h : AH) (B : Nat → Option AO) : Nat → Option AO := fun k => if k < h.sz then h.blk k else B k

theorem Rel.congr {B' : Nat → Option AO} (r : Rel x j B w) (h : ∀ k, (j (x.n + k)).isSome = true → B' k = B k) : Rel x j B' w :=
  ⟨r.glob, r.base, r.blow, fun k c s cs h1 h2 => r.cells k c s cs h1 (by rw [← h k (by rw [h1]; rfl)]; exact h2),
   fun k1 k2 c s1 s2 h1 h2 h3 => (r.excl k1 k2 c s1 s2 h1 h2 h3).imp (fun h4 => by rw [h k1 (by rw [h1]; rfl)]; exact h4) (fun h4 => by rw [h k2 (by rw [h2]; rfl)]; exact h4),
   r.low, r.room, r.lens⟩

/-- What a run may have done to what was there. -/
structure Ext0 (x : Cx) (j : Inj) (sz : Nat) (w : World) (j' : Inj) (sz' : Nat) (w' : World) : Prop where
  same : Same w w'
  sub : Sub j j'
  dom : ∀ b p, j' b = some p → j b = some p ∨ (x.n + sz ≤ b ∧ b < x.n + sz')
  keep : ∀ c, c < x.lo → w'.heap[c]? = w.heap[c]?

theorem Ext.ext0 {j' : Inj} {sz m sz' : Nat} {w' : World} (r : Rel x j B w) (e : Ext x j sz m w j' sz' w') : Ext0 x j sz w j' sz' w' :=
  ⟨e.same, e.sub, e.dom, fun c hc => e.keep c (Nat.lt_of_lt_of_le hc r.room) fun k s _ _ h => by have := (r.low k c s h).1; omega⟩

theorem Ext0.refl (x : Cx) (j : Inj) (sz : Nat) (w : World) : Ext0 x j sz w j sz w := ⟨Same.refl w, Sub.refl j, fun _ _ h => .inl h, fun _ _ => rfl⟩

theorem Ext0.draw (x : Cx) (j : Inj) (sz : Nat) {w w' : World} (h : Same w w') (hh : w'.heap = w.heap) : Ext0 x j sz w j sz w' := ⟨h, Sub.refl j, fun _ _ h => .inl h, fun _ _ => by rw [hh]⟩

theorem Ext0.wide {j' : Inj} {sz sz' a b : Nat} {w' : World} (e : Ext0 x j sz w j' sz' w') (h1 : a ≤ sz) (h2 : sz' ≤ b) : Ext0 x j a w j' b w' :=
  ⟨e.same, e.sub, fun b p h => (e.dom b p h).imp id fun ⟨h3, h4⟩ => ⟨by omega, by omega⟩, e.keep⟩

theorem Ext0.trans {j1 j2 : Inj} {sz sz1 sz2 : Nat} {w1 w2 : World} (h1 : sz ≤ sz1) (h2 : sz1 ≤ sz2) (e : Ext0 x j sz w j1 sz1 w1) (f : Ext0 x j1 sz1 w1 j2 sz2 w2) : Ext0 x j sz w j2 sz2 w2 :=
  ⟨e.same.trans f.same, e.sub.trans f.sub, fun b p h => by
    rcases f.dom b p h with h | ⟨h3, h4⟩
    · rcases e.dom b p h with h | ⟨h3, h4⟩
      · exact .inl h
      · exact .inr ⟨h3, by omega⟩
    · exact .inr ⟨by omega, h4⟩, fun c hc => (f.keep c hc).trans (e.keep c hc)⟩

/-- Two behind each other within one range. -/
theorem Ext0.join {j1 j2 : Inj} {sz sz' : Nat} {w1 w2 : World} (e : Ext0 x j sz w j1 sz' w1) (f : Ext0 x j1 sz w1 j2 sz' w2) : Ext0 x j sz w j2 sz' w2 :=
  ⟨e.same.trans f.same, e.sub.trans f.sub, fun b p h => by
    rcases f.dom b p h with h | h
    · exact e.dom b p h
    · exact .inr h, fun c hc => (f.keep c hc).trans (e.keep c hc)⟩

/-- Calls are carried out by the machine in the same way. -/
def CallOK (P : Program) (call : CallF) : Prop :=
  ∀ f args h v h' low, call f args h = some (v, h', low) → h.wf → Grow h low h' ∧ Go.Proofs.Enters P f ∧
    ∀ (x : Cx) (j : Inj) (B : Nat → Option AO) (w : World) (args' : List Value), h.of x → x.ng ≤ x.n → Rel x j B w → (∀ k, k < h.sz → (j (x.n + k)).isSome = true → B k = h.blk k) →
      (∀ k, h.sz ≤ k → k < h'.sz → j (x.n + k) = none) → All2 (VR j) args args' →
      Calls P f ⟨args'⟩ w fun e w' => ∃ v' j', e = .returned v' ∧ VR j' v v' ∧ Rel x j' (h'.view B) w' ∧ Ext0 x j h.sz w j' h'.sz w'

def Acc.wrote (a : Acc) (k : Nat) : Prop := k ∈ a.wr ∨ (a.call = some true ∧ k < a.lo)
def Acc.looks (a : Acc) (k : Nat) : Prop := k ∈ a.rd ∨ k ∈ a.wr ∨ (a.call ≠ none ∧ k < a.lo)

/-- What a step does to the evaluator's own state. -/
structure StepF (nt : Nat) (o : Oper) (s : St) (s' : St) (a : Acc) : Prop where
  lo : a.lo = s.h.sz
  hi : a.hi = s'.h.sz
  grow : ∃ l, Grow s.h l s'.h ∧ s'.low = Nat.min s.low l
  acc : ∀ k, a.looks k → k < s.h.sz
  frame : ∀ k, k < s.h.sz → ¬ a.wrote k → s'.h.blk k = s.h.blk k
  dst : (o.dst = none ∧ s'.fr = s.fr) ∨ ∃ d v, o.dst = some d ∧ d < nt ∧ s'.fr = Tr.set s.fr d v

theorem putT_spec {nt : Nat} {fr fr' : Fr} {d : Option Tmp} {v : Value} (h : putT nt fr d v = some fr') : (d = none ∧ fr' = fr) ∨ ∃ d', d = some d' ∧ d' < nt ∧ fr' = Tr.set fr d' v := by
  unfold putT at h
  split at h
  · injection h with h; exact .inl ⟨rfl, h.symm⟩
  · rename_i d'
    cases hb : Nat.blt d' nt <;> rw [hb] at h
    · cases h
    · injection h with h; exact .inr ⟨d', rfl, blt_true hb, h.symm⟩

theorem Bapp_old {B : Nat → Option AO} {sz : Nat} {e : Eff} {k : Nat} (h1 : k ∉ e.wr) (h2 : ¬ (sz ≤ k ∧ k < esz sz e)) : Bapp B sz e k = B k := by
  cases e with
  | nil => rfl
  | new cs => simp only [esz] at h2; simp only [Bapp, Bput]; rw [if_neg (by omega)]
  | set k' cs => simp only [Eff.wr, List.mem_singleton] at h1; simp only [Bapp, Bput]; rw [if_neg h1]
  | grow k' cs => simp only [esz] at h2; simp only [Eff.wr, List.mem_singleton] at h1; simp only [Bapp, Bput]; rw [if_neg (by omega), if_neg h1]

theorem Bapp_new {B B' : Nat → Option AO} {sz : Nat} {e : Eff} {k : Nat} (h : k ∈ e.wr ∨ (sz ≤ k ∧ k < esz sz e)) : Bapp B sz e k = Bapp B' sz e k := by
  cases e with
  | nil => simp only [esz, Eff.wr] at h; rcases h with h | h; simp at h; omega
  | new cs =>
    simp only [esz, Eff.wr] at h
    rcases h with h | h
    · simp at h
    · obtain rfl : k = sz := by omega
      simp [Bapp, Bput]
  | set k' cs =>
    simp only [esz, Eff.wr, List.mem_singleton] at h
    rcases h with h | h
    · subst h; simp [Bapp, Bput]
    · omega
  | grow k' cs =>
    simp only [esz, Eff.wr, List.mem_singleton] at h
    rcases h with h | h
    · subst h; simp [Bapp, Bput]
    · obtain rfl : k = sz := by omega
      simp [Bapp, Bput]

theorem step1_facts {call : CallF} (hc : CallOK P call) {nt : Nat} {ops : List Oper} {o : Oper} {s s' : St} {a : Acc} (h : step1 T call nt ops o s = some (s', a)) (hwf : s.h.wf) : StepF nt o s s' a := by
  unfold step1 at h
  split at h
  · split at h
    · rename_i v e rd hop
      · split at h
        · rename_i fr hp
          injection h with h
          injection h with h1 h2
          subst h1 h2
          have hacc := aop_acc hop
          have lt : ∀ k, (s.h.blk k).isSome = true → k < s.h.sz := fun k hk => by
            obtain ⟨o, ho⟩ := Option.isSome_iff_exists.1 hk
            exact AH.wf_lt hwf ho
          refine ⟨rfl, rfl, ⟨e.lowD s.low, Grow.app hwf hacc.2 _, rfl⟩, fun k hk => ?_, fun k hk hw => ?_, ?_⟩
          · rcases hk with hk | hk | ⟨hk, _⟩
            · exact lt k (hacc.1 k hk)
            · exact lt k (hacc.2 k hk)
            · exact absurd rfl hk
          · show (s.h.app e).blk k = _
            rw [app_blk hwf hacc.2]
            exact Bapp_old (fun h => hw (.inl h)) (by omega)
          · rcases putT_spec hp with ⟨h1, h2⟩ | ⟨d, h1, h2, h3⟩
            · exact .inl ⟨h1, h2⟩
            · exact .inr ⟨d, v, h1, h2, h3⟩
        · cases h
    · rename_i f args hop
      split at h
      · rename_i v hh low hcall
        split at h
        · rename_i fr hp
          injection h with h
          injection h with h1 h2
          subst h1 h2
          obtain ⟨g, _, _⟩ := hc _ _ _ _ _ _ hcall hwf
          refine ⟨rfl, rfl, ⟨low, g, rfl⟩, fun k hk => ?_, fun k hk hw => ?_, ?_⟩
          · rcases hk with hk | hk | ⟨_, hk⟩
            · simp at hk
            · simp at hk
            · exact hk
          · refine g.frame k hk ?_
            have h1 : Nat.blt low s.h.sz ≠ true := fun h1 => hw (.inr ⟨by rw [h1], hk⟩)
            have h2 : Nat.blt low s.h.sz = false := by
              cases hq : Nat.blt low s.h.sz
              · rfl
              · exact absurd hq h1
            have := blt_false h2
            omega
          · rcases putT_spec hp with ⟨h1, h2⟩ | ⟨d, h1, h2, h3⟩
            · exact .inl ⟨h1, h2⟩
            · exact .inr ⟨d, v, h1, h2, h3⟩
        · cases h
      · cases h
    · cases h
  · split at h
    · rename_i fr hp
      injection h with h
      injection h with h1 h2
      subst h1 h2
      refine ⟨rfl, rfl, ⟨s.low, Grow.refl hwf _, (Nat.min_self _).symm⟩, fun k hk => ?_, fun k hk hw => rfl, ?_⟩
      · rcases hk with hk | hk | ⟨hk, _⟩
        · simp at hk
        · simp at hk
        · exact absurd rfl hk
      · rcases putT_spec hp with ⟨h1, h2⟩ | ⟨d, h1, h2, h3⟩
        · exact .inl ⟨h1, h2⟩
        · exact .inr ⟨d, skipV, h1, h2, h3⟩
    · cases h
  · cases h

theorem tmpsOf_mem : ∀ {os : List Operand} {t : Nat}, Operand.tmp t ∈ os → t ∈ tmpsOf os
  | [], t, h => by simp at h
  | o :: os, t, h => by
    rcases List.mem_cons.1 h with h | h
    · subst h; simp [tmpsOf]
    · have := tmpsOf_mem h
      cases o <;> simp [tmpsOf, this]

/-- The temporaries that an operation looks at stand for the machine's. -/
def LooksR (j : Inj) (ops : List Oper) (o : Oper) (fr : Fr) (a : Act) : Prop := ∀ t, t ∈ namesOf ops o → ∀ v, Tr.get fr t = some v → VR j v (a.tmps.getD t undef)

theorem LooksR.ev {h : AH} (hx : h.of x) (r : Rel x j B w) {ops : List Oper} {o : Oper} {fr : Fr} {a : Act} (hl : LooksR j ops o fr a) : EvR j h fr a o.op.operands := by
  intro y hy
  cases y with
  | tmp t =>
    simp only [Fr.ev, Act.eval]
    cases ht : Tr.get fr t with
    | none => exact VR.undef _
    | some v => exact hl t (by simp only [namesOf, List.mem_append]; exact .inr (tmpsOf_mem (by simpa using hy))) v ht
  | const v =>
    simp only [Fr.ev, Act.eval]
    cases hv : cOK v with
    | false => exact VR.undef _
    | true => exact cOK_vr j hv
  | global g =>
    simp only [Fr.ev, Act.eval]
    cases hg : Nat.blt g h.ng with
    | false => exact VR.undef _
    | true =>
      refine .of (.ptr ⟨rfl, rfl, g, 0, r.glob g ?_, rfl, rfl⟩)
      rw [← hx.1]
      exact blt_true hg
  | func f => exact .of (.func .nil)

theorem wanted_rel {ops : Array Oper} {o : Oper} {fr : Fr} {a : Act} (hl : LooksR j ops.toList o fr a) {b : Bool} (h : wantedA ops.toList fr o = some b) : Region.wanted o (yielded ops a.tmps) = b := by
  unfold wantedA at h
  unfold Region.wanted
  split at h
  · rename_i hg
    rw [hg]
    injection h
  · rename_i g want hg
    rw [hg]
    simp only
    split at h
    · rename_i oj hoj
      split at h
      · rename_i d hd
        rw [lget_eq, Array.getElem?_toList] at hoj
        have hn : d ∈ namesOf ops.toList o := by
          simp only [namesOf, guardT, hg, lget_eq, Array.getElem?_toList, hoj, hd, List.mem_append]
          exact .inl (by simp)
        split at h
        · rename_i c hc
          injection h with h
          have h1 := (hl d hn _ hc).bool
          have h2 : a.tmps[d]? = some (.bool c) := by
            rcases Nat.lt_or_ge d a.tmps.size with h3 | h3
            · simp [Array.getD, h3] at h1
              simp [h3, h1]
            · have : a.tmps.getD d undef = undef := by simp [Array.getD, Nat.not_lt.2 h3]
              rw [this] at h1
              cases h1
          have h3 : yielded ops a.tmps g = some c := by simp [yielded, hoj, hd, h2]
          rw [h3, ← h]
          cases c <;> cases want <;> rfl
        · rename_i hc
          injection h with h
          have h1 : a.tmps.getD d undef = undef := by
            have h0 := hl d hn _ hc
            generalize a.tmps.getD d undef = u at h0
            generalize hk : (Value.chan none) = v0 at h0
            cases h0 with
            | one h0 =>
              cases h0 with
              | any => cases hk
              | val h0 => subst hk; cases h0 with | one h0 => cases h0
            | tup h0 => cases hk
            | skip => rfl
          have h3 : yielded ops a.tmps g = none := by
            simp only [yielded, hoj, Option.bind_some, hd]
            cases h4 : a.tmps[d]? with
            | none => rfl
            | some u =>
              have h5 : a.tmps.getD d undef = u := by
                have h6 := (Array.getElem?_eq_some_iff.1 h4)
                obtain ⟨h6, h7⟩ := h6
                simp [Array.getD, h6, h7]
              rw [h1] at h5
              subst h5
              rfl
          rw [h3, ← h]
          rfl
        · cases h
      · cases h
    · cases h

theorem put_size (a : Act) (d : Option Tmp) (v : Value) : (a.put d v).tmps.size = a.tmps.size := by
  cases d <;> simp [Act.put]

theorem put_defers (a : Act) (d : Option Tmp) (v : Value) : (a.put d v).defers = a.defers := by
  cases d <;> rfl

theorem put_ne {a : Act} {d : Option Tmp} {v : Value} {t : Nat} (h : d ≠ some t) : (a.put d v).tmps.getD t undef = a.tmps.getD t undef := by
  cases d with
  | none => rfl
  | some d =>
    have : d ≠ t := fun e => h (by rw [e])
    simp [Act.put, Array.getD_eq_getD_getElem?, Array.getElem?_setIfInBounds_ne this]

theorem put_eq {a : Act} {d : Nat} {v : Value} (h : d < a.tmps.size) : (a.put (some d) v).tmps.getD d undef = v := by
  simp [Act.put, Array.getD_eq_getD_getElem?, h]

/-- A step of the machine for a step of the evaluator: of what was written or is new, the evaluator's new heap tells; of the rest, what was told before. -/
theorem step_ok (ht : TabsOK P T) {call : CallF} (hc : CallOK P call) {nt : Nat} {ops : Array Oper} {i : Nat} {o : Oper} (ho : ops[i]? = some o) {s s' : St} {a : Acc} (h : step1 T call nt ops.toList o s = some (s', a)) (hwf : s.h.wf)
    (hx : s.h.of x) (hng : x.ng ≤ x.n) (r : Rel x j B w) (hfut : ∀ k, s.h.sz ≤ k → k < s'.h.sz → j (x.n + k) = none) (hB : ∀ k, a.looks k → (j (x.n + k)).isSome = true → B k = s.h.blk k)
    {act : Act} (hl : LooksR j ops.toList o s.fr act) {Q : Exit → Act → World → Prop} {K : Act → World → Prop}
    (hK : ∀ (v v' : Value) (j' : Inj) (B' : Nat → Option AO) (w' : World), VR j' v v' → ((o.dst = none ∧ s'.fr = s.fr) ∨ ∃ d, o.dst = some d ∧ d < nt ∧ s'.fr = Tr.set s.fr d v) → Rel x j' B' w' →
      (∀ k, (j' (x.n + k)).isSome = true → (a.wrote k ∨ (a.lo ≤ k ∧ k < a.hi)) → B' k = s'.h.blk k) → (∀ k, (j' (x.n + k)).isSome = true → ¬ a.wrote k → ¬ (a.lo ≤ k ∧ k < a.hi) → B' k = B k) →
      Ext0 x j s.h.sz w j' s'.h.sz w' → K (act.put o.dst v') w') : wpOp P ops Q i K act w := by
  have hf := step1_facts hc h hwf
  have hfit : ∀ v, ∀ fr', putT nt s.fr o.dst v = some fr' → (o.dst = none ∧ fr' = s.fr) ∨ ∃ d, o.dst = some d ∧ d < nt ∧ fr' = Tr.set s.fr d v := fun v fr' hp => putT_spec hp
  unfold wpOp
  rw [ho]
  simp only
  unfold step1 at h
  split at h
  · rename_i hw
    rw [wanted_rel hl hw]
    simp only [if_true]
    split at h
    · rename_i v e rd hop
      · split at h
        · rename_i fr hp
          injection h with h
          injection h with h1 h2
          subst h1 h2
          refine .inl ?_
          have hacc := aop_acc hop
          classical
          let B1 : Nat → Option AO := fun k => if (j (x.n + k)).isSome = true then B k else s.h.blk k
          have r1 : Rel x j B1 w := r.congr fun k hk => by simp only [B1]; rw [if_pos hk]
          have hB1 : ∀ k, Acc.looks ⟨rd, e.wr, s.h.sz, (s.h.app e).sz, none⟩ k → B1 k = s.h.blk k := fun k hk => by
            simp only [B1]
            split
            · rename_i hm; exact hB k hk hm
            · rfl
          have hsz : esz s.h.sz e = (s.h.app e).sz := (AH.app_sz _ _).symm
          obtain ⟨n, v', w', j', h3, h4, h5, h6, h7⟩ := op_ok (o := o) ht hx hwf hng r1 (fun hlt => hfut _ (Nat.le_refl _) (by rw [← hsz]; exact hlt)) hop (hl.ev hx r) (fun k hk => hB1 k (.inl hk)) (fun k hk => hB1 k (.inr (.inl hk)))
          have h8 := h7.ext0 r1
          rw [hsz] at h8
          have hold : ∀ k, (j' (x.n + k)).isSome = true → ¬ (s.h.sz ≤ k ∧ k < (s.h.app e).sz) → (j (x.n + k)).isSome = true := fun k hk hn => by
            obtain ⟨p, hp⟩ := Option.isSome_iff_exists.1 hk
            rcases h8.dom _ _ hp with h9 | ⟨h9, h10⟩
            · rw [h9]; rfl
            · exact absurd ⟨by omega, by omega⟩ hn
          have goal : K (act.put o.dst v') w' := by
            refine hK v v' j' _ w' h5 (hfit v _ hp) h6 (fun k _ hk => ?_) (fun k hk h9 h10 => ?_) h8
            · show Bapp B1 s.h.sz e k = (s.h.app e).blk k
              rw [app_blk hwf hacc.2]
              refine Bapp_new (hk.imp (fun h => ?_) fun h => by rw [hsz]; exact h)
              rcases h with h | ⟨h, _⟩
              · exact h
              · cases h
            · rw [Bapp_old (fun h => h9 (.inl h)) (by rw [hsz]; exact h10)]
              simp only [B1]
              rw [if_pos (hold k hk h10)]
          simp only [Oper.wp, h3]
          rcases h4 with rfl | ⟨rfl, rfl⟩
          · exact goal
          · exact goal
        · cases h
    · rename_i f args hop
      split at h
      · rename_i v hh low hcall
        split at h
        · rename_i fr hp
          injection h with h
          injection h with h1 h2
          subst h1 h2
          refine .inl ?_
          obtain ⟨g, hent, hcalls⟩ := hc _ _ _ _ _ _ hcall hwf
          -- the call, resolved
          have hres : ∃ args', (execOp act.eval o).run P w = .ok (.enter f ⟨args'⟩) w ∧ All2 (VR j) args args' := by
            have hev := hl.ev (h := s.h) hx r
            obtain ⟨c, fo, hoc, hcal⟩ := aop_go hop
            obtain ⟨dst, op, ty, pos, after, guard⟩ := o
            have hoc : op = .call c := hoc
            subst hoc
            · have hEc : ∀ o ∈ c.args.toList, o ∈ (Op.call c).operands := fun o ho => by
                simp only [Op.operands, Call.operands]
                simp [Array.mem_def.2 ho]
              have hargs := hev.list c.args.toList hEc
              simp only [aop, acall] at hop
              rw [hcal] at hop
              simp only at hop
              · have hfo := hev fo (by simp [Op.operands, Call.operands, hcal])
                split at hop
                · rename_i g first caps hfv
                  injection hop with hop
                  injection hop with h1 h2
                  subst h1 h2
                  rw [hfv] at hfo
                  have := hfo.sr (by simp) (by simp)
                  generalize hvv : act.eval fo = fv at this
                  cases this with
                  | func hcs =>
                    rename_i cs cs'
                    refine ⟨c.args.toList.map act.eval ++ cs', ?_, ?_⟩
                    · simp only [execOp, resolve, hcal, hvv, Deferred.ofValue, Sem.run_bind, Sem.run_pure, Result.andThen_ok, invoke]
                      rw [hent]
                      congr 2
                      apply Array.ext'
                      simp
                    · simp only [List.nil_append]
                      refine hargs.append (hcs.mono fun v v' ⟨a, a', h1, h2, h3⟩ => ?_)
                      subst h1 h2
                      exact .of (.ptr h3)
                · cases hop
          obtain ⟨args', hrun, hargs⟩ := hres
          have hBc : ∀ k, k < s.h.sz → (j (x.n + k)).isSome = true → B k = s.h.blk k := fun k hk hm => hB k (.inr (.inr ⟨by simp, hk⟩)) hm
          have hcl := hcalls x j B w args' hx hng r hBc hfut hargs
          simp only [Oper.wp, hrun, Oper.upon]
          refine Calls.mono hcl fun e w' he => ?_
          obtain ⟨v', j', rfl, h5, h6, h8⟩ := he
          have hold : ∀ k, (j' (x.n + k)).isSome = true → ¬ (s.h.sz ≤ k ∧ k < hh.sz) → (j (x.n + k)).isSome = true := fun k hk hn => by
            obtain ⟨p, hp⟩ := Option.isSome_iff_exists.1 hk
            rcases h8.dom _ _ hp with h9 | ⟨h9, h10⟩
            · rw [h9]; rfl
            · exact absurd ⟨by omega, by omega⟩ hn
          refine hK v v' j' _ w' h5 (hfit v _ hp) h6 (fun k _ hk => ?_) (fun k hk h9 h10 => ?_) h8
          · have : k < hh.sz := by
              rcases hk with (hk | ⟨_, hk⟩) | ⟨_, hk⟩
              · simp at hk
              · exact Nat.lt_of_lt_of_le hk g.le
              · exact hk
            show AH.view hh B k = hh.blk k
            unfold AH.view
            rw [if_pos this]
          · show AH.view hh B k = B k
            unfold AH.view
            split
            · rename_i hlt
              have hlt2 : k < s.h.sz := by
                rcases Nat.lt_or_ge k s.h.sz with h11 | h11
                · exact h11
                · exact absurd ⟨h11, hlt⟩ h10
              have h11 := hf.frame k hlt2 h9
              have h12 := hBc k hlt2 (hold k hk h10)
              rw [h12]
              exact h11
            · rfl
        · cases h
      · cases h
    · cases h
  · rename_i hw
    rw [wanted_rel hl hw]
    simp only [Bool.false_eq_true, if_false]
    split at h
    · rename_i fr hp
      injection h with h
      injection h with h1 h2
      subst h1 h2
      refine hK skipV Go.undef j B w .skip (hfit _ _ hp) r (fun k _ hk => ?_) (fun _ _ _ _ => rfl) (Ext0.refl _ _ _ _)
      rcases hk with (hk | ⟨hk, _⟩) | ⟨h1, h2⟩
      · simp at hk
      · cases hk
      · have h1 : s.h.sz ≤ k := h1
        have h2 : k < s.h.sz := h2
        omega
    · cases h
  · cases h

end Go.Vae
end


/- The evaluator: a plain function that runs the text of loaded Go functions over a heap of its own, in the order of the text. -/
import Derived.Orders
import Derived.LoopN
import Derived.Below
import Derived.KernelRfl
namespace Go.Vae
open Go

inductive Tr (α : Type) where
  | e
  | n (l : Tr α) (v : Option α) (r : Tr α)

def Tr.get {α : Type} : Tr α → Nat → Option α
  | .e, _ => none
  | .n _ v _, 0 => v
  | .n l _ r, i + 1 => bif Nat.beq (i % 2) 0 then l.get (i / 2) else r.get (i / 2)

def Tr.put {α : Type} : Nat → Tr α → Nat → α → Tr α
  | 0, t, _, _ => t
  | d + 1, .e, i, x =>
    match i with
    | 0 => .n .e (some x) .e
    | i + 1 => bif Nat.beq (i % 2) 0 then .n (Tr.put d .e (i / 2) x) none .e else .n .e none (Tr.put d .e (i / 2) x)
  | d + 1, .n l v r, i, x =>
    match i with
    | 0 => .n l (some x) r
    | i + 1 => bif Nat.beq (i % 2) 0 then .n (Tr.put d l (i / 2) x) v r else .n l v (Tr.put d r (i / 2) x)

def Tr.set {α : Type} (t : Tr α) (i : Nat) (x : α) : Tr α := t.put (i + 1) i x

def lget {α : Type} : List α → Nat → Option α
  | [], _ => none
  | x :: _, 0 => some x
  | _ :: xs, i + 1 => lget xs i

/-- n elements from place i on, if they are there. -/
def lcut {α : Type} : List α → Nat → Nat → Option (List α)
  | _, 0, 0 => some []
  | [], 0, _ + 1 => none
  | x :: xs, 0, n + 1 => (lcut xs 0 n).map (x :: ·)
  | [], _ + 1, _ => none
  | _ :: xs, i + 1, n => lcut xs i n

/-- The list with other elements from place i on, if there is room. -/
def lput {α : Type} : List α → Nat → List α → Option (List α)
  | xs, 0, [] => some xs
  | [], 0, _ :: _ => none
  | _ :: xs, 0, y :: ys => (lput xs 0 ys).map (y :: ·)
  | [], _ + 1, _ => none
  | x :: xs, i + 1, ys => (lput xs i ys).map (x :: ·)

inductive AO where
  | cells (cs : List Value)
  | dead

structure AH where
  ng : Nat
  n : Nat
  ro : Nat → Nat → Option Value
  sz : Nat
  st : Tr AO

def AH.blk (h : AH) (k : Nat) : Option AO := h.st.get k

def AH.cell (h : AH) (b off : Nat) : Option Value :=
  bif Nat.blt b h.n then h.ro b off
  else match h.blk (b - h.n) with
    | some (.cells cs) => lget cs off
    | _ => none

def roCells (ro : Nat → Option Value) (off : Nat) : Nat → Option (List Value)
  | 0 => some []
  | n + 1 => match ro off with
    | some v => (roCells ro (off + 1) n).map (v :: ·)
    | none => none

def AH.cut (h : AH) (b off n : Nat) : Option (List Value) :=
  bif Nat.blt b h.n then roCells (h.ro b) off n
  else match h.blk (b - h.n) with
    | some (.cells cs) => lcut cs off n
    | _ => none

inductive Eff where
  | nil
  | new (cs : List Value)
  | set (k : Nat) (cs : List Value)
  | grow (k : Nat) (cs : List Value)

def AH.app (h : AH) : Eff → AH
  | .nil => h
  | .new cs => { h with sz := h.sz + 1, st := h.st.set h.sz (.cells cs) }
  | .set k cs => { h with st := h.st.set k (.cells cs) }
  | .grow k cs => { h with sz := h.sz + 1, st := (h.st.set k .dead).set h.sz (.cells cs) }

inductive TK where
  | other
  | int (k : IntKind)
  | bool
  | string
  | slice (e : TypeId)
  | struct (fs : List (TypeId × Nat))
  | array (len : Nat) (e : TypeId)
  deriving DecidableEq

structure TI where
  agg : Bool
  size : Nat
  zero : List Value
  bytes : Nat
  k : TK
  /-- may it be compared cell by cell -/
  flat : Bool

structure FI where
  nt : Nat
  res : List ResultVar
  code : Code

structure Tabs where
  ty : Nat → Option TI
  fn : Nat → Option FI
  /-- functions without arguments whose answer is known -/
  known : Nat → Option Value

/-- A slice whose capacity isn't told: unk and the size of its elements. -/
def unk : Nat := 1000000000000000000000

def bigger : Nat := 1000000000000

abbrev Fr := Tr Value

def cOK : Value → Bool
  | .bool _ | .int _ _ | .string _ | .pointer none | .slice none 0 0 | .nilFunc | .nilIface | .map none => true
  | .agg cs => cs.toList.all fun | .bool _ | .int _ _ | .string _ | .pointer none | .slice none 0 0 | .nilFunc | .nilIface | .map none => true | _ => false
  | _ => false

def Fr.ev (fr : Fr) (h : AH) : Operand → Value
  | .tmp t => (Tr.get fr t).getD undef
  | .const v => bif cOK v then v else undef
  | .global g => bif Nat.blt g h.ng then .pointer (some ⟨g, 0, none⟩) else undef
  | .func f => .func (.func f) #[] #[]

/-- What an operation leaves that isn't wanted. -/
def skipV : Value := .chan none

/-- The cells of a value that may lie in memory. -/
def vcells : Value → Option (List Value)
  | .agg cs => some cs.toList
  | .tuple _ => none
  | .chan _ => none
  | v => some [v]

def mkAgg (cs : List Value) : Value := .agg ⟨cs⟩

def loadT (T : Tabs) (h : AH) (t : TypeId) (b off : Nat) : Option Value :=
  match T.ty t with
  | some ti => bif ti.agg then (h.cut b off ti.size).map mkAgg else h.cell b off
  | none => none

def partT (T : Tabs) (t : TypeId) (cs : List Value) (off : Nat) : Option Value :=
  match T.ty t with
  | some ti => bif ti.agg then (lcut cs off ti.size).map mkAgg else lget cs off
  | none => none

def rdOf (h : AH) (b : Nat) : List Nat := bif Nat.blt b h.n then [] else [b - h.n]

/-- parts laid into cells -/
def fillT (place : Nat → Option (Nat × Nat)) : List Value → List (Nat × Value) → Option (List Value)
  | cs, [] => some cs
  | cs, (i, v) :: rest =>
    match place i, vcells v with
    | some (off, size), some vs => bif Nat.beq vs.length size then
        match lput cs off vs with
        | some cs => fillT place cs rest
        | none => none
      else none
    | _, _ => none

def reps : Nat → List Value → List Value
  | 0, _ => []
  | n + 1, z => z ++ reps n z

/-- What a run without any effect answers. -/
def pv : Sem Value → Option Value
  | .pure v => some v
  | _ => none

/-- A number or a bool. -/
def scal : Option Value → Option Value
  | some (.int k n) => some (.int k n)
  | some (.bool b) => some (.bool b)
  | _ => none

def leq : List UInt8 → List UInt8 → Bool
  | [], [] => true
  | a :: x, b :: y => Nat.beq a.toNat b.toNat && leq x y
  | _, _ => false

def astr (op : BinOp) (x y : ByteArray) : Option Value :=
  match op with
  | .add => bif Nat.ble (x.data.toList.length + y.data.toList.length) 9223372036854775807 then some (.string ⟨⟨x.data.toList ++ y.data.toList⟩⟩) else none
  | .eql => some (.bool (leq x.data.toList y.data.toList))
  | .neq => some (.bool (!leq x.data.toList y.data.toList))
  | .lss => some (.bool (Op.bytesLess x.data.toList y.data.toList))
  | .leq => some (.bool (Op.bytesLess x.data.toList y.data.toList || leq x.data.toList y.data.toList))
  | .gtr => some (.bool (!(Op.bytesLess x.data.toList y.data.toList || leq x.data.toList y.data.toList)))
  | .geq => some (.bool (!Op.bytesLess x.data.toList y.data.toList))
  | _ => none

/-- Are two cells that hold no address equal? -/
def cellEq : Value → Value → Option Bool
  | .int k a, .int k' b => bif decide (k = k') then some (a == b) else none
  | .string a, .string b => some (leq a.data.toList b.data.toList)
  | .bool a, .bool b => some (a == b)
  | _, _ => none

def cellsEq : List Value → List Value → Option Bool
  | [], [] => some true
  | x :: xs, y :: ys => match cellEq x y, cellsEq xs ys with
    | some a, some b => some (a && b)
    | _, _ => none
  | _, _ => none

/-- Cells of the kinds of these cells. -/
def likeZ : List Value → List Value → Bool
  | [], [] => true
  | .int k _ :: zs, .int k' _ :: cs => decide (k = k') && likeZ zs cs
  | .string _ :: zs, .string _ :: cs => likeZ zs cs
  | .bool _ :: zs, .bool _ :: cs => likeZ zs cs
  | _, _ => false

def isBool : TK → Bool
  | .bool => true
  | _ => false

def abin (T : Tabs) (op : BinOp) (t : TypeId) (x y : Value) : Option Value :=
  match x, y with
  | .int k a, .int k' b => scal (pv (Go.binOp op t (.int k a) (.int k' b)))
  | .string a, .string b => astr op a b
  | .bool a, .bool b =>
    match T.ty t, op with
    | some ti, .eql => bif isBool ti.k then some (.bool (a == b)) else none
    | some ti, .neq => bif isBool ti.k then some (.bool (!(a == b))) else none
    | _, _ => none
  | .agg a, .agg b =>
    match T.ty t, op with
    | some ti, .eql => bif ti.flat && (likeZ ti.zero a.toList && likeZ ti.zero b.toList) then (cellsEq a.toList b.toList).map .bool else none
    | some ti, .neq => bif ti.flat && (likeZ ti.zero a.toList && likeZ ti.zero b.toList) then (cellsEq a.toList b.toList).map (fun z => .bool (!z)) else none
    | _, _ => none
  | _, _ => none

def aun (op : UnOp) (x : Value) : Option Value :=
  match x with
  | .int k a => scal (pv (Op.unary op (.int k a)))
  | .bool b => scal (pv (Op.unary op (.bool b)))
  | _ => none

inductive AR where
  | val (v : Value) (e : Eff) (rd : List Nat)
  | go (f : FuncId) (args : List Value)

def ok (v : Value) : Option AR := some (.val v .nil [])
def okO (v : Option Value) : Option AR := match v with | some v => some (.val v .nil []) | none => none

def AH.fresh (h : AH) : Value := .pointer (some ⟨h.n + h.sz, 0, none⟩)

def aload (T : Tabs) (h : AH) (t : TypeId) (a : Value) : Option AR :=
  match a with
  | .pointer (some ⟨b, off, none⟩) => match loadT T h t b off with
    | some v => some (.val v .nil (rdOf h b))
    | none => none
  | _ => none

def astore (T : Tabs) (h : AH) (t : TypeId) (a x : Value) : Option AR :=
  match a, vcells x, T.ty t with
  | .pointer (some ⟨b, off, none⟩), some vs, some ti =>
    bif Nat.blt b h.n then none else
    match h.blk (b - h.n) with
    | some (.cells cs) => bif Nat.beq vs.length ti.size then
        match lput cs off vs with
        | some cs => some (.val undef (.set (b - h.n) cs) [])
        | none => none
      else none
    | _ => none
  | _, _, _ => none

def placeOf (T : Tabs) (fs : List (TypeId × Nat)) (i : Nat) : Option (Nat × Nat) :=
  match lget fs i with
  | some (ft, off) => match T.ty ft with
    | some fi => some (off, fi.size)
    | none => none
  | none => none

def abuild (T : Tabs) (t : TypeId) (ps : List (Nat × Value)) : Option AR :=
  match T.ty t with
  | some ti => match ti.k with
    | .struct fs => okO ((fillT (placeOf T fs) ti.zero ps).map mkAgg)
    | .array _ e => match T.ty e with
      | some ei => okO ((fillT (fun i => some (i * ei.size, ei.size)) ti.zero ps).map mkAgg)
      | none => none
    | _ => none
  | none => none

def abuildSlice (T : Tabs) (h : AH) (t : TypeId) (len : Nat) (ps : List (Nat × Value)) : Option AR :=
  match T.ty t with
  | some ti => match ti.k with
    | .slice e => match T.ty e with
      | some ei => bif Nat.ble (len * ei.size) 16777216 && Nat.ble 1 ei.size then
          match fillT (fun i => some (i * ei.size, ei.size)) (reps len ei.zero) ps with
          | some cs => some (.val (.slice (some ⟨h.n + h.sz, 0, none⟩) len len) (.new cs) [])
          | none => none
        else none
      | none => none
    | _ => none
  | none => none

def anil (x : Value) : Option AR :=
  match x with
  | .pointer (some a) => ok (.pointer (some a))
  | .func (.func f) a b => ok (.func (.func f) a b)
  | _ => none

def aconvert (T : Tabs) (d : TypeId) (x : Value) : Option AR :=
  match x, T.ty d with
  | .int _ n, some ti => match ti.k with
    | .int k => ok (.int k (k.wrap n))
    | _ => none
  | .string s, some ti => match ti.k with
    | .string => ok (.string s)
    | _ => none
  | _, _ => none

def amake (T : Tabs) (h : AH) (t : TypeId) (l c : Value) : Option AR :=
  match l, c, T.ty t with
  | .int .i64 n, .int .i64 m, some ti => match ti.k with
    | .slice e => match T.ty e with
      | some ei => bif decide (n = m) && decide (0 ≤ n) && Nat.ble (ei.bytes * n.toNat) 70368744177664 && Nat.ble n.toNat 70368744177664 && Nat.ble 1 ei.size then
          some (.val (.slice (some ⟨h.n + h.sz, 0, none⟩) n.toNat n.toNat) (.new (reps n.toNat ei.zero)) [])
        else none
      | none => none
    | _ => none
  | _, _, _ => none

/-- A bound of a slice expression. -/
def abound : Option Value → Nat → Option Nat
  | none, d => some d
  | some (.int .i64 n), _ => bif decide (0 ≤ n) then some n.toNat else none
  | _, _ => none

def aslice (T : Tabs) (t : TypeId) (x : Value) (lo hi mx : Option Value) : Option AR :=
  match x, T.ty t with
  | .string s, some ti => match ti.k, mx with
    | .string, none => match abound lo 0, abound hi s.data.toList.length with
      | some l, some u => bif Nat.ble l u && Nat.ble u s.data.toList.length then ok (.string ⟨⟨(s.data.toList.take u).drop l⟩⟩) else none
      | _, _ => none
    | _, _ => none
  | .slice a len cap, some ti => match ti.k with
    | .slice e => match T.ty e with
      | some ei => bif Nat.ble unk cap then
          match mx, abound lo 0, abound hi len, a with
          | none, some l, some u, some ⟨b, off, none⟩ => bif Nat.ble l u && Nat.ble u len && (Nat.blt l len || Nat.beq l 0) && Nat.beq cap (unk + ei.size) then
              ok (.slice (some ⟨b, off + l * ei.size, none⟩) (u - l) cap) else none
          | some m, some l, some u, some ⟨b, off, none⟩ => match abound (some m) 0 with
            | some m => bif Nat.ble l u && Nat.ble u m && Nat.ble m len && hi.isSome && Nat.blt m unk then
                ok (.slice (some ⟨b, off + (bif Nat.beq m l then 0 else l * ei.size), none⟩) (u - l) (m - l)) else none
            | none => none
          | _, _, _, _ => none
        else
          match abound mx cap, abound lo 0, abound hi len with
          | some m, some l, some u => bif Nat.ble l u && Nat.ble u m && Nat.ble m cap && (mx.isNone || hi.isSome) && Nat.blt m unk then
              match a with
              | none => ok (.slice none (u - l) (m - l))
              | some ⟨b, off, none⟩ => ok (.slice (some ⟨b, off + (bif Nat.beq m l then 0 else l * ei.size), none⟩) (u - l) (m - l))
              | _ => none
            else none
          | _, _, _ => none
      | none => none
    | _ => none
  | _, _ => none

def afieldAddr (T : Tabs) (s : TypeId) (x : Value) (f : Nat) : Option AR :=
  match x, T.ty s with
  | .pointer (some ⟨b, off, none⟩), some ti => match ti.k with
    | .struct fs => match lget fs f with
      | some (ft, o) => match T.ty ft with
        | some fi => bif Nat.ble 1 fi.size then ok (.pointer (some ⟨b, off + o, none⟩)) else none
        | none => none
      | none => none
    | _ => none
  | _, _ => none

def afield (T : Tabs) (s : TypeId) (x : Value) (f : Nat) : Option AR :=
  match x, T.ty s with
  | .agg cs, some ti => match ti.k with
    | .struct fs => match lget fs f with
      | some (ft, o) => okO (partT T ft cs.toList o)
      | none => none
    | _ => none
  | _, _ => none

def aindexAddr (T : Tabs) (t : TypeId) (x i : Value) : Option AR :=
  match x, i, T.ty t with
  | .slice (some ⟨b, off, none⟩) len _, .int _ n, some ti => match ti.k with
    | .slice e => match T.ty e with
      | some ei => bif decide (0 ≤ n) && decide (n < (len : Int)) then ok (.pointer (some ⟨b, off + n.toNat * ei.size, none⟩)) else none
      | none => none
    | _ => none
  | .pointer (some ⟨b, off, none⟩), .int _ n, some ti => match ti.k with
    | .array len e => match T.ty e with
      | some ei => bif decide (0 ≤ n) && decide (n < (len : Int)) then ok (.pointer (some ⟨b, off + n.toNat * ei.size, none⟩)) else none
      | none => none
    | _ => none
  | _, _, _ => none

def aindex (T : Tabs) (t : TypeId) (x i : Value) : Option AR :=
  match x, i, T.ty t with
  | .string s, .int _ n, some ti => match ti.k with
    | .string => bif decide (0 ≤ n) then match lget s.data.toList n.toNat with
        | some c => ok (.int .u8 c.toNat)
        | none => none
      else none
    | _ => none
  | .agg cs, .int _ n, some ti => match ti.k with
    | .array len e => match T.ty e with
      | some ei => bif decide (0 ≤ n) && decide (n < (len : Int)) then okO (partT T e cs.toList (n.toNat * ei.size)) else none
      | none => none
    | _ => none
  | _, _, _ => none

def aextract (x : Value) (i : Nat) : Option AR :=
  match x with
  | .tuple vs => okO (lget vs.toList i)
  | _ => none

def alen (T : Tabs) (t : TypeId) (x : Value) : Option AR :=
  match T.ty t with
  | some ti => match ti.k, x with
    | .string, .string s => ok (.int .i64 s.data.toList.length)
    | .slice _, .slice _ n _ => ok (.int .i64 n)
    | .array n _, _ => ok (.int .i64 n)
    | _, _ => none
  | none => none

def acap (T : Tabs) (t : TypeId) (x : Value) : Option AR :=
  match T.ty t with
  | some ti => match ti.k, x with
    | .slice _, .slice _ _ c => bif Nat.ble unk c then none else ok (.int .i64 c)
    | _, _ => none
  | none => none

/-- The cells of the elements that are appended or copied, how many elements, and what is read. -/
def srcCells (h : AH) (size : Nat) (x : Value) (n : Nat) : Option (List Value × List Nat) :=
  match x with
  | .slice (some ⟨b, off, none⟩) _ _ => match h.cut b off (n * size) with
    | some cs => some (cs, rdOf h b)
    | none => none
  | .slice none _ _ => bif Nat.beq n 0 then some ([], []) else none
  | .string s => bif Nat.ble n s.data.toList.length && Nat.beq size 1 then some ((s.data.toList.take n).map fun c => .int .u8 c.toNat, []) else none
  | _ => none

def lenV : Value → Option Nat
  | .slice _ n _ => some n
  | .string s => some s.data.toList.length
  | _ => none

def aappendTo (h : AH) (ei : TI) (base : Option Addr) (sLen sCap : Nat) (n : Nat) (news : List Value) (rd : List Nat) : Option AR :=
  bif Nat.beq n 0 then bif Nat.ble sLen sCap then some (.val (.slice base sLen sCap) .nil rd) else none else
  bif Nat.ble unk sCap then
    match base with
    | some ⟨b, off, none⟩ => bif Nat.blt b h.n then none else
      match h.cut b off (sLen * ei.size) with
      | some old => bif Nat.ble ((sLen + n) * ei.bytes) 70368744177664 && Nat.ble (sLen + n) 70368744177664 && Nat.beq sCap (unk + ei.size) then
          some (.val (.slice (some ⟨h.n + h.sz, 0, none⟩) (sLen + n) (unk + ei.size)) (.grow (b - h.n) (old ++ news)) rd) else none
      | none => none
    | _ => none
  else bif Nat.ble (sLen + n) sCap then
    match base with
    | some ⟨b, off, none⟩ => bif Nat.blt b h.n then none else
      match h.blk (b - h.n) with
      | some (.cells cs) => match lput cs (off + sLen * ei.size) news with
        | some cs => some (.val (.slice base (sLen + n) sCap) (.set (b - h.n) cs) rd)
        | none => none
      | _ => none
    | _ => none
  else
    match srcCells h ei.size (.slice base sLen sCap) sLen with
    | some (old, rd') => bif Nat.ble ((sLen + n) * ei.bytes) 70368744177664 && Nat.ble (sLen + n) 70368744177664 then
        some (.val (.slice (some ⟨h.n + h.sz, 0, none⟩) (sLen + n) (unk + ei.size)) (.new (old ++ news)) (rd' ++ rd)) else none
    | none => none

def isInt : TK → Bool
  | .int _ => true
  | _ => false

def isSeq : TK → Bool
  | .slice _ | .string => true
  | _ => false

def aappend (T : Tabs) (h : AH) (st xt : TypeId) (s x : Value) : Option AR :=
  match T.ty st, T.ty xt, s with
  | some ti, some xi, .slice base sLen sCap => match ti.k with
    | .slice e => match T.ty e with
      | some ei => bif Nat.ble 1 ei.size && Nat.ble 1 ei.bytes then
          bif isInt xi.k then
            match x with
            | .int .i64 l => bif decide (0 ≤ l) && Nat.ble (l.toNat * ei.bytes) 70368744177664 && Nat.ble l.toNat 70368744177664 then
                aappendTo h ei base sLen sCap l.toNat (reps l.toNat ei.zero) [] else none
            | _ => none
          else
            bif isSeq xi.k then
            match lenV x with
            | some n => match srcCells h ei.size x n with
              | some (news, rd) => aappendTo h ei base sLen sCap n news rd
              | none => none
            | none => none
            else none
        else none
      | none => none
    | _ => none
  | _, _, _ => none

def aputs (h : AH) (base : Option Addr) (cs : List Value) (v : Value) (rd : List Nat) : Option AR :=
  match cs with
  | [] => some (.val v .nil rd)
  | _ => match base with
    | some ⟨b, off, none⟩ => bif Nat.blt b h.n then none else
      match h.blk (b - h.n) with
      | some (.cells row) => match lput row off cs with
        | some row => some (.val v (.set (b - h.n) row) rd)
        | none => none
      | _ => none
    | _ => none

def acopy (T : Tabs) (h : AH) (dt : TypeId) (d s : Value) : Option AR :=
  match T.ty dt, d, lenV s with
  | some ti, .slice base dLen _, some sLen => match ti.k with
    | .slice e => match T.ty e with
      | some ei => match srcCells h ei.size s (Nat.min sLen dLen) with
        | some (cs, rd) => aputs h base cs (.int .i64 (Nat.min sLen dLen)) rd
        | none => none
      | none => none
    | _ => none
  | _, _, _ => none

def aclear (T : Tabs) (h : AH) (t : TypeId) (x : Value) : Option AR :=
  match T.ty t, x with
  | some ti, .slice base n _ => match ti.k with
    | .slice e => match T.ty e with
      | some ei => aputs h base (reps n ei.zero) (.tuple #[]) []
      | none => none
    | _ => none
  | _, _ => none

def aextreme (mx : Bool) : Value → List Value → Option Value
  | v, [] => some v
  | .int k x, .int k' y :: rest => bif decide (k = k') then aextreme mx (.int k (bif mx then (bif decide (y > x) then y else x) else (bif decide (y < x) then y else x))) rest else none
  | _, _ => none

def abuiltin (T : Tabs) (h : AH) (b : Builtin) (ts : List TypeId) (xs : List Value) : Option AR :=
  match b, ts, xs with
  | .len, [t], [x] => alen T t x
  | .cap, [t], [x] => acap T t x
  | .append, [t, u], [s, x] => aappend T h t u s x
  | .copy, t :: _, [d, s] => acopy T h t d s
  | .clear, [t], [x] => aclear T h t x
  | .min, _, x :: rest => okO (aextreme false x rest)
  | .max, _, x :: rest => okO (aextreme true x rest)
  | _, _, _ => none

def acall (T : Tabs) (h : AH) (ρ : Operand → Value) (c : Call) : Option AR :=
  match c.callee with
  | .builtin b => abuiltin T h b c.argTypes.toList (c.args.toList.map ρ)
  | .value f => match ρ f with
    | .func (.func g) first caps => some (.go g (first.toList ++ (c.args.toList.map ρ ++ caps.toList)))
    | _ => none
  | _ => none

def isPtr : Value → Bool
  | .pointer (some _) => true
  | _ => false

def afunc (fn : Fn) (caps : List Value) : Option AR :=
  match fn with
  | .func g => bif caps.all isPtr then ok (.func (.func g) #[] ⟨caps⟩) else none
  | _ => none

def aop (T : Tabs) (h : AH) (ρ : Operand → Value) (o : Oper) : Option AR :=
  match o.op with
  | .move x | .assign x => ok (ρ x)
  | .pick c a b => match ρ c with
    | .bool t => ok (bif t then ρ a else ρ b)
    | _ => none
  | .alloc t => match T.ty t with
    | some ti => some (.val h.fresh (.new ti.zero) [])
    | none => none
  | .box _ x => match vcells (ρ x) with
    | some cs => some (.val h.fresh (.new cs) [])
    | none => none
  | .build t ps => abuild T t (ps.toList.map fun p => (p.1, ρ p.2))
  | .buildSlice t len ps => abuildSlice T h t len (ps.toList.map fun p => (p.1, ρ p.2))
  | .load t a => aload T h t (ρ a)
  | .store t a x => astore T h t (ρ a) (ρ x)
  | .nilCheck x => anil (ρ x)
  | .binOp op t x y _ => okO (abin T op t (ρ x) (ρ y))
  | .unOp op _ x => okO (aun op (ρ x))
  | .convert s d x => match T.ty s with
    | some _ => aconvert T d (ρ x)
    | none => none
  | .makeFunc fn first caps => bif first.toList.isEmpty then afunc fn (caps.toList.map ρ) else none
  | .makeSlice t l c => amake T h t (ρ l) (ρ c)
  | .slice t x lo hi mx => aslice T t (ρ x) (lo.map ρ) (hi.map ρ) (mx.map ρ)
  | .fieldAddr s x f => afieldAddr T s (ρ x) f
  | .field s x f => afield T s (ρ x) f
  | .indexAddr t x i => aindexAddr T t (ρ x) (ρ i)
  | .index t x i => aindex T t (ρ x) (ρ i)
  | .extract x i => aextract (ρ x) i
  | .call c => acall T h ρ c
  | _ => none

/-! ### what an operation touches -/
structure Acc where
  rd : List Nat
  wr : List Nat
  /-- the new blocks: from lo on, below hi -/
  lo : Nat
  hi : Nat
  /-- a call: does it write what was there before -/
  call : Option Bool

def Eff.wr : Eff → List Nat
  | .set k _ | .grow k _ => [k]
  | _ => []

def Eff.low : Eff → Nat
  | .set k _ | .grow k _ => k
  | _ => bigger

def Eff.lowD (d : Nat) : Eff → Nat
  | .set k _ | .grow k _ => k
  | _ => d

def lmem (k : Nat) : List Nat → Bool
  | [] => false
  | x :: xs => Nat.beq k x || lmem k xs

def lmeet : List Nat → List Nat → Bool
  | [], _ => false
  | x :: xs, ys => lmem x ys || lmeet xs ys

def lwithin (lo hi : Nat) : List Nat → Bool
  | [] => false
  | x :: xs => (Nat.ble lo x && Nat.blt x hi) || lwithin lo hi xs

def Acc.clash1 (a b : Acc) : Bool :=
  lmeet a.wr b.rd || (lmeet a.wr b.wr || (lwithin b.lo b.hi a.wr ||
  match a.call with
  | none => false
  | some false => !b.wr.isEmpty
  | some true => !b.wr.isEmpty || (!b.rd.isEmpty || (b.call.isSome || Nat.blt b.lo b.hi))))

def Acc.clash (a b : Acc) : Bool := a.clash1 b || b.clash1 a

def Acc.writes (a : Acc) : Bool := !a.wr.isEmpty || (match a.call with | some true => true | _ => false)

/-- Each one against those after it: two that clash are in order (bit i of the later one's 'before'). -/
def pairs1 {α : Type} (R : α → α → Bool) (a : α) (i : Nat) : List α → List Nat → Bool
  | b :: bs, m :: ms => (!R a b || Nat.testBit m i) && pairs1 R a i bs ms
  | [], _ => true
  | _ :: _, [] => false

def pairsOK {α : Type} (R : α → α → Bool) : Nat → List α → List Nat → Bool
  | _, [], _ => true
  | i, a :: as, _ :: ms => pairs1 R a i as ms && pairsOK R (i + 1) as ms
  | _, _ :: _, [] => false

def orderOK (as : List Acc) (ms : List Nat) : Bool := pairsOK Acc.clash 0 as ms

def anyWrites : List Acc → Bool
  | [] => false
  | a :: as => a.writes || anyWrites as

/-! ### the temporaries of a region that draws its order -/
def tmpsOf : List Operand → List Nat
  | [] => []
  | .tmp t :: os => t :: tmpsOf os
  | _ :: os => tmpsOf os

def guardT (ops : List Oper) (o : Oper) : List Nat :=
  match o.guard with
  | none => []
  | some (j, _) => match lget ops j with
    | some oj => match oj.dst with
      | some d => [d]
      | none => []
    | none => []

def namesOf (ops : List Oper) (o : Oper) : List Nat := guardT ops o ++ tmpsOf o.op.operands.toList

def touches (ops : List Oper) (a b : Oper) : Bool :=
  match a.dst with
  | some d => lmem d (namesOf ops b) || (match b.dst with | some e => Nat.beq d e | none => false)
  | none => false

def edgesOK : Nat → List Oper → Bool
  | _, [] => true
  | i, o :: os => o.after.toList.all (fun e => !Region.binds .any e || Nat.blt e.on i) && edgesOK (i + 1) os

def drawOK (ops : Array Oper) : Bool :=
  edgesOK 0 ops.toList && pairsOK (fun a b => touches ops.toList a b || touches ops.toList b a) 0 ops.toList (Region.before ops).toList

def codeOK : Code → Bool
  | .region _ ops draw => !draw || drawOK ops
  | .seq a b => codeOK a && codeOK b
  | .cond _ a b => codeOK a && codeOK b
  | .block _ c => codeOK c
  | .loop c => codeOK c
  | _ => true

/-! ### the run -/
structure St where
  fr : Fr
  h : AH
  low : Nat

inductive Ex where
  | normal
  | exit (id : Nat)
  | ret

def putT (nt : Nat) (fr : Fr) (d : Option Tmp) (v : Value) : Option Fr :=
  match d with
  | none => some fr
  | some d => bif Nat.blt d nt then some (Tr.set fr d v) else none

abbrev CallF := FuncId → List Value → AH → Option (Value × AH × Nat)

def wantedA (ops : List Oper) (fr : Fr) (o : Oper) : Option Bool :=
  match o.guard with
  | none => some true
  | some (j, want) => match lget ops j with
    | some oj => match oj.dst with
      | some d => match Tr.get fr d with
        | some (.bool b) => some (b == want)
        | some (.chan none) => some false
        | _ => none
      | none => none
    | none => none

/-- One operation. -/
def step1 (T : Tabs) (call : CallF) (nt : Nat) (ops : List Oper) (o : Oper) (s : St) : Option (St × Acc) :=
  match wantedA ops s.fr o with
  | some true =>
    match aop T s.h (s.fr.ev s.h) o with
    | some (.val v e rd) =>
        match putT nt s.fr o.dst v with
        | some fr => some (⟨fr, s.h.app e, Nat.min s.low (e.lowD s.low)⟩, ⟨rd, e.wr, s.h.sz, (s.h.app e).sz, none⟩)
        | none => none
    | some (.go f args) => match call f args s.h with
      | some (v, h, low) => match putT nt s.fr o.dst v with
        | some fr => some (⟨fr, h, Nat.min s.low low⟩, ⟨[], [], s.h.sz, h.sz, some (Nat.blt low s.h.sz)⟩)
        | none => none
      | none => none
    | none => none
  | some false =>
    match putT nt s.fr o.dst skipV with
    | some fr => some (⟨fr, s.h, s.low⟩, ⟨[], [], s.h.sz, s.h.sz, none⟩)
    | none => none
  | none => none

def steps (T : Tabs) (call : CallF) (nt : Nat) (ops : List Oper) : List Oper → St → Option (St × List Acc)
  | [], s => some (s, [])
  | o :: os, s => match step1 T call nt ops o s with
    | some (s, a) => match steps T call nt ops os s with
      | some (s, as) => some (s, a :: as)
      | none => none
    | none => none

def region (T : Tabs) (call : CallF) (nt : Nat) (ops : Array Oper) (draw : Bool) (s : St) : Option St :=
  match steps T call nt ops.toList ops.toList s with
  | some (s, as) => bif draw && anyWrites as then
      bif orderOK as (Region.before ops).toList then some s else none
    else some s
  | none => none

def loopN (body : St → Option (Ex × St)) : Nat → St → Option (Ex × St)
  | 0, _ => none
  | k + 1, s => match body s with
    | some (.normal, s) => loopN body k s
    | r => r

def runC (T : Tabs) (call : CallF) (nt : Nat) (k : Nat) : Code → St → Option (Ex × St)
  | .skip, s => some (.normal, s)
  | .region _ ops draw, s => match region T call nt ops draw s with
    | some s => some (.normal, s)
    | none => none
  | .seq a b, s => match runC T call nt k a s with
    | some (.normal, s) => runC T call nt k b s
    | r => r
  | .cond c a b, s => match s.fr.ev s.h c with
    | .bool t => bif t then runC T call nt k a s else runC T call nt k b s
    | _ => none
  | .block id c, s => match runC T call nt k c s with
    | some (.exit i, s) => bif Nat.beq i id then some (.normal, s) else some (.exit i, s)
    | r => r
  | .loop c, s => loopN (fun s => runC T call nt k c s) k s
  | .exit id, s => some (.exit id, s)
  | .ret, s => some (.ret, s)
  | _, _ => none

def resV (T : Tabs) (h : AH) (fr : Fr) : ResultVar → Option Value
  | .tmp t => some ((Tr.get fr t).getD undef)
  | .cell a t => match Tr.get fr a with
    | some (.pointer (some ⟨b, off, none⟩)) => loadT T h t b off
    | _ => none

/-- A value that may be one of several results. -/
def isOne : Value → Bool
  | .tuple _ | .chan _ => false
  | _ => true

def resVs (T : Tabs) (h : AH) (fr : Fr) : List ResultVar → Option (List Value)
  | [] => some []
  | r :: rs => match resV T h fr r, resVs T h fr rs with
    | some v, some vs => bif isOne v then some (v :: vs) else none
    | _, _ => none

def resAll (T : Tabs) (h : AH) (fr : Fr) (rs : List ResultVar) : Option Value :=
  match resVs T h fr rs with
  | some [v] => some v
  | some vs => some (.tuple ⟨vs⟩)
  | none => none

def argsFr : Nat → List Value → Fr → Fr
  | _, [], fr => fr
  | i, v :: vs, fr => argsFr (i + 1) vs (Tr.set fr i v)

def runF (T : Tabs) : Nat → CallF
  | 0, _, _, _ => none
  | k + 1, f, args, h =>
    match T.known f with
    | some v => bif args.isEmpty then some (v, h, h.sz) else none
    | none =>
    match T.fn f with
    | some fi => bif Nat.ble args.length fi.nt then
        match runC T (runF T k) fi.nt k fi.code ⟨argsFr 0 args .e, h, h.sz⟩ with
        | some (.normal, s) | some (.ret, s) => match resAll T s.h s.fr fi.res with
          | some v => some (v, s.h, s.low)
          | none => none
        | _ => none
      else none
    | none => none

def AH.empty : AH := ⟨0, 0, fun _ _ => none, 0, .e⟩

end Go.Vae

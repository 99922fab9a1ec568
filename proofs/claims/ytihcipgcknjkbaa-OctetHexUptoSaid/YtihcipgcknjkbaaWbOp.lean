/- The abstract machine's operations: types are resolved, callees are named. What each one gives, and what it does to the heap. -/
import Derived.Test.YtihcipgcknjkbaaWbCore
namespace Go.Wb
open Go

/-- What kind of cell is compared. -/
inductive CK where
  | bool
  | int
  | string

inductive AOp where
  | move (x : Operand)
  | pick (c a b : Operand)
  | box (x : Operand)
  | alloc (zero : List Value)
  | build (zero : List Value) (parts : List (Nat × Nat × Operand))
  | buildSlice (size len : Nat) (zero : List Value) (parts : List (Nat × Nat × Operand))
  | load (n : Option Nat) (x : Operand)
  | store (n : Option Nat) (a x : Operand)
  | nilCheck (x : Operand)
  | bin (op : BinOp) (x y : Operand)
  | binB (op : BinOp) (x y : Operand)
  | eqv (neg : Bool) (ks : List CK) (x y : Operand)
  | nilv (neg : Bool) (x : Operand)
  | un (op : UnOp) (x : Operand)
  | convInt (k : IntKind) (x : Operand)
  | convStr (x : Operand)
  | strBytes (x : Operand)
  | bytesStr (x : Operand)
  | iface (t : TypeId) (x : Operand)
  | func (fn : Fn) (first captured : List Operand)
  | makeSlice (size bytes : Nat) (zero : List Value) (len cap : Operand)
  | sliceSl (size : Nat) (x : Operand) (lo hi : Option Operand)
  | sliceStr (x : Operand) (lo hi : Option Operand)
  | sliceArr (len size : Nat) (x : Operand) (lo hi : Option Operand)
  | fieldAddr (off : Nat) (x : Operand)
  | field (n : Option Nat) (off : Nat) (x : Operand)
  | idxAddrArr (len size : Nat) (x i : Operand)
  | idxAddrSl (size : Nat) (x i : Operand)
  | idxArr (len size : Nat) (n : Option Nat) (x i : Operand)
  | idxStr (x i : Operand)
  | len (x : Operand)
  | lenStr (x : Operand)
  | const (v : Value)
  | append (size bytes : Nat) (s x : Operand)
  | copy (size : Nat) (d s : Operand)
  | max2 (x y : Operand)
  | min2 (x y : Operand)
  | extract (x : Operand) (i : Nat)
  | call (f : String) (args : List Operand)

def Ev (t : T) : Operand → Value
  | .tmp i => t i
  | .const v => v
  | .global _ => undef
  | .func f => .func (.func f) #[] #[]

def aInt (op : BinOp) (k : IntKind) (a b : Int) : Option Value :=
  match op with
  | .add => some (.int k (k.wrap (a + b)))
  | .sub => some (.int k (k.wrap (a - b)))
  | .mul => some (.int k (k.wrap (a * b)))
  | .quo => if b = 0 then none else some (.int k (k.wrap (a.tdiv b)))
  | .rem => if b = 0 then none else some (.int k (a.tmod b))
  | .and => some (.int k (bits .and k a b))
  | .or => some (.int k (bits .or k a b))
  | .xor => some (.int k (bits .xor k a b))
  | .andNot => some (.int k (bits .andNot k a b))
  | .eql => some (.bool (a == b))
  | .neq => some (.bool (a != b))
  | .lss => some (.bool (a < b))
  | .leq => some (.bool (a ≤ b))
  | .gtr => some (.bool (a > b))
  | .geq => some (.bool (a ≥ b))
  | .shl | .shr => none

def aShift (op : BinOp) (k : IntKind) (a b : Int) : Option Value :=
  match op with
  | .shl => if b < 0 then none else some (.int k (k.wrap (a * 2 ^ (min b.toNat k.bits))))
  | .shr => if b < 0 then none else some (.int k (a.fdiv (2 ^ (min b.toNat k.bits))))
  | _ => none

def aStr (op : BinOp) (a b : ByteArray) : Option Value :=
  match op with
  | .add => if ((a.size + b.size : Nat) : Int) > 9223372036854775807 then none else some (.string (a ++ b))
  | .eql => some (.bool (a.toList == b.toList))
  | .neq => some (.bool (!(a.toList == b.toList)))
  | .lss => some (.bool (Op.bytesLess a.toList b.toList))
  | .leq => some (.bool (Op.bytesLess a.toList b.toList || a.toList == b.toList))
  | .gtr => some (.bool (!(Op.bytesLess a.toList b.toList || a.toList == b.toList)))
  | .geq => some (.bool (!Op.bytesLess a.toList b.toList))
  | _ => none

def isShift : BinOp → Bool
  | .shl | .shr => true
  | _ => false

def aBin (op : BinOp) (x y : Value) : Option Value :=
  match x, y with
  | .int k a, .int k' b => if isShift op then aShift op k a b else if k = k' then aInt op k a b else none
  | .string a, .string b => aStr op a b
  | _, _ => none

def aBinB (op : BinOp) (x y : Value) : Option Value :=
  match op, x, y with
  | .eql, .bool a, .bool b => some (.bool (a == b))
  | .neq, .bool a, .bool b => some (.bool (!(a == b)))
  | _, _, _ => none

def aUn (op : UnOp) (x : Value) : Option Value :=
  match op, x with
  | .neg, .int k n => some (.int k (k.wrap (0 - n)))
  | .xor, .int k n => some (.int k (bits .xor k (if k.signed then -1 else k.max) n))
  | .not, .bool b => some (.bool (!b))
  | _, _ => none

/-- Two cells that are compared: whole numbers, bools, strings. -/
def eqCell (k : CK) (x y : Value) : Option Bool :=
  match k, x, y with
  | .bool, .bool a, .bool b => some (a == b)
  | .int, .int k a, .int k' b => if k = k' then some (a == b) else none
  | .string, .string a, .string b => some (a.toList == b.toList)
  | _, _, _ => none

def eqCells : List CK → List Value → List Value → Option Bool
  | [], [], [] => some true
  | k :: ks, a :: l, b :: m => match eqCell k a b, eqCells ks l m with
    | some x, some y => some (x && y)
    | _, _ => none
  | _, _, _ => none

def aEq (ks : List CK) (x y : Value) : Option Bool :=
  match x, y with
  | .agg a, .agg b => eqCells ks a.toList b.toList
  | _, _ => none

def read1 (h : Heap) (b o : Nat) : Option Value :=
  match h[b]? with
  | some (.mem _ cs) => cs[o]?
  | _ => none

def readN (h : Heap) (b o n : Nat) : Option (List Value) :=
  match h[b]? with
  | some (.mem _ cs) => if o + n ≤ cs.length then some ((cs.drop o).take n) else none
  | _ => none

def write1 (h : Heap) (b o : Nat) (v : Value) : Option Heap :=
  match h[b]? with
  | some (.mem false cs) => if o < cs.length then some (h.set b (.mem false (cs.set o v))) else none
  | _ => none

def writeN (h : Heap) (b o : Nat) (vs : List Value) : Option Heap :=
  match h[b]? with
  | some (.mem false cs) => if o + vs.length ≤ cs.length then some (h.set b (.mem false (cs.take o ++ vs ++ cs.drop (o + vs.length)))) else none
  | _ => none

/-- What a load of one cell, or of 'n' cells as one value, gives. -/
def readV (h : Heap) (n : Option Nat) (a : Value) : Option Value :=
  match a, n with
  | .pointer (some ⟨b, o, none⟩), none => read1 h b o
  | .pointer (some ⟨b, o, none⟩), some n => (readN h b o n).map fun cs => .agg cs.toArray
  | _, _ => none

def writeV (h : Heap) (n : Option Nat) (a v : Value) : Option Heap :=
  match a, n with
  | .pointer (some ⟨b, o, none⟩), none => if v.oneCell' then write1 h b o v else none
  | .pointer (some ⟨b, o, none⟩), some n => match v with
    | .agg cs => if cs.size = n then writeN h b o cs.toList else none
    | _ => none
  | _, _ => none

def valCells : Value → List Value
  | .agg cs => cs.toList
  | v => [v]

def lim48 : Nat := 2 ^ 48
def lim47 : Nat := 2 ^ 47
def lim24 : Nat := 2 ^ 24

def isStr : Value → Bool
  | .string _ => true
  | _ => false

def isTuple : Value → Bool
  | .tuple _ => true
  | _ => false

def fillL (t : T) : List Value → List (Nat × Nat × Operand) → Option (List Value)
  | cs, [] => some cs
  | cs, (off, size, x) :: rest =>
    if (valCells (Ev t x)).length = size ∧ off + size ≤ cs.length ∧ isTuple (Ev t x) = false then fillL t (cs.take off ++ valCells (Ev t x) ++ cs.drop (off + size)) rest else none

def repCells (n : Nat) : List Value → List Value
  | [z] => List.replicate n z
  | zs => (List.replicate n zs).flatten

def newBlk (h : Heap) (cs : List Value) : Heap := h ++ [.mem false cs]

/-- A bound of a slice. -/
def bound (t : T) (dflt : Nat) (most : Nat) : Option Operand → Option Nat
  | none => if dflt ≤ most then some dflt else none
  | some x => match Ev t x with
    | .int _ i => if 0 ≤ i ∧ i ≤ most then some i.toNat else none
    | _ => none

/-- The cells of what is appended or copied: of a slice, or of a string. -/
def srcCells (h : Heap) (size : Nat) : Value → Option (List Value)
  | .slice none 0 0 => some []
  | .slice (some ⟨b, o, none⟩) n s => if s = size then (if n = 0 then some [] else readN h b o (n * size)) else none
  | .string s => if size = 1 then some (s.data.toList.map fun b => .int .u8 b.toNat) else none
  | _ => none

def srcLen : Value → Nat
  | .slice _ n _ => n
  | .string s => s.size
  | _ => 0

def aAppend (h : Heap) (size bytes : Nat) (s x : Value) : Option (Value × Heap) :=
  match srcCells h size x with
  | none => none
  | some new =>
    match s with
    | .slice none 0 0 =>
      if srcLen x = 0 then some (s, h)
      else if srcLen x * bytes ≤ lim47 then some (.slice (some ⟨h.length, 0, none⟩) (srcLen x) size, newBlk h new) else none
    | .slice (some ⟨b, o, none⟩) n sz =>
      if sz = size then
        if srcLen x = 0 then some (s, h)
        else match h[b]? with
          | some (.mem false cs) =>
            if o + n * size ≤ cs.length ∧ (n + srcLen x) * bytes ≤ lim47 then
              some (.slice (some ⟨h.length, 0, none⟩) (n + srcLen x) size, newBlk (h.set b .dead) ((cs.drop o).take (n * size) ++ new))
            else none
          | _ => none
      else none
    | _ => none

def aCopy (h : Heap) (size : Nat) (d s : Value) : Option (Value × Heap) :=
  match d with
  | .slice (some ⟨b, o, none⟩) n sz =>
    if sz = size then
      match srcCells h size s with
      | none => none
      | some cs =>
        let m := Nat.min (srcLen s) n
        if m = 0 then some (.int .i64 0, h)
        else (writeN h b o (cs.take (m * size))).map fun h' => (.int .i64 m, h')
    else none
  | _ => none

def aOp (o : AOp) (t : T) (h : Heap) : Option (Value × Heap) :=
  match o with
  | .move x => some (Ev t x, h)
  | .pick c a b => match Ev t c with
    | .bool true => some (Ev t a, h)
    | .bool false => some (Ev t b, h)
    | _ => none
  | .box x => if isTuple (Ev t x) = false then some (.pointer (some ⟨h.length, 0, none⟩), newBlk h (valCells (Ev t x))) else none
  | .alloc zero => some (.pointer (some ⟨h.length, 0, none⟩), newBlk h zero)
  | .build zero parts => (fillL t zero parts).map fun cs => (.agg cs.toArray, h)
  | .buildSlice size len zero parts => (fillL t (repCells len zero) parts).map fun cs => (.slice (some ⟨h.length, 0, none⟩) len size, newBlk h cs)
  | .load n x => (readV h n (Ev t x)).map fun v => (v, h)
  | .store n a x => (writeV h n (Ev t a) (Ev t x)).map fun h' => (undef, h')
  | .nilCheck x => match Ev t x with
    | .pointer (some a) => some (.pointer (some a), h)
    | .func (.func f) a c => some (.func (.func f) a c, h)
    | _ => none
  | .bin op x y => (aBin op (Ev t x) (Ev t y)).map fun v => (v, h)
  | .binB op x y => (aBinB op (Ev t x) (Ev t y)).map fun v => (v, h)
  | .eqv neg ks x y => (aEq ks (Ev t x) (Ev t y)).map fun v => (.bool (neg != v), h)
  | .nilv neg x => match Ev t x with
    | .slice none _ _ => some (.bool (neg != true), h)
    | .slice (some _) _ _ => some (.bool (neg != false), h)
    | _ => none
  | .un op x => (aUn op (Ev t x)).map fun v => (v, h)
  | .convInt k x => match Ev t x with
    | .int _ n => some (.int k (k.wrap n), h)
    | _ => none
  | .convStr x => match Ev t x with
    | .string s => some (.string s, h)
    | _ => none
  | .strBytes x => match Ev t x with
    | .string s => some (.slice (some ⟨h.length, 0, none⟩) s.size 1, newBlk h (s.data.toList.map fun b => .int .u8 b.toNat))
    | _ => none
  | .bytesStr x => match srcCells h 1 (Ev t x) with
    | some cs => if isStr (Ev t x) = false ∧ (cs.all fun v => match v with | .int .u8 _ => true | _ => false) then
        some (.string ⟨(cs.map fun v => match v with | .int _ n => UInt8.ofNat n.toNat | _ => 0).toArray⟩, h) else none
    | none => none
  | .iface ty x => some (.iface ty (Ev t x), h)
  | .func fn f c => some (.func fn (f.map (Ev t)).toArray (c.map (Ev t)).toArray, h)
  | .makeSlice size bytes zero len cap => match Ev t len, Ev t cap with
    | .int _ l, .int _ c => if 0 ≤ l ∧ l ≤ c ∧ bytes * c ≤ lim48 then
        some (.slice (some ⟨h.length, 0, none⟩) l.toNat size, newBlk h (repCells l.toNat zero)) else none
    | _, _ => none
  | .sliceSl size x lo hi => match Ev t x with
    | .slice none 0 0 => match bound t 0 0 hi with
      | some hh => match bound t 0 hh lo with
        | some _ => some (.slice none 0 0, h)
        | none => none
      | none => none
    | .slice (some ⟨b, o, none⟩) n s => if s = size then match bound t n n hi with
        | some hh => match bound t 0 hh lo with
          | some l => some (.slice (some ⟨b, o + l * size, none⟩) (hh - l) size, h)
          | none => none
        | none => none
      else none
    | _ => none
  | .sliceStr x lo hi => match Ev t x with
    | .string s => match bound t s.size s.size hi with
      | some hh => match bound t 0 hh lo with
        | some l => some (.string (s.extract l hh), h)
        | none => none
      | none => none
    | _ => none
  | .sliceArr n size x lo hi => match Ev t x with
    | .pointer (some ⟨b, o, none⟩) => match h[b]? with
      | some (.mem _ cs) => if o + n * size ≤ cs.length then match bound t n n hi with
          | some hh => match bound t 0 hh lo with
            | some l => some (.slice (some ⟨b, o + l * size, none⟩) (hh - l) size, h)
            | none => none
          | none => none
        else none
      | _ => none
    | _ => none
  | .fieldAddr off x => match Ev t x with
    | .pointer (some ⟨b, o, none⟩) => some (.pointer (some ⟨b, o + off, none⟩), h)
    | _ => none
  | .field n off x => match Ev t x, n with
    | .agg cs, none => (cs.toList[off]?).map fun v => (v, h)
    | .agg cs, some m => some (.agg ((cs.toList.drop off).take m).toArray, h)
    | _, _ => none
  | .idxAddrArr len size x i => match Ev t x, Ev t i with
    | .pointer (some ⟨b, o, none⟩), .int _ i => if 0 ≤ i ∧ i < len then some (.pointer (some ⟨b, o + i.toNat * size, none⟩), h) else none
    | _, _ => none
  | .idxAddrSl size x i => match Ev t x, Ev t i with
    | .slice (some ⟨b, o, none⟩) n s, .int _ i => if s = size ∧ 0 ≤ i ∧ i < n then some (.pointer (some ⟨b, o + i.toNat * size, none⟩), h) else none
    | _, _ => none
  | .idxArr len size n x i => match Ev t x, Ev t i, n with
    | .agg cs, .int _ i, none => if 0 ≤ i ∧ i < len then (cs.toList[i.toNat * size]?).map fun v => (v, h) else none
    | .agg cs, .int _ i, some m => if 0 ≤ i ∧ i < len then some (.agg ((cs.toList.drop (i.toNat * size)).take m).toArray, h) else none
    | _, _, _ => none
  | .idxStr x i => match Ev t x, Ev t i with
    | .string s, .int _ i => if 0 ≤ i then (s.data.toList[i.toNat]?).map fun b => (.int .u8 b.toNat, h) else none
    | _, _ => none
  | .len x => match Ev t x with
    | .slice _ n _ => some (.int .i64 n, h)
    | _ => none
  | .lenStr x => match Ev t x with
    | .string s => some (.int .i64 s.size, h)
    | _ => none
  | .const v => some (v, h)
  | .append size bytes s x => aAppend h size bytes (Ev t s) (Ev t x)
  | .copy size d s => aCopy h size (Ev t d) (Ev t s)
  | .max2 x y => match Ev t x, Ev t y with
    | .int k a, .int _ b => some (.int k (if b > a then b else a), h)
    | _, _ => none
  | .min2 x y => match Ev t x, Ev t y with
    | .int k a, .int _ b => some (.int k (if b < a then b else a), h)
    | _, _ => none
  | .extract x i => match Ev t x with
    | .tuple vs => (vs.toList[i]?).map fun v => (v, h)
    | _ => none
  | .call _ _ => none

end Go.Wb

/- From the model's operations to the abstract machine's: types are looked up once, callees get their names. Evaluated by the kernel. -/
import Derived.Test.YtihcipgcknjkbaaWbOp
namespace Go.Wb
open Go

def constOk : Value → Bool
  | .bool _ | .int _ _ | .string _ | .pointer none | .slice none 0 0 | .nilFunc | .nilIface | .map none => true
  | _ => false

def operOk : Operand → Bool
  | .const v => constOk v
  | .global _ => false
  | _ => true

/-- One cell ('none'), or a value of 'n' cells. -/
def aggN (P : Program) (t : TypeId) : Option (Option Nat) :=
  match P.info? t, P.underlying t with
  | some i, some (.struct _) => some (some i.size)
  | some i, some (.array _ _) => some (some i.size)
  | some _, some _ => some none
  | _, _ => none

def isAggC (P : Program) (t : TypeId) : Bool :=
  match P.underlying t with
  | some (.struct _) | some (.array _ _) => true
  | _ => false

def zeroOf (P : Program) (t : TypeId) : Option (List Value) :=
  match P.info? t with
  | some i => match i.zero with
    | some z => if (valCells z).length = i.size ∧ (valCells z).all constOk then some (valCells z) else none
    | none => none
  | none => none

def sizeBytes (P : Program) (t : TypeId) : Option (Nat × Nat) :=
  match P.info? t with
  | some i => some (i.size, i.bytes)
  | none => none

/-- The kinds of the cells of a struct's fields, of which each one begins where the one ahead ends. -/
def fieldsKinds (P : Program) (rec : TypeId → Option (List CK)) : Nat → List Field → Option (List CK)
  | _, [] => some []
  | off, f :: fs =>
    if f.offset = off ∧ f.name ≠ "_" then
      match rec f.type, P.info? f.type with
      | some ks, some i => if i.size = ks.length ∧ 1 ≤ i.size then (fieldsKinds P rec (off + ks.length) fs).map fun l => ks ++ l else none
      | _, _ => none
    else none

/-- The kinds of a value's cells, if it is compared cell by cell: whole numbers, bools, strings, and structs and arrays of these. -/
def plainKinds (P : Program) : Nat → TypeId → Option (List CK)
  | 0, _ => none
  | d + 1, t =>
    match P.underlying t with
    | some .bool => some [.bool]
    | some (.int _) => some [.int]
    | some .string => some [.string]
    | some (.struct fs) => if P.stoodInHeld t = false then fieldsKinds P (plainKinds P d) 0 fs.toList else none
    | some (.array n e) => match plainKinds P d e, P.info? e with
      | some ks, some i => if i.size = ks.length ∧ 1 ≤ i.size then some (List.replicate n ks).flatten else none
      | _, _ => none
    | _ => none

def okAll (l : List Operand) : Bool := l.all operOk

def compileBin (P : Program) (op : BinOp) (t : TypeId) (x y : Operand) : Option AOp :=
  match P.underlying t with
  | some (.int _) => some (.bin op x y)
  | some .string => some (.bin op x y)
  | some .bool => some (.binB op x y)
  | some (.slice _) => match op, x, y with
    | .eql, x, .const (.slice none 0 0) => some (.nilv false x)
    | .neq, x, .const (.slice none 0 0) => some (.nilv true x)
    | .eql, .const (.slice none 0 0), x => some (.nilv false x)
    | .neq, .const (.slice none 0 0), x => some (.nilv true x)
    | _, _, _ => none
  | some (.struct _) => match plainKinds P 8 t with
    | some ks => if P.eqGuardType P.depth t = false then match op with
        | .eql => some (.eqv false ks x y)
        | .neq => some (.eqv true ks x y)
        | _ => none
      else none
    | none => none
  | some (.array _ _) => match plainKinds P 8 t with
    | some ks => if P.eqGuardType P.depth t = false then match op with
        | .eql => some (.eqv false ks x y)
        | .neq => some (.eqv true ks x y)
        | _ => none
      else none
    | none => none
  | _ => none

def partsOf (P : Program) (place : Nat → Option (Nat × Nat)) : List (Nat × Operand) → Option (List (Nat × Nat × Operand))
  | [] => some []
  | (i, x) :: rest => match place i, partsOf P place rest with
    | some (o, s), some l => some ((o, s, x) :: l)
    | _, _ => none

def compileCall (P : Program) (c : Call) : Option AOp :=
  match c.callee with
  | .value (.func f) => match P.funcs[f]? with
    | some fn => if fn.body.isSome ∧ fn.name ≠ "runtime.NumGoroutine" then some (.call fn.name c.args.toList) else none
    | none => none
  | .builtin .len => match c.args.toList, c.argTypes.toList with
    | [x], [t] => match P.underlying t with
      | some .string => some (.lenStr x)
      | some (.slice _) => some (.len x)
      | some (.array n _) => some (.const (.int .i64 n))
      | some (.pointer e) => match P.underlying e with
        | some (.array n _) => some (.const (.int .i64 n))
        | _ => none
      | _ => none
    | _, _ => none
  | .builtin .append => match c.args.toList, c.argTypes.toList with
    | [s, x], [t, tx] => match P.underlying t, P.underlying tx with
      | some (.slice e), some (.slice _) => match sizeBytes P e, zeroOf P e with
        | some (n, b), some z => if 1 ≤ b ∧ 1 ≤ n ∧ z.length = n then some (.append n b s x) else none
        | _, _ => none
      | some (.slice e), some .string => match sizeBytes P e, zeroOf P e with
        | some (n, b), some z => if 1 ≤ b ∧ 1 ≤ n ∧ z.length = n then some (.append n b s x) else none
        | _, _ => none
      | _, _ => none
    | _, _ => none
  | .builtin .copy => match c.args.toList, c.argTypes.toList with
    | [d, s], [t, _] => match P.underlying t with
      | some (.slice e) => match sizeBytes P e with
        | some (n, _) => if 1 ≤ n then some (.copy n d s) else none
        | none => none
      | _ => none
    | _, _ => none
  | .builtin .max => match c.args.toList with
    | [x, y] => some (.max2 x y)
    | _ => none
  | .builtin .min => match c.args.toList with
    | [x, y] => some (.min2 x y)
    | _ => none
  | _ => none

def compileOp (P : Program) (op : Op) : Option AOp :=
  if okAll op.operands.toList then
  match op with
  | .move x => some (.move x)
  | .assign x => some (.move x)
  | .pick c a b => some (.pick c a b)
  | .alloc e => (zeroOf P e).map .alloc
  | .box _ x => some (.box x)
  | .build t parts => match zeroOf P t, P.underlying t with
    | some z, some (.struct fs) => match partsOf P (fun i => (fs[i]?).bind fun f => (P.info? f.type).map fun j => (f.offset, j.size)) parts.toList with
      | some l => if fs.all (fun f => (P.info? f.type).isSome) then some (.build z l) else none
      | none => none
    | some z, some (.array _ e) => match P.info? e with
      | some j => match partsOf P (fun i => some (i * j.size, j.size)) parts.toList with
        | some l => some (.build z l)
        | none => none
      | none => none
    | _, _ => none
  | .buildSlice t len parts => match P.underlying t with
    | some (.slice e) => match P.info? e, zeroOf P e with
      | some j, some z => if len * j.size ≤ lim24 ∧ 1 ≤ j.size ∧ z.length = j.size then
          match partsOf P (fun i => some (i * j.size, j.size)) parts.toList with
          | some l => some (.buildSlice j.size len z l)
          | none => none
        else none
      | _, _ => none
    | _ => none
  | .load t a => (aggN P t).map fun n => .load n a
  | .store t a x => if isAggC P t = false → ((P.info? t).map (·.size)) = some 1 then (aggN P t).map fun n => .store n a x else none
  | .nilCheck x => some (.nilCheck x)
  | .binOp op t x y _ => compileBin P op t x y
  | .unOp op _ x => some (.un op x)
  | .convert src dst x => match P.underlying src, P.underlying dst with
    | some (.int _), some (.int k) => some (.convInt k x)
    | some .string, some .string => some (.convStr x)
    | some .string, some (.slice e) => if P.underlying e matches some (.int .u8) then some (.strBytes x) else none
    | some (.slice e), some .string => if P.underlying e matches some (.int .u8) then some (.bytesStr x) else none
    | _, _ => none
  | .makeInterface t x => match P.underlying t with
    | some (.interface _) => none
    | some _ => some (.iface t x)
    | none => none
  | .makeFunc fn f c => some (.func fn f.toList c.toList)
  | .makeSlice t l c => match P.underlying t with
    | some (.slice e) => match sizeBytes P e, zeroOf P e with
      | some (n, b), some z => if 1 ≤ b ∧ 1 ≤ n ∧ z.length = n then some (.makeSlice n b z l c) else none
      | _, _ => none
    | _ => none
  | .slice t x lo hi mx => match mx, P.underlying t with
    | none, some .string => some (.sliceStr x lo hi)
    | none, some (.slice e) => match P.info? e with
      | some j => if 1 ≤ j.size then some (.sliceSl j.size x lo hi) else none
      | none => none
    | none, some (.array n e) => match P.info? e with
      | some j => if 1 ≤ j.size then some (.sliceArr n j.size x lo hi) else none
      | none => none
    | _, _ => none
  | .fieldAddr s x f => match P.underlying s with
    | some (.struct fs) => match fs[f]? with
      | some fd => match P.info? fd.type with
        | some j => if 1 ≤ j.size then some (.fieldAddr fd.offset x) else none
        | none => none
      | none => none
    | _ => none
  | .field t x f => match P.underlying t with
    | some (.struct fs) => match fs[f]? with
      | some fd => (aggN P fd.type).map fun n => .field n fd.offset x
      | none => none
    | _ => none
  | .indexAddr t x i => match P.underlying t with
    | some (.array n e) => match P.info? e with
      | some j => some (.idxAddrArr n j.size x i)
      | none => none
    | some (.slice e) => match P.info? e with
      | some j => if 1 ≤ j.size then some (.idxAddrSl j.size x i) else none
      | none => none
    | _ => none
  | .index t x i => match P.underlying t with
    | some (.array n e) => match P.info? e, aggN P e with
      | some j, some m => some (.idxArr n j.size m x i)
      | _, _ => none
    | some .string => some (.idxStr x i)
    | _ => none
  | .extract x i => some (.extract x i)
  | .call c => compileCall P c
  | _ => none
  else none

end Go.Wb

/- The abstract machine: operations in a row, code, calls; with fuel. And how code is taken over from the model. -/
import Derived.Test.YtihcipgcknjkbaaWbCompile
namespace Go.Wb
open Go

structure AOper where
  dst : Option Tmp
  op : AOp
  guard : Option (Tmp × Bool)

inductive ACode where
  | skip
  | ops (l : List AOper)
  | drawn (l : List AOper) (pairs : List (Nat × Nat))
  | seq (a b : ACode)
  | cond (c : Operand) (x y : ACode)
  | block (id : Nat) (b : ACode)
  | loop (b : ACode)
  | exit (id : Nat)
  | ret

inductive AExit where
  | normal
  | exit (id : Nat)
  | ret

inductive ARes where
  | tmp (t : Tmp)
  | cell (t : Tmp) (n : Option Nat)

inductive AFun where
  | code (res : List ARes) (body : ACode)
  | prim (g : List Value → Heap → Option (Value × Heap))

abbrev Env := String → Option AFun
abbrev CallF := String → List Value → Heap → Option (Value × Heap)

def wantedA (g : Option (Tmp × Bool)) (t : T) : Bool :=
  match g with
  | none => true
  | some (d, w) => match t d with
    | .bool b => b == w
    | _ => false

def evalA (call : CallF) (o : AOp) (t : T) (h : Heap) : Option (Value × Heap) :=
  match o with
  | .call f args => call f (args.map (Ev t)) h
  | o => aOp o t h

def stepA (call : CallF) (o : AOper) (t : T) (h : Heap) : Option (T × Heap) :=
  if wantedA o.guard t then
    match evalA call o.op t h with
    | some (v, h') => some (put t o.dst v, h')
    | none => none
  else some (put t o.dst undef, h)

def execOps (call : CallF) : List AOper → T → Heap → Option (T × Heap)
  | [], t, h => some (t, h)
  | o :: l, t, h => match stepA call o t h with
    | some (t', h') => execOps call l t' h'
    | none => none

/-- Does an operation change the heap? -/
def isE : AOp → Bool
  | .store .. | .append .. | .copy .. | .call .. | .alloc .. | .box .. | .buildSlice .. | .makeSlice .. | .strBytes .. => true
  | _ => false

/-- A load that was done: how many cells, from where, and what came. -/
abbrev LoadRec := Option (Option Nat × Value × Value)

def loadRec (o : AOper) (t : T) (h : Heap) : List LoadRec :=
  match o.op with
  | .load n x => if wantedA o.guard t then match readV h n (Ev t x) with
      | some v => [some (n, Ev t x, v)]
      | none => [none]
    else [none]
  | _ => []

/-- As 'execOps'; told beside: the heap behind each operation that has an effect, and the loads. -/
def execLog (call : CallF) : List AOper → T → Heap → Option (T × Heap × List Heap × List LoadRec)
  | [], t, h => some (t, h, [], [])
  | o :: l, t, h => match stepA call o t h with
    | some (t', h') => match execLog call l t' h' with
      | some (t2, h2, G, L) => some (t2, h2, if isE o.op then h' :: G else G, loadRec o t h ++ L)
      | none => none
    | none => none

/-- A load gives the same at another stage, too. -/
def sameAt (G : List Heap) (L : List LoadRec) (p : Nat × Nat) : Prop :=
  match L[p.1]?, G[p.2]? with
  | some (some (n, a, v)), some h => readV h n a = some v
  | some none, some _ => True
  | _, _ => False

def checkPairs (G : List Heap) (L : List LoadRec) : List (Nat × Nat) → Prop
  | [] => True
  | p :: ps => sameAt G L p ∧ checkPairs G L ps

open Classical in
noncomputable def execDrawn (call : CallF) (l : List AOper) (pairs : List (Nat × Nat)) (t : T) (h : Heap) : Option (T × Heap) :=
  match execLog call l t h with
  | some (t', h', G, L) => if checkPairs (h :: G) L pairs then some (t', h') else none
  | none => none

def resVals (t : T) (h : Heap) : List ARes → Option (List Value)
  | [] => some []
  | .tmp i :: l => match resVals t h l with
    | some vs => some (t i :: vs)
    | none => none
  | .cell i n :: l => match readV h n (t i), resVals t h l with
    | some v, some vs => some (v :: vs)
    | _, _ => none

def resVal (t : T) (h : Heap) (rs : List ARes) : Option Value :=
  match resVals t h rs with
  | some [v] => some v
  | some vs => some (.tuple vs.toArray)
  | none => none

def argT (args : List Value) : T := fun i => args.getD i undef

mutual
noncomputable def callN (E : Env) : Nat → CallF
  | 0, _, _, _ => none
  | n + 1, f, args, h => match E f with
    | none => none
    | some (.prim g) => g args h
    | some (.code res body) => match runN E n body (argT args) h with
      | some (.ret, t, h') => (resVal t h' res).map fun v => (v, h')
      | some (.normal, t, h') => (resVal t h' res).map fun v => (v, h')
      | _ => none
noncomputable def runN (E : Env) : Nat → ACode → T → Heap → Option (AExit × T × Heap)
  | 0, _, _, _ => none
  | n + 1, c, t, h => match c with
    | .skip => some (.normal, t, h)
    | .ops l => (execOps (callN E n) l t h).map fun x => (.normal, x.1, x.2)
    | .drawn l ps => (execDrawn (callN E n) l ps t h).map fun x => (.normal, x.1, x.2)
    | .seq a b => match runN E n a t h with
      | some (.normal, t', h') => runN E n b t' h'
      | r => r
    | .cond c x y => match Ev t c with
      | .bool true => runN E n x t h
      | .bool false => runN E n y t h
      | _ => none
    | .block id b => match runN E n b t h with
      | some (.exit i, t', h') => if i = id then some (.normal, t', h') else some (.exit i, t', h')
      | r => r
    | .loop b => match runN E n b t h with
      | some (.normal, t', h') => runN E n (.loop b) t' h'
      | r => r
    | .exit id => some (.exit id, t, h)
    | .ret => some (.ret, t, h)
end

/-! ### From the model's code -/
abbrev Names := FuncId → Option String

def noCall : Option AOp → Option AOp
  | some (.call _ _) => none
  | r => r

def compileOpN (P : Program) (nm : Names) (op : Op) : Option AOp :=
  match op with
  | .call c => match c.callee with
    | .value (.func f) => match nm f, P.funcs[f]? with
      | some n, some fn => if fn.body.isSome ∧ fn.name ≠ "runtime.NumGoroutine" ∧ okAll c.args.toList then some (.call n c.args.toList) else none
      | _, _ => none
    | _ => noCall (compileOp P op)
  | _ => noCall (compileOp P op)

def guardOf (ops : Array Oper) : Option (Nat × Bool) → Option (Option (Tmp × Bool))
  | none => some none
  | some (j, w) => match (ops[j]?).bind (·.dst) with
    | some d => some (some (d, w))
    | none => none

def compileOper (P : Program) (nm : Names) (nt : Nat) (ops : Array Oper) (o : Oper) : Option AOper :=
  match compileOpN P nm o.op, guardOf ops o.guard with
  | some op, some g => match o.dst with
    | none => some ⟨none, op, g⟩
    | some d => if d < nt then some ⟨some d, op, g⟩ else none
  | _, _ => none

def compileOps (P : Program) (nm : Names) (nt : Nat) (ops : Array Oper) : List Oper → Option (List AOper)
  | [] => some []
  | o :: l => match compileOper P nm nt ops o, compileOps P nm nt ops l with
    | some a, some r => some (a :: r)
    | _, _ => none

end Go.Wb

/- Regions that draw their order: what is asked of their edges (by a look that the kernel does), and which loads are looked at at which stages. -/
import Derived.Test.YtihcipgcknjkbaaWbRun
namespace Go.Wb
open Go

def aopOperands : AOp → List Operand
  | .move x | .box x | .load _ x | .nilCheck x | .nilv _ x | .un _ x | .convInt _ x | .convStr x | .strBytes x | .bytesStr x | .iface _ x | .fieldAddr _ x | .field _ _ x | .len x | .lenStr x | .extract x _ => [x]
  | .pick c a b => [c, a, b]
  | .alloc _ | .const _ => []
  | .build _ ps | .buildSlice _ _ _ ps => ps.map fun p => p.2.2
  | .store _ a x => [a, x]
  | .bin _ x y | .binB _ x y | .eqv _ _ x y | .max2 x y | .min2 x y => [x, y]
  | .func _ f c => f ++ c
  | .makeSlice _ _ _ l c => [l, c]
  | .sliceSl _ x lo hi | .sliceStr x lo hi | .sliceArr _ _ x lo hi => [x] ++ lo.toList ++ hi.toList
  | .idxAddrArr _ _ x i | .idxAddrSl _ x i | .idxArr _ _ _ x i | .idxStr x i => [x, i]
  | .append _ _ s x => [s, x]
  | .copy _ d s => [d, s]
  | .call _ args => args

def tmpsOf : List Operand → List Tmp
  | [] => []
  | .tmp i :: l => i :: tmpsOf l
  | _ :: l => tmpsOf l

def readsOf (o : AOper) : List Tmp := tmpsOf (aopOperands o.op) ++ (match o.guard with | some (d, _) => [d] | none => [])

/-- Does it look at the heap in another way than a load? -/
def isR : AOp → Bool
  | .bytesStr .. | .sliceArr .. => true
  | _ => false

def isLoad : AOp → Bool
  | .load .. => true
  | _ => false

/-- All that stands ahead of an operation by edges that bind: a row of bits. -/
def maskOf (acc : List Nat) (o : Oper) : Nat :=
  o.after.toList.foldl (fun s e => if Region.binds .any e then s ||| (2 ^ e.on ||| acc.getD e.on 0) else s) 0

def ancs : List Oper → List Nat → List Nat
  | [], acc => acc
  | o :: l, acc => ancs l (acc ++ [maskOf acc o])

def depends (x y : AOper) : Bool :=
  (match x.dst with | some d => (readsOf y).contains d || y.dst == some d | none => false) ||
  (match y.dst with | some d => (readsOf x).contains d | none => false) ||
  (isE x.op && isE y.op) || (isE x.op && isR y.op) || (isR x.op && isE y.op)

def cnt (l : List AOper) (k : Nat) : Nat := ((l.take k).filter fun o => isE o.op).length
def cntL (l : List AOper) (k : Nat) : Nat := ((l.take k).filter fun o => isLoad o.op).length

def anc (m : List Nat) (j i : Nat) : Bool := (m.getD j 0).testBit i

/-- May the load 'i' be done when 's' effects have been? -/
def stageOk (l : List AOper) (m : List Nat) (i s : Nat) : Bool :=
  (List.range l.length).all fun e => match l[e]? with
    | some o => !isE o.op || ((!anc m i e || decide (cnt l e < s)) && (!anc m e i || decide (s ≤ cnt l e)))
    | none => true

def pairsOf (l : List AOper) (m : List Nat) : List (Nat × Nat) :=
  (List.range l.length).flatMap fun i => match l[i]? with
    | some o => if isLoad o.op then ((List.range (cnt l l.length + 1)).filter fun s => s != cnt l i && stageOk l m i s).map fun s => (cntL l i, s) else []
    | none => []

def edgesBack (ops : List Oper) : Bool :=
  (List.range ops.length).all fun j => match ops[j]? with
    | some o => o.after.toList.all fun e => !Region.binds .any e || decide (e.on < j)
    | none => true

def depsOk (l : List AOper) (m : List Nat) : Bool :=
  (List.range l.length).all fun j => (List.range j).all fun i => match l[i]?, l[j]? with
    | some x, some y => !depends x y || anc m j i
    | _, _ => true

def drawOk (ops : List Oper) (l : List AOper) : Option (List (Nat × Nat)) :=
  if edgesBack ops && depsOk l (ancs ops []) then some (pairsOf l (ancs ops [])) else none

/-! ### What an operation's result hangs on -/
theorem ev_congr {t t' : T} : ∀ {x : Operand}, (∀ i, x = .tmp i → t i = t' i) → Ev t x = Ev t' x
  | .tmp i, h => h i rfl
  | .const _, _ => rfl
  | .global _, _ => rfl
  | .func _, _ => rfl

theorem mem_tmpsOf {i : Tmp} : ∀ {l : List Operand}, Operand.tmp i ∈ l → i ∈ tmpsOf l
  | [], h => by cases h
  | x :: l, h => by
    cases h with
    | head => simp [tmpsOf]
    | tail _ h => have := mem_tmpsOf h; cases x <;> simp [tmpsOf, this]

theorem bound_congr {t t' : T} {a b : Nat} {x : Option Operand} (h : ∀ y, x = some y → Ev t y = Ev t' y) : bound t a b x = bound t' a b x := by
  cases x with
  | none => rfl
  | some y => simp only [bound]; rw [h y rfl]

theorem fillL_congr {t t' : T} : ∀ {cs : List Value} {ps : List (Nat × Nat × Operand)}, (∀ p ∈ ps, Ev t p.2.2 = Ev t' p.2.2) → fillL t cs ps = fillL t' cs ps
  | cs, [], _ => rfl
  | cs, (o, s, x) :: ps, h => by
    simp only [fillL]
    have h1 : Ev t x = Ev t' x := h (o, s, x) (by simp)
    rw [h1]
    split
    · exact fillL_congr (fun p hp => h p (by simp [hp]))
    · rfl

theorem map_congr {t t' : T} {l : List Operand} (h : ∀ x ∈ l, Ev t x = Ev t' x) : l.map (Ev t) = l.map (Ev t') := List.map_congr_left h

theorem evalA_congr {call : CallF} {op : AOp} {t t' : T} {h : Heap} (hh : ∀ x ∈ aopOperands op, Ev t x = Ev t' x) : evalA call op t h = evalA call op t' h := by
  cases op <;> simp only [evalA, aOp, aopOperands, forall_eq, List.mem_cons, List.not_mem_nil, or_false, forall_eq_or_imp] at hh ⊢ <;>
    first
    | rfl
    | (rw [hh]; done)
    | (rw [hh.1, hh.2]; done)
    | (rw [hh.1, hh.2.1, hh.2.2]; done)
    | (rw [fillL_congr (fun p hp => hh _ (List.mem_map.2 ⟨p, hp, rfl⟩))]; done)
    | (rw [map_congr (fun x hx => hh x (List.mem_append.2 (.inl hx))), map_congr (fun x hx => hh x (List.mem_append.2 (.inr hx)))]; done)
    | (rw [map_congr hh]; done)
    | skip
  · rename_i size x lo hi
    have hx : Ev t x = Ev t' x := hh x (by simp)
    have hl : ∀ y, lo = some y → Ev t y = Ev t' y := fun y hy => hh y (by simp [hy])
    have hhi : ∀ y, hi = some y → Ev t y = Ev t' y := fun y hy => hh y (by simp [hy])
    simp only [hx, bound_congr hl, bound_congr hhi]
  · rename_i x lo hi
    have hx : Ev t x = Ev t' x := hh x (by simp)
    have hl : ∀ y, lo = some y → Ev t y = Ev t' y := fun y hy => hh y (by simp [hy])
    have hhi : ∀ y, hi = some y → Ev t y = Ev t' y := fun y hy => hh y (by simp [hy])
    simp only [hx, bound_congr hl, bound_congr hhi]
  · rename_i n size x lo hi
    have hx : Ev t x = Ev t' x := hh x (by simp)
    have hl : ∀ y, lo = some y → Ev t y = Ev t' y := fun y hy => hh y (by simp [hy])
    have hhi : ∀ y, hi = some y → Ev t y = Ev t' y := fun y hy => hh y (by simp [hy])
    simp only [hx, bound_congr hl, bound_congr hhi]

/-- What changes nothing gives the same over any heap. -/
theorem pure_any {call : CallF} {op : AOp} {t : T} {h h' h2 : Heap} {v : Value} (he : isE op = false) (hr : isR op = false) (hl : isLoad op = false) (hx : evalA call op t h = some (v, h')) :
    h' = h ∧ evalA call op t h2 = some (v, h2) := by
  cases op <;> first | (cases he; done) | (cases hr; done) | (cases hl; done) | skip
  all_goals
    simp only [evalA, aOp] at hx ⊢
    first
    | (injection hx with hx; injection hx with e1 e2; subst e1 e2; exact ⟨rfl, rfl⟩)
    | (rw [Option.map_eq_some_iff] at hx; obtain ⟨u, hu, hx⟩ := hx; injection hx with e1 e2; subst e1 e2; rw [hu]; exact ⟨rfl, rfl⟩)
    | ((repeat' split at hx) <;> first
        | (cases hx; done)
        | (injection hx with hx; injection hx with e1 e2; subst e1 e2; exact ⟨rfl, by simp [*]⟩)
        | (rw [Option.map_eq_some_iff] at hx; obtain ⟨u, hu, hx⟩ := hx; injection hx with e1 e2; subst e1 e2; exact ⟨rfl, by simp [*]⟩))

/-- What is no effect leaves the heap. -/
theorem heap_same {call : CallF} {op : AOp} {t : T} {h h' : Heap} {v : Value} (he : isE op = false) (hx : evalA call op t h = some (v, h')) : h' = h := by
  cases op <;> first | (cases he; done) | skip
  all_goals
    simp only [evalA, aOp] at hx
    first
    | (injection hx with hx; injection hx with e1 e2; exact e2.symm)
    | (rw [Option.map_eq_some_iff] at hx; obtain ⟨u, hu, hx⟩ := hx; injection hx with e1 e2; exact e2.symm)
    | ((repeat' split at hx) <;> first
        | (cases hx; done)
        | (injection hx with hx; injection hx with e1 e2; exact e2.symm)
        | (rw [Option.map_eq_some_iff] at hx; obtain ⟨u, hu, hx⟩ := hx; injection hx with e1 e2; exact e2.symm))

end Go.Wb

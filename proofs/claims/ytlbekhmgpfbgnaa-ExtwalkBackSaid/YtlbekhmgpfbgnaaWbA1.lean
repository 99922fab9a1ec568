import Derived.Calls
import Derived.Laws.Entries
import Derived.Laws.Cells
import Derived.Laws.StructEq
import Derived.IntWalk
set_option linter.all false
namespace Go.Wb
open Go
inductive Blk where
 | dead
 | mem (ro : Bool) (cells : List Value)
abbrev Heap := List Blk
abbrev T := Nat → Value
def upd (t : T) (k : Nat) (v : Value) : T := fun i => if i = k then v else t i
def put (t : T) (d : Option Tmp) (v : Value) : T :=
 match d with
 | some k => upd t k v
 | none => t
structure Pos where
 blk : Nat
 off : Nat
 size : Nat
abbrev Inj := Nat → Pos
inductive VRel (ι : Inj) (n : Nat) : Value → Value → Prop where
 | bool (b : Bool) : VRel ι n (.bool b) (.bool b)
 | int (k : IntKind) (x : Int) : VRel ι n (.int k x) (.int k x)
 | string (s : ByteArray) : VRel ι n (.string s) (.string s)
 | nilPtr : VRel ι n (.pointer none) (.pointer none)
 | ptr (b o : Nat) (h : b < n) : VRel ι n (.pointer (some ⟨b, o, none⟩)) (.pointer (some ⟨(ι b).blk, (ι b).off + o, none⟩))
 | nilSlice : VRel ι n (.slice none 0 0) (.slice none 0 0)
 | slice (b o len s : Nat) (a : Addr) (cap : Nat) (h : b < n) (hl : len ≤ cap) (hc : 0 < cap → ∃ o', a = ⟨(ι b).blk, o', none⟩ ∧ (0 < len → o' = (ι b).off + o) ∧ o' + cap * s ≤ (ι b).size) :
  VRel ι n (.slice (some ⟨b, o, none⟩) len s) (.slice (some a) len cap)
 | nilFunc : VRel ι n .nilFunc .nilFunc
 | func (fn : Fn) (f c f' c' : Array Value) (hf : f.size = f'.size) (hc : c.size = c'.size)
  (h1 : ∀ i, VRel ι n (f.getD i Go.undef) (f'.getD i Go.undef)) (h2 : ∀ i, VRel ι n (c.getD i Go.undef) (c'.getD i Go.undef)) : VRel ι n (.func fn f c) (.func fn f' c')
 | nilIface : VRel ι n .nilIface .nilIface
 | nilMap : VRel ι n (.map none) (.map none)
 | iface (t : TypeId) (v v' : Value) (h : VRel ι n v v') : VRel ι n (.iface t v) (.iface t v')
 | agg (c c' : Array Value) (hs : c.size = c'.size) (h : ∀ i, VRel ι n (c.getD i Go.undef) (c'.getD i Go.undef)) (h1 : ∀ v ∈ c', v.oneCell' = true) : VRel ι n (.agg c) (.agg c')
 | tuple0 : VRel ι n (.tuple #[]) (.tuple #[])
 | tuple (c c' : Array Value) (hs : c.size = c'.size) (h : ∀ i, VRel ι n (c.getD i Go.undef) (c'.getD i Go.undef)) : VRel ι n (.tuple c) (.tuple c')
theorem VRel.undef {ι : Inj} {n : Nat} : VRel ι n Go.undef Go.undef := by
 generalize hu : Go.undef = u
 have h0 : u = .tuple #[] := hu ▸ rfl
 rw [h0]
 exact .tuple0
theorem VRel.mkSlice {ι : Inj} {n : Nat} (b o len s o' cap : Nat) (h : b < n) (ho : 0 < len → o' = (ι b).off + o) (hl : len ≤ cap) (hc : o' + cap * s ≤ (ι b).size) :
 VRel ι n (.slice (some ⟨b, o, none⟩) len s) (.slice (some ⟨(ι b).blk, o', none⟩) len cap) := .slice b o len s _ cap h hl fun _ => ⟨o', rfl, ho, hc⟩
theorem VRel.mono {ι ι' : Inj} {n n' : Nat} {v v' : Value} (h : VRel ι n v v') (ha : ∀ b, b < n → ι' b = ι b) (hn : n ≤ n') : VRel ι' n' v v' := by
 induction h with
 | bool b => exact .bool b
 | int k x => exact .int k x
 | string s => exact .string s
 | nilPtr => exact .nilPtr
 | ptr b o h => rw [← ha b h]; exact .ptr b o (by omega)
 | nilSlice => exact .nilSlice
 | slice b o len s a cap h hl hc => rw [← ha b h] at hc; exact .slice b o len s a cap (by omega) hl hc
 | nilFunc => exact .nilFunc
 | func fn f c f' c' hf hc _ _ i1 i2 => exact .func fn f c f' c' hf hc i1 i2
 | nilIface => exact .nilIface
 | nilMap => exact .nilMap
 | iface t v v' _ ih => exact .iface t v v' ih
 | agg c c' hs _ h1 ih => exact .agg c c' hs ih h1
 | tuple0 => exact .tuple0
 | tuple c c' hs _ ih => exact .tuple c c' hs ih
def CRel (ι : Inj) (n : Nat) (l l' : List Value) : Prop := l.length = l'.length ∧ ∀ i, VRel ι n (l.getD i Go.undef) (l'.getD i Go.undef)
theorem CRel.mono {ι ι' : Inj} {n n' : Nat} {l l' : List Value} (h : CRel ι n l l') (ha : ∀ b, b < n → ι' b = ι b) (hn : n ≤ n') : CRel ι' n' l l' :=
 ⟨h.1, fun i => (h.2 i).mono ha hn⟩
structure Rel (ι : Inj) (h : Heap) (w : World) : Prop where
 cell : ∀ b ro cs, h[b]? = some (.mem ro cs) → ∀ i, i < cs.length → ∃ v', w.cell? ⟨(ι b).blk, (ι b).off + i, none⟩ = some v' ∧ VRel ι h.length (cs.getD i undef) v' ∧ v'.oneCell' = true
 inside : ∀ b ro cs, h[b]? = some (.mem ro cs) → (ro = false ∨ cs ≠ []) → (ι b).blk < w.heap.size
 fits : ∀ b ro cs, h[b]? = some (.mem ro cs) → (ι b).off + cs.length ≤ (ι b).size
 own : ∀ b cs, h[b]? = some (.mem false cs) → ∃ c e lo hi, w.heap[(ι b).blk]? = some (.cells c e (lo, hi)) ∧ c.size = (ι b).size ∧ (∀ o, o < c.size → ¬ (lo ≤ o ∧ o < hi))
 apart : ∀ b b' cs ro cs', h[b]? = some (.mem false cs) → h[b']? = some (.mem ro cs') → b ≠ b' → (ro = false ∨ cs' ≠ []) → (ι b).blk ≠ (ι b').blk
def Owned (ι : Inj) (h : Heap) (B : Nat) : Prop := ∃ b cs, h[b]? = some (.mem false cs) ∧ (ι b).blk = B
structure Step (ι : Inj) (h : Heap) (w : World) (ι' : Inj) (h' : Heap) (w' : World) : Prop where
 len : h.length ≤ h'.length
 agree : ∀ b, b < h.length ∨ h'.length ≤ b → ι' b = ι b
 rel : Rel ι' h' w'
 size : w.heap.size ≤ w'.heap.size
 frame : ∀ B, B < w.heap.size → ¬ Owned ι h B → w'.heap[B]? = w.heap[B]?
 own : ∀ B, Owned ι' h' B → w.heap.size ≤ B ∨ Owned ι h B
 tape : w'.tape = w.tape
 os : w'.os = w.os
 output : w'.output = w.output
 ro : ∀ b cs, h'[b]? = some (.mem true cs) → cs ≠ [] → h[b]? = some (.mem true cs) ∨ w.heap.size ≤ (ι' b).blk ∨ Owned ι h (ι' b).blk
theorem Step.refl {ι : Inj} {h : Heap} {w : World} (hr : Rel ι h w) : Step ι h w ι h w where
 len := Nat.le_refl _
 agree := fun _ _ => rfl
 rel := hr
 size := Nat.le_refl _
 frame := fun _ _ _ => rfl
 own := fun _ h => .inr h
 tape := rfl
 os := rfl
 output := rfl
 ro := fun _ _ hb _ => .inl hb
theorem Step.trans {ι ι₁ ι₂ : Inj} {h h₁ h₂ : Heap} {w w₁ w₂ : World} (s : Step ι h w ι₁ h₁ w₁) (s' : Step ι₁ h₁ w₁ ι₂ h₂ w₂) : Step ι h w ι₂ h₂ w₂ where
 len := Nat.le_trans s.len s'.len
 agree := fun b hb => by
  rw [s'.agree b (by have := s.len; have := s'.len; omega), s.agree b (by have := s.len; have := s'.len; omega)]
 rel := s'.rel
 size := Nat.le_trans s.size s'.size
 frame := fun B hB hn => by
  rw [s'.frame B (Nat.lt_of_lt_of_le hB s.size) (fun ho => ?_), s.frame B hB hn]
  rcases s.own B ho with h | h
  ·omega
  ·exact hn h
 own := fun B ho => by
  rcases s'.own B ho with h | h
  ·exact .inl (Nat.le_trans s.size h)
  ·exact s.own B h
 tape := s'.tape.trans s.tape
 os := s'.os.trans s.os
 output := s'.output.trans s.output
 ro := fun b cs hb hz => by
  rcases s'.ro b cs hb hz with h1 | h1 | h1
  ·have hl : b < h₁.length := by
    rcases Nat.lt_or_ge b h₁.length with h2 | h2
    ·exact h2
    ·simp [List.getElem?_eq_none h2] at h1
   rw [s'.agree b (.inl hl)]
   exact s.ro b cs h1 hz
  ·exact .inr (.inl (Nat.le_trans s.size h1))
  ·exact .inr (s.own _ h1)
theorem Rel.drawn {ι : Inj} {h : Heap} {w : World} (hr : Rel ι h w) (n : Nat) : Rel ι h { w with drawn := n } := ⟨hr.cell, hr.inside, hr.fits, hr.own, hr.apart⟩
theorem Step.drawn {ι : Inj} {h : Heap} {w : World} (hr : Rel ι h w) (n : Nat) : Step ι h w ι h { w with drawn := n } where
 len := Nat.le_refl _
 agree := fun _ _ => rfl
 rel := hr.drawn n
 size := Nat.le_refl _
 frame := fun _ _ _ => rfl
 own := fun _ h => .inr h
 tape := rfl
 os := rfl
 output := rfl
 ro := fun _ _ hb _ => .inl hb
theorem Step.vrel {ι ι' : Inj} {h h' : Heap} {w w' : World} (s : Step ι h w ι' h' w') {v v' : Value} (hv : VRel ι h.length v v') : VRel ι' h'.length v v' :=
 hv.mono (fun b hb => s.agree b (.inl hb)) s.len
theorem Step.crel {ι ι' : Inj} {h h' : Heap} {w w' : World} (s : Step ι h w ι' h' w') {l l' : List Value} (hv : CRel ι h.length l l') : CRel ι' h'.length l l' :=
 hv.mono (fun b hb => s.agree b (.inl hb)) s.len
end Go.Wb
namespace Go.Wb
open Go
inductive CK where
 | bool
 | int
 | string
inductive AOp where
 | move (x : Operand)
 | pick (c a b : Operand)
 | box (x : Operand)
 | alloc (zero : List Value)
 | build (zero : List Value) (parts : List (Nat × Nat × Operand))
 | buildSlice (size len : Nat) (zero : List Value) (parts : List (Nat × Nat × Operand))
 | load (n : Option Nat) (x : Operand)
 | store (n : Option Nat) (a x : Operand)
 | nilCheck (x : Operand)
 | bin (op : BinOp) (x y : Operand)
 | binB (op : BinOp) (x y : Operand)
 | eqv (neg : Bool) (ks : List CK) (x y : Operand)
 | nilv (neg : Bool) (x : Operand)
 | un (op : UnOp) (x : Operand)
 | convInt (k : IntKind) (x : Operand)
 | convStr (x : Operand)
 | strBytes (x : Operand)
 | bytesStr (x : Operand)
 | iface (t : TypeId) (x : Operand)
 | func (fn : Fn) (first captured : List Operand)
 | makeSlice (size bytes : Nat) (zero : List Value) (len cap : Operand)
 | sliceSl (size : Nat) (x : Operand) (lo hi : Option Operand)
 | sliceStr (x : Operand) (lo hi : Option Operand)
 | sliceArr (len size : Nat) (x : Operand) (lo hi : Option Operand)
 | fieldAddr (off : Nat) (x : Operand)
 | field (n : Option Nat) (off : Nat) (x : Operand)
 | idxAddrArr (len size : Nat) (x i : Operand)
 | idxAddrSl (size : Nat) (x i : Operand)
 | slArr (len size : Nat) (x : Operand)
 | idxArr (len size : Nat) (n : Option Nat) (x i : Operand)
 | idxStr (x i : Operand)
 | len (x : Operand)
 | lenStr (x : Operand)
 | const (v : Value)
 | append (size bytes : Nat) (s x : Operand)
 | appendS (size bytes : Nat) (s x : Operand)
 | copy (size : Nat) (d s : Operand)
 | max2 (x y : Operand)
 | min2 (x y : Operand)
 | extract (x : Operand) (i : Nat)
 | call (f : String) (args : List Operand)
def Ev (t : T) : Operand → Value
 | .tmp i => t i
 | .const v => v
 | .global _ => undef
 | .func f => .func (.func f) #[] #[]
def aInt (op : BinOp) (k : IntKind) (a b : Int) : Option Value :=
 match op with
 | .add => some (.int k (k.wrap (a + b)))
 | .sub => some (.int k (k.wrap (a - b)))
 | .mul => some (.int k (k.wrap (a * b)))
 | .quo => if b = 0 then none else some (.int k (k.wrap (a.tdiv b)))
 | .rem => if b = 0 then none else some (.int k (a.tmod b))
 | .and => some (.int k (bits .and k a b))
 | .or => some (.int k (bits .or k a b))
 | .xor => some (.int k (bits .xor k a b))
 | .andNot => some (.int k (bits .andNot k a b))
 | .eql => some (.bool (a == b))
 | .neq => some (.bool (a != b))
 | .lss => some (.bool (a < b))
 | .leq => some (.bool (a ≤ b))
 | .gtr => some (.bool (a > b))
 | .geq => some (.bool (a ≥ b))
 | .shl | .shr => none
def aShift (op : BinOp) (k : IntKind) (a b : Int) : Option Value :=
 match op with
 | .shl => if b < 0 then none else some (.int k (k.wrap (a * 2 ^ (min b.toNat k.bits))))
 | .shr => if b < 0 then none else some (.int k (a.fdiv (2 ^ (min b.toNat k.bits))))
 | _ => none
def aStr (op : BinOp) (a b : ByteArray) : Option Value :=
 match op with
 | .add => if ((a.size + b.size : Nat) : Int) > 9223372036854775807 then none else some (.string (a ++ b))
 | .eql => some (.bool (a.toList == b.toList))
 | .neq => some (.bool (!(a.toList == b.toList)))
 | .lss => some (.bool (Op.bytesLess a.toList b.toList))
 | .leq => some (.bool (Op.bytesLess a.toList b.toList || a.toList == b.toList))
 | .gtr => some (.bool (!(Op.bytesLess a.toList b.toList || a.toList == b.toList)))
 | .geq => some (.bool (!Op.bytesLess a.toList b.toList))
 | _ => none
def isShift : BinOp → Bool
 | .shl | .shr => true
 | _ => false
def aBin (op : BinOp) (x y : Value) : Option Value :=
 match x, y with
 | .int k a, .int k' b => if isShift op then aShift op k a b else if k = k' then aInt op k a b else none
 | .string a, .string b => aStr op a b
 | _, _ => none
def aBinB (op : BinOp) (x y : Value) : Option Value :=
 match op, x, y with
 | .eql, .bool a, .bool b => some (.bool (a == b))
 | .neq, .bool a, .bool b => some (.bool (!(a == b)))
 | _, _, _ => none
def aUn (op : UnOp) (x : Value) : Option Value :=
 match op, x with
 | .neg, .int k n => some (.int k (k.wrap (0 - n)))
 | .xor, .int k n => some (.int k (bits .xor k (if k.signed then -1 else k.max) n))
 | .not, .bool b => some (.bool (!b))
 | _, _ => none
def eqCell (k : CK) (x y : Value) : Option Bool :=
 match k, x, y with
 | .bool, .bool a, .bool b => some (a == b)
 | .int, .int k a, .int k' b => if k = k' then some (a == b) else none
 | .string, .string a, .string b => some (a.toList == b.toList)
 | _, _, _ => none
def eqCells : List CK → List Value → List Value → Option Bool
 | [], [], [] => some true
 | k :: ks, a :: l, b :: m => match eqCell k a b, eqCells ks l m with
   | some x, some y => some (x && y)
   | _, _ => none
 | _, _, _ => none
def aEq (ks : List CK) (x y : Value) : Option Bool :=
 match x, y with
 | .agg a, .agg b => eqCells ks a.toList b.toList
 | _, _ => none
def read1 (h : Heap) (b o : Nat) : Option Value :=
 match h[b]? with
 | some (.mem _ cs) => cs[o]?
 | _ => none
def readN (h : Heap) (b o n : Nat) : Option (List Value) :=
 match h[b]? with
 | some (.mem _ cs) => if o + n ≤ cs.length then some ((cs.drop o).take n) else none
 | _ => none
def write1 (h : Heap) (b o : Nat) (v : Value) : Option Heap :=
 match h[b]? with
 | some (.mem false cs) => if o < cs.length then some (h.set b (.mem false (cs.set o v))) else none
 | _ => none
def writeN (h : Heap) (b o : Nat) (vs : List Value) : Option Heap :=
 match h[b]? with
 | some (.mem false cs) => if o + vs.length ≤ cs.length then some (h.set b (.mem false (cs.take o ++ vs ++ cs.drop (o + vs.length)))) else none
 | _ => none
def readV (h : Heap) (n : Option Nat) (a : Value) : Option Value :=
 match a, n with
 | .pointer (some ⟨b, o, none⟩), none => read1 h b o
 | .pointer (some ⟨b, o, none⟩), some n => (readN h b o n).map fun cs => .agg cs.toArray
 | _, _ => none
def writeV (h : Heap) (n : Option Nat) (a v : Value) : Option Heap :=
 match a, n with
 | .pointer (some ⟨b, o, none⟩), none => if v.oneCell' then write1 h b o v else none
 | .pointer (some ⟨b, o, none⟩), some n => match v with
   | .agg cs => if cs.size = n then writeN h b o cs.toList else none
   | _ => none
 | _, _ => none
def valCells : Value → List Value
 | .agg cs => cs.toList
 | v => [v]
def lim48 : Nat := 2 ^ 48
def lim47 : Nat := 2 ^ 47
def lim24 : Nat := 2 ^ 24
def isStr : Value → Bool
 | .string _ => true
 | _ => false
def isTuple : Value → Bool
 | .tuple _ => true
 | _ => false
def fillL (t : T) : List Value → List (Nat × Nat × Operand) → Option (List Value)
 | cs, [] => some cs
 | cs, (off, size, x) :: rest =>
   if (valCells (Ev t x)).length = size ∧ off + size ≤ cs.length ∧ isTuple (Ev t x) = false then fillL t (cs.take off ++ valCells (Ev t x) ++ cs.drop (off + size)) rest else none
def repCells (n : Nat) : List Value → List Value
 | [z] => List.replicate n z
 | zs => (List.replicate n zs).flatten
def newBlk (h : Heap) (cs : List Value) : Heap := h ++ [.mem false cs]
def bound (t : T) (dflt : Nat) (most : Nat) : Option Operand → Option Nat
 | none => if dflt ≤ most then some dflt else none
 | some x => match Ev t x with
   | .int _ i => if 0 ≤ i ∧ i ≤ most then some i.toNat else none
   | _ => none
def srcCells (h : Heap) (size : Nat) : Value → Option (List Value)
 | .slice none 0 0 => some []
 | .slice (some ⟨b, o, none⟩) n s => if n = 0 then some [] else if s = size then readN h b o (n * size) else none
 | .string s => if size = 1 then some (s.data.toList.map fun b => .int .u8 b.toNat) else none
 | _ => none
def srcLen : Value → Nat
 | .slice _ n _ => n
 | .string s => s.size
 | _ => 0
def aAppend (h : Heap) (size bytes : Nat) (s x : Value) : Option (Value × Heap) :=
 match srcCells h size x with
 | none => none
 | some new =>
   match s with
   | .slice none 0 0 =>
     if srcLen x = 0 then some (s, h)
     else if srcLen x * bytes ≤ lim47 then some (.slice (some ⟨h.length, 0, none⟩) (srcLen x) size, newBlk h new) else none
   | .slice (some ⟨b, o, none⟩) n sz =>
     if sz = size then
      if srcLen x = 0 then some (s, h)
      else match h[b]? with
       | some (.mem false cs) =>
         if o + n * size ≤ cs.length ∧ (n + srcLen x) * bytes ≤ lim47 then
          some (.slice (some ⟨h.length, 0, none⟩) (n + srcLen x) size, newBlk (h.set b .dead) ((cs.drop o).take (n * size) ++ new))
         else none
       | _ => none
     else none
   | _ => none
def aAppendS (h : Heap) (size bytes : Nat) (s x : Value) : Option (Value × Heap) :=
 match srcCells h size x with
 | none => none
 | some new =>
   match s with
   | .slice (some ⟨b, 0, none⟩) n sz =>
     if sz = size ∧ 0 < srcLen x then match h[b]? with
      | some (.mem false cs) =>
        if n * size = cs.length ∧ (n + srcLen x) * bytes ≤ lim47 then
         some (.slice (some ⟨h.length, 0, none⟩) (n + srcLen x) size, h.set b (.mem true cs) ++ [.mem true (cs ++ new)])
        else none
      | _ => none
     else none
   | _ => none
def aCopy (h : Heap) (size : Nat) (d s : Value) : Option (Value × Heap) :=
 match d with
 | .slice none 0 0 => match srcCells h size s with
   | none => none
   | some _ => some (.int .i64 0, h)
 | .slice (some ⟨b, o, none⟩) n sz =>
   if sz = size then
    match srcCells h size s with
    | none => none
    | some cs =>
      let m := Nat.min (srcLen s) n
      if m = 0 then some (.int .i64 0, h)
      else (writeN h b o (cs.take (m * size))).map fun h' => (.int .i64 m, h')
   else none
 | _ => none
def aOp (o : AOp) (t : T) (h : Heap) : Option (Value × Heap) :=
 match o with
 | .move x => some (Ev t x, h)
 | .pick c a b => match Ev t c with
   | .bool true => some (Ev t a, h)
   | .bool false => some (Ev t b, h)
   | _ => none
 | .box x => if isTuple (Ev t x) = false then some (.pointer (some ⟨h.length, 0, none⟩), newBlk h (valCells (Ev t x))) else none
 | .alloc zero => some (.pointer (some ⟨h.length, 0, none⟩), newBlk h zero)
 | .build zero parts => (fillL t zero parts).map fun cs => (.agg cs.toArray, h)
 | .buildSlice size len zero parts => (fillL t (repCells len zero) parts).map fun cs => (.slice (some ⟨h.length, 0, none⟩) len size, newBlk h cs)
 | .load n x => (readV h n (Ev t x)).map fun v => (v, h)
 | .store n a x => (writeV h n (Ev t a) (Ev t x)).map fun h' => (undef, h')
 | .nilCheck x => match Ev t x with
   | .pointer (some a) => some (.pointer (some a), h)
   | .func (.func f) a c => some (.func (.func f) a c, h)
   | _ => none
 | .bin op x y => (aBin op (Ev t x) (Ev t y)).map fun v => (v, h)
 | .binB op x y => (aBinB op (Ev t x) (Ev t y)).map fun v => (v, h)
 | .eqv neg ks x y => (aEq ks (Ev t x) (Ev t y)).map fun v => (.bool (neg != v), h)
 | .nilv neg x => match Ev t x with
   | .slice none _ _ => some (.bool (neg != true), h)
   | .slice (some _) _ _ => some (.bool (neg != false), h)
   | _ => none
 | .un op x => (aUn op (Ev t x)).map fun v => (v, h)
 | .convInt k x => match Ev t x with
   | .int _ n => some (.int k (k.wrap n), h)
   | _ => none
 | .convStr x => match Ev t x with
   | .string s => some (.string s, h)
   | _ => none
 | .strBytes x => match Ev t x with
   | .string s => some (.slice (some ⟨h.length, 0, none⟩) s.size 1, newBlk h (s.data.toList.map fun b => .int .u8 b.toNat))
   | _ => none
 | .bytesStr x => match srcCells h 1 (Ev t x) with
   | some cs => if isStr (Ev t x) = false ∧ (cs.all fun v => match v with | .int .u8 _ => true | _ => false) then
    some (.string ⟨(cs.map fun v => match v with | .int _ n => UInt8.ofNat n.toNat | _ => 0).toArray⟩, h) else none
   | none => none
 | .iface ty x => some (.iface ty (Ev t x), h)
 | .func fn f c => some (.func fn (f.map (Ev t)).toArray (c.map (Ev t)).toArray, h)
 | .makeSlice size bytes zero len cap => match Ev t len, Ev t cap with
   | .int _ l, .int _ c => if 0 ≤ l ∧ l ≤ c ∧ bytes * c ≤ lim48 then
    some (.slice (some ⟨h.length, 0, none⟩) l.toNat size, newBlk h (repCells l.toNat zero)) else none
   | _, _ => none
 | .sliceSl size x lo hi => match Ev t x with
   | .slice none 0 0 => match bound t 0 0 hi with
     | some hh => match bound t 0 hh lo with
       | some _ => some (.slice none 0 0, h)
       | none => none
     | none => none
   | .slice (some ⟨b, o, none⟩) n s => if s = size ∨ n = 0 then match bound t n n hi with
    | some hh => match bound t 0 hh lo with
      | some l => some (.slice (some ⟨b, o + l * size, none⟩) (hh - l) s, h)
      | none => none
    | none => none
     else none
   | _ => none
 | .sliceStr x lo hi => match Ev t x with
   | .string s => match bound t s.size s.size hi with
     | some hh => match bound t 0 hh lo with
       | some l => some (.string (s.extract l hh), h)
       | none => none
     | none => none
   | _ => none
 | .sliceArr n size x lo hi => match Ev t x with
   | .pointer (some ⟨b, o, none⟩) => match h[b]? with
     | some (.mem _ cs) => if o + n * size ≤ cs.length then match bound t n n hi with
      | some hh => match bound t 0 hh lo with
        | some l => some (.slice (some ⟨b, o + l * size, none⟩) (hh - l) size, h)
        | none => none
      | none => none
       else none
     | _ => none
   | _ => none
 | .fieldAddr off x => match Ev t x with
   | .pointer (some ⟨b, o, none⟩) => some (.pointer (some ⟨b, o + off, none⟩), h)
   | _ => none
 | .field n off x => match Ev t x, n with
   | .agg cs, none => (cs.toList[off]?).map fun v => (v, h)
   | .agg cs, some m => some (.agg ((cs.toList.drop off).take m).toArray, h)
   | _, _ => none
 | .idxAddrArr len size x i => match Ev t x, Ev t i with
   | .pointer (some ⟨b, o, none⟩), .int _ i => if 0 ≤ i ∧ i < len then some (.pointer (some ⟨b, o + i.toNat * size, none⟩), h) else none
   | _, _ => none
 | .idxAddrSl size x i => match Ev t x, Ev t i with
   | .slice (some ⟨b, o, none⟩) n s, .int _ i => if s = size ∧ 0 ≤ i ∧ i < n then some (.pointer (some ⟨b, o + i.toNat * size, none⟩), h) else none
   | _, _ => none
 | .slArr len size x => match Ev t x with
   | .slice (some ⟨b, o, none⟩) n s => if s = size ∧ 0 < len ∧ len ≤ n then some (.pointer (some ⟨b, o, none⟩), h) else none
   | _ => none
 | .idxArr len size n x i => match Ev t x, Ev t i, n with
   | .agg cs, .int _ i, none => if 0 ≤ i ∧ i < len then (cs.toList[i.toNat * size]?).map fun v => (v, h) else none
   | .agg cs, .int _ i, some m => if 0 ≤ i ∧ i < len then some (.agg ((cs.toList.drop (i.toNat * size)).take m).toArray, h) else none
   | _, _, _ => none
 | .idxStr x i => match Ev t x, Ev t i with
   | .string s, .int _ i => if 0 ≤ i then (s.data.toList[i.toNat]?).map fun b => (.int .u8 b.toNat, h) else none
   | _, _ => none
 | .len x => match Ev t x with
   | .slice _ n _ => some (.int .i64 n, h)
   | _ => none
 | .lenStr x => match Ev t x with
   | .string s => some (.int .i64 s.size, h)
   | _ => none
 | .const v => some (v, h)
 | .append size bytes s x => aAppend h size bytes (Ev t s) (Ev t x)
 | .appendS size bytes s x => aAppendS h size bytes (Ev t s) (Ev t x)
 | .copy size d s => aCopy h size (Ev t d) (Ev t s)
 | .max2 x y => match Ev t x, Ev t y with
   | .int k a, .int _ b => some (.int k (if b > a then b else a), h)
   | _, _ => none
 | .min2 x y => match Ev t x, Ev t y with
   | .int k a, .int _ b => some (.int k (if b < a then b else a), h)
   | _, _ => none
 | .extract x i => match Ev t x with
   | .tuple vs => (vs.toList[i]?).map fun v => (v, h)
   | _ => none
 | .call _ _ => none
end Go.Wb
namespace Go.Wb
open Go
def constOk : Value → Bool
 | .bool _ | .int _ _ | .string _ | .pointer none | .slice none 0 0 | .nilFunc | .nilIface | .map none => true
 | _ => false
def operOk : Operand → Bool
 | .const v => constOk v
 | .global _ => false
 | _ => true
def aggN (P : Program) (t : TypeId) : Option (Option Nat) :=
 match P.info? t, P.underlying t with
 | some i, some (.struct _) => some (some i.size)
 | some i, some (.array _ _) => some (some i.size)
 | some _, some _ => some none
 | _, _ => none
def isAggC (P : Program) (t : TypeId) : Bool :=
 match P.underlying t with
 | some (.struct _) | some (.array _ _) => true
 | _ => false
def zeroOf (P : Program) (t : TypeId) : Option (List Value) :=
 match P.info? t with
 | some i => match i.zero with
   | some z => if (valCells z).length = i.size ∧ (valCells z).all constOk then some (valCells z) else none
   | none => none
 | none => none
def sizeBytes (P : Program) (t : TypeId) : Option (Nat × Nat) :=
 match P.info? t with
 | some i => some (i.size, i.bytes)
 | none => none
def fieldsKinds (P : Program) (rec : TypeId → Option (List CK)) : Nat → List Field → Option (List CK)
 | _, [] => some []
 | off, f :: fs =>
   if f.offset = off ∧ f.name ≠ "_" then
    match rec f.type, P.info? f.type with
    | some ks, some i => if i.size = ks.length ∧ 1 ≤ i.size then (fieldsKinds P rec (off + ks.length) fs).map fun l => ks ++ l else none
    | _, _ => none
   else none
def plainKinds (P : Program) : Nat → TypeId → Option (List CK)
 | 0, _ => none
 | d + 1, t =>
   match P.underlying t with
   | some .bool => some [.bool]
   | some (.int _) => some [.int]
   | some .string => some [.string]
   | some (.struct fs) => if P.stoodInHeld t = false then fieldsKinds P (plainKinds P d) 0 fs.toList else none
   | some (.array n e) => match plainKinds P d e, P.info? e with
     | some ks, some i => if i.size = ks.length ∧ 1 ≤ i.size then some (List.replicate n ks).flatten else none
     | _, _ => none
   | _ => none
def okAll (l : List Operand) : Bool := l.all operOk
def compileBin (P : Program) (op : BinOp) (t : TypeId) (x y : Operand) : Option AOp :=
 match P.underlying t with
 | some (.int _) => some (.bin op x y)
 | some .string => some (.bin op x y)
 | some .bool => some (.binB op x y)
 | some (.slice _) => match op, x, y with
   | .eql, x, .const (.slice none 0 0) => some (.nilv false x)
   | .neq, x, .const (.slice none 0 0) => some (.nilv true x)
   | .eql, .const (.slice none 0 0), x => some (.nilv false x)
   | .neq, .const (.slice none 0 0), x => some (.nilv true x)
   | _, _, _ => none
 | some (.struct _) => match plainKinds P 8 t with
   | some ks => if P.eqGuardType P.depth t = false then match op with
    | .eql => some (.eqv false ks x y)
    | .neq => some (.eqv true ks x y)
    | _ => none
     else none
   | none => none
 | some (.array _ _) => match plainKinds P 8 t with
   | some ks => if P.eqGuardType P.depth t = false then match op with
    | .eql => some (.eqv false ks x y)
    | .neq => some (.eqv true ks x y)
    | _ => none
     else none
   | none => none
 | _ => none
def partsOf (P : Program) (place : Nat → Option (Nat × Nat)) : List (Nat × Operand) → Option (List (Nat × Nat × Operand))
 | [] => some []
 | (i, x) :: rest => match place i, partsOf P place rest with
   | some (o, s), some l => some ((o, s, x) :: l)
   | _, _ => none
def compileCall (P : Program) (c : Call) : Option AOp :=
 match c.callee with
 | .value (.func f) => match P.funcs[f]? with
   | some fn => if fn.body.isSome ∧ fn.name ≠ "runtime.NumGoroutine" then some (.call fn.name c.args.toList) else none
   | none => none
 | .builtin .len => match c.args.toList, c.argTypes.toList with
   | [x], [t] => match P.underlying t with
     | some .string => some (.lenStr x)
     | some (.slice _) => some (.len x)
     | some (.array n _) => some (.const (.int .i64 n))
     | some (.pointer e) => match P.underlying e with
       | some (.array n _) => some (.const (.int .i64 n))
       | _ => none
     | _ => none
   | _, _ => none
 | .builtin .append => match c.args.toList, c.argTypes.toList with
   | [s, x], [t, tx] => match P.underlying t, P.underlying tx with
     | some (.slice e), some (.slice _) => match sizeBytes P e, zeroOf P e with
       | some (n, b), some z => if 1 ≤ b ∧ 1 ≤ n ∧ z.length = n then some (.append n b s x) else none
       | _, _ => none
     | some (.slice e), some .string => match sizeBytes P e, zeroOf P e with
       | some (n, b), some z => if 1 ≤ b ∧ 1 ≤ n ∧ z.length = n then some (.append n b s x) else none
       | _, _ => none
     | _, _ => none
   | _, _ => none
 | .builtin .copy => match c.args.toList, c.argTypes.toList with
   | [d, s], [t, _] => match P.underlying t with
     | some (.slice e) => match sizeBytes P e with
       | some (n, _) => if 1 ≤ n then some (.copy n d s) else none
       | none => none
     | _ => none
   | _, _ => none
 | .builtin .max => match c.args.toList with
   | [x, y] => some (.max2 x y)
   | _ => none
 | .builtin .min => match c.args.toList with
   | [x, y] => some (.min2 x y)
   | _ => none
 | _ => none
def compileOp (P : Program) (op : Op) : Option AOp :=
 if okAll op.operands.toList then
 match op with
 | .move x => some (.move x)
 | .assign x => some (.move x)
 | .pick c a b => some (.pick c a b)
 | .alloc e => (zeroOf P e).map .alloc
 | .box _ x => some (.box x)
 | .build t parts => match zeroOf P t, P.underlying t with
   | some z, some (.struct fs) => match partsOf P (fun i => (fs[i]?).bind fun f => (P.info? f.type).map fun j => (f.offset, j.size)) parts.toList with
     | some l => if fs.all (fun f => (P.info? f.type).isSome) then some (.build z l) else none
     | none => none
   | some z, some (.array _ e) => match P.info? e with
     | some j => match partsOf P (fun i => some (i * j.size, j.size)) parts.toList with
       | some l => some (.build z l)
       | none => none
     | none => none
   | _, _ => none
 | .buildSlice t len parts => match P.underlying t with
   | some (.slice e) => match P.info? e, zeroOf P e with
     | some j, some z => if len * j.size ≤ lim24 ∧ 1 ≤ j.size ∧ z.length = j.size then
      match partsOf P (fun i => some (i * j.size, j.size)) parts.toList with
      | some l => some (.buildSlice j.size len z l)
      | none => none
       else none
     | _, _ => none
   | _ => none
 | .load t a => (aggN P t).map fun n => .load n a
 | .store t a x => if isAggC P t = false → ((P.info? t).map (·.size)) = some 1 then (aggN P t).map fun n => .store n a x else none
 | .nilCheck x => some (.nilCheck x)
 | .binOp op t x y _ => compileBin P op t x y
 | .unOp op _ x => some (.un op x)
 | .convert src dst x => match P.underlying src, P.underlying dst with
   | some (.int _), some (.int k) => some (.convInt k x)
   | some .string, some .string => some (.convStr x)
   | some .string, some (.slice e) => if P.underlying e matches some (.int .u8) then some (.strBytes x) else none
   | some (.slice e), some .string => if P.underlying e matches some (.int .u8) then some (.bytesStr x) else none
   | _, _ => none
 | .makeInterface t x => match P.underlying t with
   | some (.interface _) => none
   | some _ => some (.iface t x)
   | none => none
 | .makeFunc fn f c => some (.func fn f.toList c.toList)
 | .makeSlice t l c => match P.underlying t with
   | some (.slice e) => match sizeBytes P e, zeroOf P e with
     | some (n, b), some z => if 1 ≤ b ∧ 1 ≤ n ∧ z.length = n then some (.makeSlice n b z l c) else none
     | _, _ => none
   | _ => none
 | .slice t x lo hi mx => match mx, P.underlying t with
   | none, some .string => some (.sliceStr x lo hi)
   | none, some (.slice e) => match P.info? e with
     | some j => if 1 ≤ j.size then some (.sliceSl j.size x lo hi) else none
     | none => none
   | none, some (.array n e) => match P.info? e with
     | some j => if 1 ≤ j.size then some (.sliceArr n j.size x lo hi) else none
     | none => none
   | _, _ => none
 | .fieldAddr s x f => match P.underlying s with
   | some (.struct fs) => match fs[f]? with
     | some fd => match P.info? fd.type with
       | some j => if 1 ≤ j.size then some (.fieldAddr fd.offset x) else none
       | none => none
     | none => none
   | _ => none
 | .sliceToArrayPointer t x => match P.underlying t with
   | some (.array n e) => match P.info? e with
     | some j => if 1 ≤ j.size then some (.slArr n j.size x) else none
     | none => none
   | _ => none
 | .field t x f => match P.underlying t with
   | some (.struct fs) => match fs[f]? with
     | some fd => (aggN P fd.type).map fun n => .field n fd.offset x
     | none => none
   | _ => none
 | .indexAddr t x i => match P.underlying t with
   | some (.array n e) => match P.info? e with
     | some j => some (.idxAddrArr n j.size x i)
     | none => none
   | some (.slice e) => match P.info? e with
     | some j => if 1 ≤ j.size then some (.idxAddrSl j.size x i) else none
     | none => none
   | _ => none
 | .index t x i => match P.underlying t with
   | some (.array n e) => match P.info? e, aggN P e with
     | some j, some m => some (.idxArr n j.size m x i)
     | _, _ => none
   | some .string => some (.idxStr x i)
   | _ => none
 | .extract x i => some (.extract x i)
 | .call c => compileCall P c
 | _ => none
 else none
end Go.Wb
namespace Go.Wb
open Go
theorem getD_eq {l : List Value} {i : Nat} {v : Value} (h : l[i]? = some v) : l.getD i undef = v := by simp [List.getD, h]
theorem crel_get {ι : Inj} {n : Nat} {l l' : List Value} (h : CRel ι n l l') {i : Nat} {v : Value} (hv : l[i]? = some v) : ∃ v', l'[i]? = some v' ∧ VRel ι n v v' := by
 have hi : i < l.length := by
  rcases Nat.lt_or_ge i l.length with h1 | h1
  ·exact h1
  ·simp [List.getElem?_eq_none h1] at hv
 have hi' : i < l'.length := h.1 ▸ hi
 refine ⟨l'[i], List.getElem?_eq_getElem hi', ?_⟩
 have := h.2 i
 rwa [getD_eq hv, getD_eq (List.getElem?_eq_getElem hi')] at this
theorem crel_of {ι : Inj} {n : Nat} {l l' : List Value} (hl : l.length = l'.length) (h : ∀ i (h1 : i < l.length) (h2 : i < l'.length), VRel ι n l[i] l'[i]) : CRel ι n l l' := by
 refine ⟨hl, fun i => ?_⟩
 rcases Nat.lt_or_ge i l.length with h1 | h1
 ·have h2 : i < l'.length := hl ▸ h1
  rw [getD_eq (List.getElem?_eq_getElem h1), getD_eq (List.getElem?_eq_getElem h2)]
  exact h i h1 h2
 ·have e1 : l.getD i undef = undef := by simp [List.getD, List.getElem?_eq_none h1]
  have e2 : l'.getD i undef = undef := by simp [List.getD, List.getElem?_eq_none (hl ▸ h1)]
  rw [e1, e2]
  exact .undef
theorem crel_append {ι : Inj} {n : Nat} {l l' m m' : List Value} (h : CRel ι n l l') (g : CRel ι n m m') : CRel ι n (l ++ m) (l' ++ m') := by
 refine crel_of (by simp [h.1, g.1]) fun i h1 h2 => ?_
 rcases Nat.lt_or_ge i l.length with h3 | h3
 ·have h4 : i < l'.length := h.1 ▸ h3
  rw [List.getElem_append_left h3, List.getElem_append_left h4]
  have := h.2 i
  rwa [getD_eq (List.getElem?_eq_getElem h3), getD_eq (List.getElem?_eq_getElem h4)] at this
 ·have h4 : l'.length ≤ i := h.1 ▸ h3
  rw [List.getElem_append_right h3, List.getElem_append_right h4]
  have := g.2 (i - l.length)
  have e : i - l.length = i - l'.length := by rw [h.1]
  have h5 : i - l.length < m.length := by simp at h1; omega
  have h6 : i - l'.length < m'.length := by simp at h2; omega
  rw [getD_eq (List.getElem?_eq_getElem h5)] at this
  have h7 : m'.getD (i - l.length) undef = m'[i - l'.length] := by rw [e]; exact getD_eq (List.getElem?_eq_getElem h6)
  rwa [h7] at this
theorem crel_take {ι : Inj} {n : Nat} {l l' : List Value} (h : CRel ι n l l') (k : Nat) : CRel ι n (l.take k) (l'.take k) := by
 refine crel_of (by simp [h.1]) fun i h1 h2 => ?_
 simp only [List.getElem_take]
 have h3 : i < l.length := by simp at h1; omega
 have h4 : i < l'.length := by simp at h2; omega
 have := h.2 i
 rwa [getD_eq (List.getElem?_eq_getElem h3), getD_eq (List.getElem?_eq_getElem h4)] at this
theorem crel_drop {ι : Inj} {n : Nat} {l l' : List Value} (h : CRel ι n l l') (k : Nat) : CRel ι n (l.drop k) (l'.drop k) := by
 refine crel_of (by simp [h.1]) fun i h1 h2 => ?_
 simp only [List.getElem_drop]
 have h3 : k + i < l.length := by simp at h1; omega
 have h4 : k + i < l'.length := by simp at h2; omega
 have := h.2 (k + i)
 rwa [getD_eq (List.getElem?_eq_getElem h3), getD_eq (List.getElem?_eq_getElem h4)] at this
theorem crel_agg {ι : Inj} {n : Nat} {c c' : Array Value} (hs : c.size = c'.size) (h : ∀ i, VRel ι n (c.getD i undef) (c'.getD i undef)) : CRel ι n c.toList c'.toList := by
 refine ⟨by simpa using hs, fun i => ?_⟩
 have := h i
 simpa [Array.getD_eq_getD_getElem?, List.getD] using this
theorem agg_crel {ι : Inj} {n : Nat} {l l' : List Value} (h : CRel ι n l l') (h1 : ∀ v ∈ l', v.oneCell' = true) : VRel ι n (.agg l.toArray) (.agg l'.toArray) := by
 refine .agg _ _ (by simpa using h.1) (fun i => ?_) (by simpa using h1)
 have := h.2 i
 simpa [Array.getD_eq_getD_getElem?, List.getD] using this
section
variable {ι : Inj} {n : Nat} {v' : Value}
theorem VRel.int_inv {k : IntKind} {x : Int} (h : VRel ι n (.int k x) v') : v' = .int k x := by cases h; rfl
theorem VRel.bool_inv {b : Bool} (h : VRel ι n (.bool b) v') : v' = .bool b := by cases h; rfl
theorem VRel.string_inv {s : ByteArray} (h : VRel ι n (.string s) v') : v' = .string s := by cases h; rfl
theorem VRel.ptr_inv {b o : Nat} (h : VRel ι n (.pointer (some ⟨b, o, none⟩)) v') : b < n ∧ v' = .pointer (some ⟨(ι b).blk, (ι b).off + o, none⟩) := by
 cases h with
 | ptr _ _ h => exact ⟨h, rfl⟩
theorem VRel.slice_inv {b o len s : Nat} (h : VRel ι n (.slice (some ⟨b, o, none⟩) len s) v') :
 b < n ∧ ∃ a cap, v' = .slice (some a) len cap ∧ len ≤ cap ∧ (0 < cap → ∃ o', a = ⟨(ι b).blk, o', none⟩ ∧ (0 < len → o' = (ι b).off + o) ∧ o' + cap * s ≤ (ι b).size) := by
 cases h with
 | slice _ _ _ _ a cap h hl hc => exact ⟨h, a, cap, rfl, hl, hc⟩
theorem VRel.nilSlice_inv {len s : Nat} (h : VRel ι n (.slice none len s) v') : len = 0 ∧ s = 0 ∧ v' = .slice none 0 0 := by
 cases h; exact ⟨rfl, rfl, rfl⟩
theorem VRel.agg_inv {c : Array Value} (h : VRel ι n (.agg c) v') : ∃ c', v' = .agg c' ∧ CRel ι n c.toList c'.toList ∧ ∀ v ∈ c', v.oneCell' = true := by
 cases h with
 | agg _ c' hs h h1 => exact ⟨c', rfl, crel_agg hs h, h1⟩
theorem VRel.tuple_inv {c : Array Value} (h : VRel ι n (.tuple c) v') : ∃ c', v' = .tuple c' ∧ CRel ι n c.toList c'.toList := by
 cases h with
 | tuple0 => exact ⟨#[], rfl, rfl, fun i => by simpa using VRel.undef⟩
 | tuple _ c' hs h => exact ⟨c', rfl, crel_agg hs h⟩
theorem VRel.func_inv {fn : Fn} {f c : Array Value} (h : VRel ι n (.func fn f c) v') :
 ∃ f' c', v' = .func fn f' c' ∧ CRel ι n f.toList f'.toList ∧ CRel ι n c.toList c'.toList := by
 cases h with
 | func _ _ _ f' c' hf hc h1 h2 => exact ⟨f', c', rfl, crel_agg hf h1, crel_agg hc h2⟩
end
theorem VRel.oneCell {ι : Inj} {n : Nat} {v v' : Value} (h : VRel ι n v v') (h1 : v.oneCell' = true) : v'.oneCell' = true := by
 cases h <;> first | rfl | (simp [Value.oneCell'] at h1)
theorem VRel.isAgg {ι : Inj} {n : Nat} {v v' : Value} (h : VRel ι n v v') : CRel ι n (valCells v) (valCells v') := by
 have one : ∀ u u' : Value, VRel ι n u u' → CRel ι n [u] [u'] := fun u u' hu => crel_of rfl fun i h1 h2 => by
  have : i = 0 := by simp at h1; omega
  subst this; exact hu
 cases h with
 | agg c c' hs h h1 => exact crel_agg hs h
 | bool b => exact one _ _ (.bool b)
 | int k x => exact one _ _ (.int k x)
 | string s => exact one _ _ (.string s)
 | nilPtr => exact one _ _ .nilPtr
 | ptr b o h => exact one _ _ (.ptr b o h)
 | nilSlice => exact one _ _ .nilSlice
 | slice b o len s a cap h hl hc => exact one _ _ (.slice b o len s a cap h hl hc)
 | nilFunc => exact one _ _ .nilFunc
 | func fn f c f' c' hf hc h1 h2 => exact one _ _ (.func fn f c f' c' hf hc h1 h2)
 | nilIface => exact one _ _ .nilIface
 | nilMap => exact one _ _ .nilMap
 | iface t v v' h => exact one _ _ (.iface t v v' h)
 | tuple0 => exact one _ _ .tuple0
 | tuple c c' hs h => exact one _ _ (.tuple c c' hs h)
theorem valCells_eq (v : Value) : valCells v = v.cells.toList := by cases v <;> rfl
theorem rel_read {ι : Inj} {h : Heap} {w : World} (hr : Rel ι h w) {b : Nat} {ro : Bool} {cs : List Value} (hb : h[b]? = some (.mem ro cs)) {i : Nat} {v : Value} (hi : cs[i]? = some v) :
 ∃ v', w.cell? ⟨(ι b).blk, (ι b).off + i, none⟩ = some v' ∧ VRel ι h.length v v' ∧ v'.oneCell' = true := by
 have hlt : i < cs.length := by
  rcases Nat.lt_or_ge i cs.length with h1 | h1
  ·exact h1
  ·simp [List.getElem?_eq_none h1] at hi
 obtain ⟨v', h1, h2, h3⟩ := hr.cell b ro cs hb i hlt
 rw [getD_eq hi] at h2
 exact ⟨v', h1, h2, h3⟩
theorem addr_add (b o n : Nat) : (⟨b, o, none⟩ : Addr).add n = ⟨b, o + n, none⟩ := Addr.add_lit b o n
theorem rel_cells {ι : Inj} {h : Heap} {w : World} (hr : Rel ι h w) {b o n : Nat} {vs : List Value} (hb : readN h b o n = some vs) :
 vs.length = n ∧ ∃ vs', CRel ι h.length vs vs' ∧ (∀ v ∈ vs', v.oneCell' = true) ∧ ∀ j, j < n → w.cell? ⟨(ι b).blk, (ι b).off + o + j, none⟩ = some (vs'.getD j undef) := by
 unfold readN at hb
 split at hb
 ·rename_i ro cs hcs
  split at hb
  ·rename_i hle
   injection hb with hb
   subst hb
   have hlen : ((cs.drop o).take n).length = n := by simp; omega
   refine ⟨hlen, ?_⟩
   have hex : ∀ j, j < n → ∃ v', w.cell? ⟨(ι b).blk, (ι b).off + (o + j), none⟩ = some v' ∧ VRel ι h.length (cs.getD (o + j) undef) v' ∧ v'.oneCell' = true := fun j hj => hr.cell b ro cs hcs (o + j) (by omega)
   let f : Nat → Value := fun j => if hj : j < n then Classical.choose (hex j hj) else undef
   have hf : ∀ j, j < n → w.cell? ⟨(ι b).blk, (ι b).off + (o + j), none⟩ = some (f j) ∧ VRel ι h.length (cs.getD (o + j) undef) (f j) ∧ (f j).oneCell' = true := fun j hj => by
    have := Classical.choose_spec (hex j hj)
    simp only [f, hj, dif_pos]
    exact this
   refine ⟨(List.range n).map f, ?_, ?_, fun j hj => ?_⟩
   ·refine crel_of (by simp; omega) fun i h1 h2 => ?_
    have hi : i < n := by omega
    have := (hf i hi).2.1
    have hc : o + i < cs.length := by omega
    rw [getD_eq (List.getElem?_eq_getElem hc)] at this
    simpa using this
   ·intro v hv
    obtain ⟨j, hj, rfl⟩ := List.mem_map.1 hv
    exact (hf j (List.mem_range.1 hj)).2.2
   ·rw [Nat.add_assoc, (hf j hj).1, getD_eq (v := f j) (by simp [hj])]
  ·cases hb
 ·cases hb
theorem run_loadPrefix {P : Program} {w : World} {B o n m : Nat} {vs : List Value} (hl : vs.length = n) (hm : m ≤ n) (h : ∀ j, j < n → w.cell? ⟨B, o + j, none⟩ = some (vs.getD j undef)) :
 (loadCells ⟨B, o, none⟩ m).run P w = .ok (vs.take m).toArray w := by
 rw [run_loadCells w _ m (fun j => vs.getD j undef) fun j hj => by rw [addr_add]; exact h j (by omega)]
 congr 2
 apply List.ext_getElem (by simp; omega)
 intro j h1 h2
 have : j < vs.length := by simp at h1; omega
 simp [List.getD, this]
theorem rel_readN {P : Program} {ι : Inj} {h : Heap} {w : World} (hr : Rel ι h w) {b o n : Nat} {vs : List Value} (hb : readN h b o n = some vs) :
 vs.length = n ∧ ∃ vs', (loadCells ⟨(ι b).blk, (ι b).off + o, none⟩ n).run P w = .ok vs'.toArray w ∧ CRel ι h.length vs vs' ∧ ∀ v ∈ vs', v.oneCell' = true := by
 obtain ⟨hl, vs', hc, h1, hj⟩ := rel_cells hr hb
 refine ⟨hl, vs', ?_, hc, h1⟩
 have hl' : vs'.length = n := by rw [← hc.1, hl]
 rw [run_loadPrefix hl' (Nat.le_refl n) hj, ← hl', List.take_length]
def Inj.set (ι : Inj) (b : Nat) (p : Pos) : Inj := fun i => if i = b then p else ι i
theorem Inj.set_other {ι : Inj} {b : Nat} {p : Pos} {i : Nat} (h : i ≠ b) : ι.set b p i = ι i := by simp [Inj.set, h]
theorem Inj.set_same {ι : Inj} {b : Nat} {p : Pos} : ι.set b p b = p := by simp [Inj.set]
theorem get_new (h : Heap) (cs : List Value) (b : Nat) : (newBlk h cs)[b]? = if b < h.length then h[b]? else if b = h.length then some (.mem false cs) else none := by
 unfold newBlk
 rw [List.getElem?_append]
 split
 ·rfl
 ·split
  ·subst_vars; simp
  ·rw [List.getElem?_eq_none]; simp; omega
theorem length_new (h : Heap) (cs : List Value) : (newBlk h cs).length = h.length + 1 := by simp [newBlk]
theorem get_lt {h : Heap} {b : Nat} {x : Blk} (hb : h[b]? = some x) : b < h.length := by
 rcases Nat.lt_or_ge b h.length with h1 | h1
 ·exact h1
 ·simp [List.getElem?_eq_none h1] at hb
theorem own_lt {ι : Inj} {h : Heap} {w : World} (hr : Rel ι h w) {B : Nat} (ho : Owned ι h B) : B < w.heap.size := by
 obtain ⟨b, cs, hb, rfl⟩ := ho
 obtain ⟨c, e, lo, hi, hw, _⟩ := hr.own b cs hb
 rcases Nat.lt_or_ge (ι b).blk w.heap.size with h1 | h1
 ·exact h1
 ·simp [Array.getElem?_eq_none h1] at hw
theorem step_new {ι : Inj} {h : Heap} {w : World} (hr : Rel ι h w) (cs : List Value) (c : Array Value) (e : TypeId) (lo hi d : Nat) (hl : cs.length ≤ c.size)
 (hc : ∀ i (h1 : i < cs.length) (h2 : i < c.size), VRel ι h.length cs[i] c[i] ∧ c[i].oneCell' = true) (hf : ∀ o, o < c.size → ¬ (lo ≤ o ∧ o < hi)) :
 Step ι h w (ι.set h.length ⟨w.heap.size, 0, c.size⟩) (newBlk h cs) { w with heap := w.heap.push (.cells c e (lo, hi)), drawn := d } := by
 have hold : ∀ b, b < h.length → ι.set h.length ⟨w.heap.size, 0, c.size⟩ b = ι b := fun b hb => Inj.set_other (by omega)
 have hpush : ∀ B, B < w.heap.size → (w.heap.push (.cells c e (lo, hi)))[B]? = w.heap[B]? := fun B hB => by
  rw [Array.getElem?_push]; simp; omega
 have hcell : ∀ (a : Addr), a.block < w.heap.size → World.cell? { w with heap := w.heap.push (.cells c e (lo, hi)), drawn := d } a = w.cell? a := fun a ha => by
  simp only [World.cell?, hpush _ ha]
 constructor
 ·rw [length_new]; omega
 ·intro b hb
  refine Inj.set_other ?_
  rw [length_new] at hb
  omega
 ·constructor
  ·intro b ro cs' hb i hi
   rw [get_new] at hb
   split at hb
   ·rename_i hlt
    obtain ⟨v', h1, h2, h3⟩ := hr.cell b ro cs' hb i hi
    refine ⟨v', ?_, h2.mono (fun x hx => hold x hx) (by rw [length_new]; omega), h3⟩
    rw [hold b hlt, hcell _ (hr.inside b ro cs' hb (.inr (by rintro rfl; simp at hi)))]
    exact h1
   ·split at hb
    ·rename_i heq
     injection hb with hb
     injection hb with hb1 hb2
     subst hb2
     subst heq
     rw [Inj.set_same]
     have h2 : i < c.size := by omega
     refine ⟨c[i], ?_, ?_, (hc i hi h2).2⟩
     ·simp [World.cell?, h2]
     ·rw [getD_eq (List.getElem?_eq_getElem hi)]
      exact (hc i hi h2).1.mono (fun x hx => hold x hx) (by rw [length_new]; omega)
    ·cases hb
  ·intro b ro cs' hb hne
   simp only [Array.size_push]
   rw [get_new] at hb
   split at hb
   ·rename_i hlt
    rw [hold b hlt]
    exact Nat.lt_succ_of_lt (hr.inside b ro cs' hb hne)
   ·split at hb
    ·rename_i heq
     subst heq
     rw [Inj.set_same]
     exact Nat.lt_succ_self _
    ·cases hb
  ·intro b ro cs' hb
   rw [get_new] at hb
   split at hb
   ·rename_i hlt
    rw [hold b hlt]
    exact hr.fits b ro cs' hb
   ·split at hb
    ·rename_i heq
     injection hb with hb
     injection hb with hb1 hb2
     subst hb2
     subst heq
     rw [Inj.set_same]
     simpa using hl
    ·cases hb
  ·intro b cs' hb
   rw [get_new] at hb
   split at hb
   ·rename_i hlt
    rw [hold b hlt]
    obtain ⟨c', e', lo', hi', h1, h2, h3⟩ := hr.own b cs' hb
    refine ⟨c', e', lo', hi', ?_, h2, h3⟩
    rw [hpush _ (own_lt hr ⟨b, cs', hb, rfl⟩)]
    exact h1
   ·split at hb
    ·rename_i heq
     subst heq
     rw [Inj.set_same]
     exact ⟨c, e, lo, hi, by simp, rfl, hf⟩
    ·cases hb
  ·intro b b' cs₁ ro cs₂ hb hb' hne hnz
   rw [get_new] at hb hb'
   split at hb
   ·rename_i hlt
    rw [hold b hlt]
    split at hb'
    ·rename_i hlt'
     rw [hold b' hlt']
     exact hr.apart b b' cs₁ ro cs₂ hb hb' hne hnz
    ·split at hb'
     ·rename_i heq
      subst heq
      rw [Inj.set_same]
      have := own_lt hr ⟨b, cs₁, hb, rfl⟩
      simp only
      omega
     ·cases hb'
   ·split at hb
    ·rename_i heq
     subst heq
     rw [Inj.set_same]
     split at hb'
     ·rename_i hlt'
      rw [hold b' hlt']
      simp only
      have := hr.inside b' ro cs₂ hb' hnz
      omega
     ·split at hb'
      ·rename_i heq'
       exact absurd heq'.symm hne
      ·cases hb'
    ·cases hb
 ·simp
 ·intro B hB _
  exact hpush B hB
 ·rintro B ⟨b, cs', hb, rfl⟩
  rw [get_new] at hb
  split at hb
  ·rename_i hlt
   rw [hold b hlt]
   exact .inr ⟨b, cs', hb, rfl⟩
  ·split at hb
   ·rename_i heq
    subst heq
    rw [Inj.set_same]
    exact .inl (Nat.le_refl _)
   ·cases hb
 ·rfl
 ·rfl
 ·rfl
 ·intro b cs' hb _
  rw [get_new] at hb
  split at hb
  ·exact .inl hb
  ·split at hb
   ·injection hb with hb; cases hb
   ·cases hb
end Go.Wb
namespace Go.Wb
open Go
def setBlk (w : World) (B : Nat) (o : Obj) : World := { w with heap := w.heap.setIfInBounds B o }
theorem setCell_eq {w : World} {B o : Nat} {c : Array Value} {e : TypeId} {fz : Nat × Nat} (hB : w.heap[B]? = some (.cells c e fz)) (v : Value) :
 w.setCell ⟨B, o, none⟩ v = setBlk w B (.cells (c.setIfInBounds o v) e fz) := by
 have hlt : B < w.heap.size := by
  rcases Nat.lt_or_ge B w.heap.size with h1 | h1
  ·exact h1
  ·simp [Array.getElem?_eq_none h1] at hB
 unfold World.setCell setBlk
 congr 1
 apply Array.ext_getElem?
 intro i
 rw [Array.getElem?_modify, Array.getElem?_setIfInBounds]
 by_cases hi : B = i
 ·subst hi
  rw [if_pos rfl, hB]
  simp [hlt]
 ·simp [hi]
theorem setBlk_get {w : World} {B : Nat} {o : Obj} (hlt : B < w.heap.size) (i : Nat) : (setBlk w B o).heap[i]? = if B = i then some o else w.heap[i]? := by
 unfold setBlk
 simp only
 rw [Array.getElem?_setIfInBounds]
 by_cases he : B = i
 ·rw [if_pos he, if_pos he, if_pos hlt]
 ·rw [if_neg he, if_neg he]
theorem setBlk_twice (w : World) (B : Nat) (o o' : Obj) : setBlk (setBlk w B o) B o' = setBlk w B o' := by
 unfold setBlk
 simp only
 congr 1
 apply Array.ext_getElem?
 intro i
 simp only [Array.getElem?_setIfInBounds]
 split <;> simp
theorem setBlk_self {w : World} {B : Nat} {o : Obj} (hB : w.heap[B]? = some o) : setBlk w B o = w := by
 have : w.heap.setIfInBounds B o = w.heap := by
  apply Array.ext_getElem?
  intro i
  rw [Array.getElem?_setIfInBounds]
  split
  ·rename_i h
   subst h
   rw [hB]
   split
   ·rfl
   ·rename_i hn
    simp [Array.getElem?_eq_none (Nat.le_of_not_lt hn)] at hB
  ·rfl
 unfold setBlk
 rw [this]
theorem lt_of_get {w : World} {B : Nat} {o : Obj} (hB : w.heap[B]? = some o) : B < w.heap.size := by
 rcases Nat.lt_or_ge B w.heap.size with h1 | h1
 ·exact h1
 ·simp [Array.getElem?_eq_none h1] at hB
theorem run_storeCells {P : Program} (B off : Nat) (e : TypeId) (lo hi : Nat) : ∀ (vs : List Value) (i : Nat) (c : Array Value) (w : World),
 w.heap[B]? = some (.cells c e (lo, hi)) → off + i + vs.length ≤ c.size → (∀ o, o < c.size → ¬ (lo ≤ o ∧ o < hi)) → (∀ v ∈ vs, v.oneCell' = true) →
 ∃ c2 : Array Value, (storeCells ⟨B, off, none⟩ vs i).run P w = .ok () (setBlk w B (.cells c2 e (lo, hi))) ∧ c2.size = c.size ∧
   ∀ j, c2[j]? = if off + i ≤ j ∧ j < off + i + vs.length then vs[j - (off + i)]? else c[j]?
 | [], i, c, w, hB, _, _, _ => ⟨c, by rw [setBlk_self hB]; rfl, rfl, fun j => by simp; omega⟩
 | v :: r, i, c, w, hB, hl, hf, h1 => by
   simp only [List.length_cons] at hl
   have hin : off + i < c.size := by omega
   have hlt := lt_of_get hB
   have hst : (store ((⟨B, off, none⟩ : Addr).add i) v).run P w = .ok () (setBlk w B (.cells (c.setIfInBounds (off + i) v) e (lo, hi))) := by
    rw [addr_add, run_store P w _ v _ (h1 v (by simp))]
    have hc : w.cell? ⟨B, off + i, none⟩ = some c[off + i] := by simp [World.cell?, hB, hin]
    have hz : w.frozen? ⟨B, off + i, none⟩ = false := by
     have := hf (off + i) hin
     simp only [World.frozen?, hB]
     simp
     omega
    simp only [hc, hz]
    rw [setCell_eq hB]
    simp
   obtain ⟨c2, hrun, hs, hj⟩ := run_storeCells (P := P) B off e lo hi r (i + 1) (c.setIfInBounds (off + i) v) (setBlk w B (.cells (c.setIfInBounds (off + i) v) e (lo, hi)))
    (by rw [setBlk_get hlt]; simp) (by simp; omega) (by simpa using hf) (fun u hu => h1 u (by simp [hu]))
   refine ⟨c2, ?_, by simpa using hs, fun j => ?_⟩
   ·simp only [storeCells, Sem.run_bind, hst, Result.andThen_ok, hrun, setBlk_twice]
   ·rw [hj j, Array.getElem?_setIfInBounds]
    by_cases h2 : off + i = j
    ·subst h2
     rw [if_neg (by omega), if_pos rfl, if_pos hin, if_pos (by simp)]
     simp
    ·by_cases h3 : off + (i + 1) ≤ j ∧ j < off + (i + 1) + r.length
     ·rw [if_pos h3, if_pos (by simp; omega)]
      rw [show j - (off + i) = (j - (off + (i + 1))) + 1 by omega]
      simp
     ·rw [if_neg h3, if_neg h2, if_neg (by simp; omega)]
theorem getD_set (h : Heap) (b : Nat) (x : Blk) (hb : b < h.length) (i : Nat) : (h.set b x)[i]? = if b = i then some x else h[i]? := by
 rw [List.getElem?_set]
 by_cases he : b = i
 ·rw [if_pos he, if_pos he, if_pos hb]
 ·rw [if_neg he, if_neg he]
theorem cell_setBlk {w : World} {B : Nat} {c2 : Array Value} {e : TypeId} {fz : Nat × Nat} (hlt : B < w.heap.size) (a : Addr) :
 (setBlk w B (.cells c2 e fz)).cell? a = if B = a.block then (if a.spot.isSome then none else c2[a.off]?) else w.cell? a := by
 unfold World.cell?
 rw [setBlk_get hlt]
 by_cases he : B = a.block
 ·rw [if_pos he, if_pos he]
 ·rw [if_neg he, if_neg he]
theorem step_write {ι : Inj} {h : Heap} {w : World} (hr : Rel ι h w) {b : Nat} {cs cs2 : List Value} {c c2 : Array Value} {e : TypeId} {lo hi : Nat}
 (hb : h[b]? = some (.mem false cs)) (hw : w.heap[(ι b).blk]? = some (.cells c e (lo, hi))) (hs : c2.size = c.size) (hl : cs2.length = cs.length)
 (hc : ∀ i (h1 : i < cs2.length), ∃ v', c2[(ι b).off + i]? = some v' ∧ VRel ι h.length cs2[i] v' ∧ v'.oneCell' = true) :
 Step ι h w ι (h.set b (.mem false cs2)) (setBlk w (ι b).blk (.cells c2 e (lo, hi))) := by
 have hlt := lt_of_get hw
 have hbl := get_lt hb
 have hsz : (setBlk w (ι b).blk (.cells c2 e (lo, hi))).heap.size = w.heap.size := by simp [setBlk]
 have hne : ∀ b' ro cs', b ≠ b' → h[b']? = some (Blk.mem ro cs') → (ro = false ∨ cs' ≠ []) → (ι b).blk ≠ (ι b').blk := fun b' ro cs' hn hb' hz => hr.apart b b' cs ro cs' hb hb' hn hz
 constructor
 ·simp
 ·exact fun _ _ => rfl
 ·constructor
  ·intro b' ro cs' hb' i hi'
   rw [getD_set h b _ hbl] at hb'
   rw [List.length_set]
   split at hb'
   ·rename_i heq
    subst heq
    injection hb' with hb'
    injection hb' with h1 h2
    subst h2
    obtain ⟨v', h3, h4, h5⟩ := hc i hi'
    refine ⟨v', ?_, ?_, h5⟩
    ·rw [cell_setBlk hlt]
     simpa using h3
    ·rw [getD_eq (List.getElem?_eq_getElem hi')]
     exact h4
   ·rename_i hn
    obtain ⟨v', h3, h4, h5⟩ := hr.cell b' ro cs' hb' i hi'
    refine ⟨v', ?_, h4, h5⟩
    rw [cell_setBlk hlt, if_neg (hne b' ro cs' hn hb' (.inr (by rintro rfl; simp at hi')))]
    exact h3
  ·intro b' ro cs' hb' hz
   rw [hsz]
   rw [getD_set h b _ hbl] at hb'
   split at hb'
   ·rename_i heq
    subst heq
    exact hlt
   ·exact hr.inside b' ro cs' hb' hz
  ·intro b' ro cs' hb'
   rw [getD_set h b _ hbl] at hb'
   split at hb'
   ·rename_i heq
    subst heq
    injection hb' with hb'
    injection hb' with h1 h2
    subst h2
    rw [hl]
    exact hr.fits b false cs hb
   ·exact hr.fits b' ro cs' hb'
  ·intro b' cs' hb'
   rw [getD_set h b _ hbl] at hb'
   rw [setBlk_get hlt]
   split at hb'
   ·rename_i heq
    subst heq
    obtain ⟨c', e', lo', hi', h1, h2, h3⟩ := hr.own b cs hb
    rw [hw] at h1
    injection h1 with h1
    injection h1 with a1 a2 a3
    injection a3 with a4 a5
    subst a1 a2 a4 a5
    refine ⟨c2, e, lo, hi, by simp, by omega, ?_⟩
    rw [hs]
    exact h3
   ·rename_i hn
    rw [if_neg (hne b' false cs' hn hb' (.inl rfl))]
    exact hr.own b' cs' hb'
  ·intro b₁ b₂ cs₁ ro cs₂ h1 h2 hn hz
   rw [getD_set h b _ hbl] at h1 h2
   have g1 : ∃ cs₁', h[b₁]? = some (.mem false cs₁') := by
    split at h1
    ·rename_i heq
     subst heq
     exact ⟨cs, hb⟩
    ·exact ⟨_, h1⟩
   have g2 : ∃ ro' cs₂', h[b₂]? = some (.mem ro' cs₂') ∧ (ro' = false ∨ cs₂' ≠ []) := by
    split at h2
    ·rename_i heq
     subst heq
     exact ⟨_, _, hb, .inl rfl⟩
    ·exact ⟨_, _, h2, hz⟩
   obtain ⟨_, g1⟩ := g1
   obtain ⟨_, _, g2, hz2⟩ := g2
   exact hr.apart b₁ b₂ _ _ _ g1 g2 hn hz2
 ·rw [hsz]; exact Nat.le_refl _
 ·intro B hB hno
  rw [setBlk_get hlt, if_neg]
  intro he
  exact hno ⟨b, cs, hb, he⟩
 ·rintro B ⟨b', cs', hb', rfl⟩
  rw [getD_set h b _ hbl] at hb'
  split at hb'
  ·rename_i heq
   subst heq
   exact .inr ⟨b, cs, hb, rfl⟩
  ·exact .inr ⟨b', cs', hb', rfl⟩
 ·rfl
 ·rfl
 ·rfl
 ·intro b' cs' hb' _
  rw [getD_set h b _ hbl] at hb'
  split at hb'
  ·injection hb' with hb'; cases hb'
  ·exact .inl hb'
theorem step_kill {ι : Inj} {h : Heap} {w : World} (hr : Rel ι h w) {b : Nat} {x : Blk} (hb : h[b]? = some x) : Step ι h w ι (h.set b .dead) w := by
 have hbl := get_lt hb
 have old : ∀ b' ro cs', (h.set b .dead)[b']? = some (Blk.mem ro cs') → h[b']? = some (Blk.mem ro cs') := fun b' ro cs' hb' => by
  rw [getD_set h b _ hbl] at hb'
  split at hb'
  ·cases hb'
  ·exact hb'
 constructor
 ·simp
 ·exact fun _ _ => rfl
 ·constructor
  ·intro b' ro cs' hb' i hi
   rw [List.length_set]
   exact hr.cell b' ro cs' (old _ _ _ hb') i hi
  ·exact fun b' ro cs' hb' hz => hr.inside b' ro cs' (old _ _ _ hb') hz
  ·exact fun b' ro cs' hb' => hr.fits b' ro cs' (old _ _ _ hb')
  ·exact fun b' cs' hb' => hr.own b' cs' (old _ _ _ hb')
  ·exact fun b₁ b₂ cs₁ ro cs₂ h1 h2 hn hz => hr.apart b₁ b₂ cs₁ ro cs₂ (old _ _ _ h1) (old _ _ _ h2) hn hz
 ·exact Nat.le_refl _
 ·exact fun _ _ _ => rfl
 ·rintro B ⟨b', cs', hb', rfl⟩
  exact .inr ⟨b', cs', old _ _ _ hb', rfl⟩
 ·rfl
 ·rfl
 ·rfl
 ·exact fun b' cs' hb' _ => .inl (old b' true cs' hb')
theorem step_regrow {ι : Inj} {h : Heap} {w : World} (hr : Rel ι h w) {b off : Nat} {cs cs2 : List Value} {c c2 : Array Value} {e : TypeId} {lo hi : Nat}
 (hb : h[b]? = some (.mem false cs)) (hw : w.heap[(ι b).blk]? = some (.cells c e (lo, hi))) (hs : c2.size = c.size) (hl : off + cs2.length ≤ c.size)
 (hc : ∀ i (h1 : i < cs2.length), ∃ v', c2[off + i]? = some v' ∧ VRel ι h.length cs2[i] v' ∧ v'.oneCell' = true) :
 Step ι h w (ι.set h.length ⟨(ι b).blk, off, c.size⟩) (newBlk (h.set b .dead) cs2) (setBlk w (ι b).blk (.cells c2 e (lo, hi))) := by
 have hlt := lt_of_get hw
 have hbl := get_lt hb
 have hsz : (setBlk w (ι b).blk (.cells c2 e (lo, hi))).heap.size = w.heap.size := by simp [setBlk]
 have hold : ∀ x, x < h.length → ι.set h.length ⟨(ι b).blk, off, c.size⟩ x = ι x := fun x hx => Inj.set_other (by omega)
 have hlen : (newBlk (h.set b .dead) cs2).length = h.length + 1 := by rw [length_new, List.length_set]
 have hfz : ∀ o, o < c.size → ¬ (lo ≤ o ∧ o < hi) := by
  obtain ⟨c', e', lo', hi', h1, h2, h3⟩ := hr.own b cs hb
  rw [hw] at h1
  injection h1 with h1
  injection h1 with a1 a2 a3
  injection a3 with a4 a5
  subst a1 a2 a4 a5
  exact h3
 have look : ∀ b' ro cs', (newBlk (h.set b .dead) cs2)[b']? = some (Blk.mem ro cs') → (b' < h.length ∧ b ≠ b' ∧ h[b']? = some (Blk.mem ro cs')) ∨ (b' = h.length ∧ ro = false ∧ cs' = cs2) := fun b' ro cs' hb' => by
  rw [get_new, List.length_set] at hb'
  split at hb'
  ·rename_i hlt'
   rw [getD_set h b _ hbl] at hb'
   split at hb'
   ·cases hb'
   ·rename_i hn
    exact .inl ⟨hlt', hn, hb'⟩
  ·split at hb'
   ·rename_i heq
    injection hb' with hb'
    injection hb' with h1 h2
    exact .inr ⟨heq, h1.symm, h2.symm⟩
   ·cases hb'
 have hne : ∀ b' ro cs', b ≠ b' → h[b']? = some (Blk.mem ro cs') → (ro = false ∨ cs' ≠ []) → (ι b).blk ≠ (ι b').blk := fun b' ro cs' hn hb' hz => hr.apart b b' cs ro cs' hb hb' hn hz
 constructor
 ·rw [hlen]; omega
 ·intro x hx
  rw [hlen] at hx
  exact Inj.set_other (by omega)
 ·constructor
  ·intro b' ro cs' hb' i hi'
   rcases look b' ro cs' hb' with ⟨h1, h2, h3⟩ | ⟨h1, h2, h3⟩
   ·obtain ⟨v', h4, h5, h6⟩ := hr.cell b' ro cs' h3 i hi'
    refine ⟨v', ?_, h5.mono (fun x hx => hold x hx) (by rw [hlen]; omega), h6⟩
    rw [hold b' h1, cell_setBlk hlt, if_neg (hne b' ro cs' h2 h3 (.inr (by rintro rfl; simp at hi')))]
    exact h4
   ·subst h1 h3
    obtain ⟨v', h4, h5, h6⟩ := hc i hi'
    refine ⟨v', ?_, ?_, h6⟩
    ·rw [Inj.set_same, cell_setBlk hlt]
     simpa using h4
    ·rw [getD_eq (List.getElem?_eq_getElem hi')]
     exact h5.mono (fun x hx => hold x hx) (by rw [hlen]; omega)
  ·intro b' ro cs' hb' hz
   rw [hsz]
   rcases look b' ro cs' hb' with ⟨h1, h2, h3⟩ | ⟨h1, h2, h3⟩
   ·rw [hold b' h1]
    exact hr.inside b' ro cs' h3 hz
   ·subst h1
    rw [Inj.set_same]
    exact hlt
  ·intro b' ro cs' hb'
   rcases look b' ro cs' hb' with ⟨h1, h2, h3⟩ | ⟨h1, h2, h3⟩
   ·rw [hold b' h1]
    exact hr.fits b' ro cs' h3
   ·subst h1 h3
    rw [Inj.set_same]
    exact hl
  ·intro b' cs' hb'
   rcases look b' false cs' hb' with ⟨h1, h2, h3⟩ | ⟨h1, h2, h3⟩
   ·rw [hold b' h1, setBlk_get hlt, if_neg (hne b' false cs' h2 h3 (.inl rfl))]
    exact hr.own b' cs' h3
   ·subst h1 h3
    rw [Inj.set_same, setBlk_get hlt]
    exact ⟨c2, e, lo, hi, by simp, hs, by rw [hs]; exact hfz⟩
  ·intro b₁ b₂ cs₁ ro cs₂ h1 h2 hn hz
   rcases look b₁ false cs₁ h1 with ⟨p1, p2, p3⟩ | ⟨p1, p2, p3⟩
   ·rcases look b₂ ro cs₂ h2 with ⟨q1, q2, q3⟩ | ⟨q1, q2, q3⟩
    ·rw [hold b₁ p1, hold b₂ q1]
     exact hr.apart b₁ b₂ cs₁ ro cs₂ p3 q3 hn hz
    ·subst q1
     rw [hold b₁ p1, Inj.set_same]
     exact (hne b₁ false cs₁ p2 p3 (.inl rfl)).symm
   ·subst p1
    rw [Inj.set_same]
    rcases look b₂ ro cs₂ h2 with ⟨q1, q2, q3⟩ | ⟨q1, q2, q3⟩
    ·rw [hold b₂ q1]
     exact hne b₂ ro cs₂ q2 q3 hz
    ·exact absurd q1.symm hn
 ·rw [hsz]; exact Nat.le_refl _
 ·intro B hB hno
  rw [setBlk_get hlt, if_neg]
  intro he
  exact hno ⟨b, cs, hb, he⟩
 ·rintro B ⟨b', cs', hb', rfl⟩
  rcases look b' false cs' hb' with ⟨h1, h2, h3⟩ | ⟨h1, h2, h3⟩
  ·rw [hold b' h1]
   exact .inr ⟨b', cs', h3, rfl⟩
  ·subst h1
   rw [Inj.set_same]
   exact .inr ⟨b, cs, hb, rfl⟩
 ·rfl
 ·rfl
 ·rfl
 ·intro b' cs' hb' _
  rcases look b' true cs' hb' with ⟨_, _, h3⟩ | ⟨_, h2, _⟩
  ·exact .inl h3
  ·cases h2
theorem step_keep {ι ι' : Inj} {h : Heap} {w w' : World} (hr : Rel ι h w) {b : Nat} {cs new : List Value} (hb : h[b]? = some (.mem false cs))
 (st : Step ι h w ι' (newBlk (h.set b .dead) (cs ++ new)) w') (hq : ∀ i, i < cs.length → w'.cell? ⟨(ι b).blk, (ι b).off + i, none⟩ = w.cell? ⟨(ι b).blk, (ι b).off + i, none⟩)
 (hw : w.heap.size ≤ (ι' h.length).blk ∨ (ι' h.length).blk = (ι b).blk) :
 Step ι h w ι' (h.set b (.mem true cs) ++ [.mem true (cs ++ new)]) w' := by
 have hbl := get_lt hb
 have hlen : (h.set b (.mem true cs) ++ [Blk.mem true (cs ++ new)]).length = h.length + 1 := by simp
 have hlen2 : (newBlk (h.set b .dead) (cs ++ new)).length = h.length + 1 := by rw [length_new, List.length_set]
 have look : ∀ b' ro cs', (h.set b (.mem true cs) ++ [Blk.mem true (cs ++ new)])[b']? = some (Blk.mem ro cs') →
  (b' < h.length ∧ b' ≠ b ∧ h[b']? = some (Blk.mem ro cs') ∧ (newBlk (h.set b .dead) (cs ++ new))[b']? = some (Blk.mem ro cs')) ∨ (b' = b ∧ ro = true ∧ cs' = cs) ∨ (b' = h.length ∧ ro = true ∧ cs' = cs ++ new) := fun b' ro cs' hb' => by
  rw [List.getElem?_append, List.length_set] at hb'
  split at hb'
  ·rename_i hlt
   rw [getD_set h b _ hbl] at hb'
   split at hb'
   ·rename_i he
    injection hb' with hb'
    injection hb' with h1 h2
    exact .inr (.inl ⟨he.symm, h1.symm, h2.symm⟩)
   ·rename_i hn
    refine .inl ⟨hlt, fun h => hn h.symm, hb', ?_⟩
    rw [get_new, List.length_set, if_pos hlt, getD_set h b _ hbl, if_neg hn]
    exact hb'
  ·rename_i hge
   rcases Nat.lt_or_ge h.length b' with h2 | h2
   ·rw [List.getElem?_eq_none (by simp; omega)] at hb'; cases hb'
   ·have he : b' = h.length := by omega
    subst he
    simp only [Nat.sub_self, List.getElem?_cons_zero] at hb'
    injection hb' with hb'
    injection hb' with h1 h2
    exact .inr (.inr ⟨rfl, h1.symm, h2.symm⟩)
 have hnb : (newBlk (h.set b .dead) (cs ++ new))[h.length]? = some (.mem false (cs ++ new)) := by
  rw [get_new, List.length_set, if_neg (by omega), if_pos rfl]
 have hag : ∀ x, x < h.length → ι' x = ι x := fun x hx => st.agree x (.inl hx)
 constructor
 ·rw [hlen]; omega
 ·intro x hx
  rw [hlen] at hx
  exact st.agree x (by rw [hlen2]; exact hx)
 ·constructor
  ·intro b' ro cs' hb' i hi
   rw [hlen]
   rcases look b' ro cs' hb' with ⟨_, _, _, h4⟩ | ⟨h1, _, h3⟩ | ⟨h1, _, h3⟩
   ·have := st.rel.cell b' ro cs' h4 i hi
    rwa [hlen2] at this
   ·subst h1 h3
    obtain ⟨v', q1, q2, q3⟩ := hr.cell b' false cs' hb i hi
    refine ⟨v', ?_, ?_, q3⟩
    ·rw [hag b' hbl, hq i hi]; exact q1
    ·exact q2.mono (fun x hx => hag x hx) (by omega)
   ·subst h1 h3
    have := st.rel.cell h.length false (cs ++ new) hnb i hi
    rwa [hlen2] at this
  ·intro b' ro cs' hb' hz
   rcases look b' ro cs' hb' with ⟨_, _, _, h4⟩ | ⟨h1, _, h3⟩ | ⟨h1, _, h3⟩
   ·exact st.rel.inside b' ro cs' h4 hz
   ·subst h1
    rw [hag b' hbl]
    exact Nat.lt_of_lt_of_le (hr.inside b' false cs hb (.inl rfl)) st.size
   ·subst h1
    exact st.rel.inside h.length false (cs ++ new) hnb (.inl rfl)
  ·intro b' ro cs' hb'
   rcases look b' ro cs' hb' with ⟨_, _, _, h4⟩ | ⟨h1, _, h3⟩ | ⟨h1, _, h3⟩
   ·exact st.rel.fits b' ro cs' h4
   ·subst h1 h3
    rw [hag b' hbl]
    exact hr.fits b' false cs' hb
   ·subst h1 h3
    exact st.rel.fits h.length false (cs ++ new) hnb
  ·intro b' cs' hb'
   rcases look b' false cs' hb' with ⟨_, _, _, h4⟩ | ⟨_, h2, _⟩ | ⟨_, h2, _⟩
   ·exact st.rel.own b' cs' h4
   ·cases h2
   ·cases h2
  ·intro b₁ b₂ cs₁ ro cs₂ h1 h2 hn hz
   rcases look b₁ false cs₁ h1 with ⟨p1, p2, p3, p4⟩ | ⟨_, h2, _⟩ | ⟨_, h2, _⟩
   ·rcases look b₂ ro cs₂ h2 with ⟨q1, q2, q3, q4⟩ | ⟨q1, _, q3⟩ | ⟨q1, _, q3⟩
    ·exact st.rel.apart b₁ b₂ cs₁ ro cs₂ p4 q4 hn hz
    ·subst q1
     rw [hag b₁ p1, hag b₂ hbl]
     exact hr.apart b₁ b₂ cs₁ false cs p3 hb p2 (.inl rfl)
    ·subst q1
     exact st.rel.apart b₁ h.length cs₁ false (cs ++ new) p4 hnb hn (.inl rfl)
   ·cases h2
   ·cases h2
 ·exact st.size
 ·exact st.frame
 ·rintro B ⟨b', cs', hb', rfl⟩
  rcases look b' false cs' hb' with ⟨_, _, _, h4⟩ | ⟨_, h2, _⟩ | ⟨_, h2, _⟩
  ·exact st.own _ ⟨b', cs', h4, rfl⟩
  ·cases h2
  ·cases h2
 ·exact st.tape
 ·exact st.os
 ·exact st.output
 ·intro b' cs' hb' _
  rcases look b' true cs' hb' with ⟨_, _, h3, _⟩ | ⟨h1, _, _⟩ | ⟨h1, _, _⟩
  ·exact .inl h3
  ·subst h1
   exact .inr (.inr ⟨b', cs, hb, by rw [hag b' hbl]⟩)
  ·subst h1
   rcases hw with h | h
   ·exact .inr (.inl h)
   ·exact .inr (.inr ⟨b, cs, hb, h.symm⟩)
end Go.Wb
namespace Go.Wb
open Go
def Does (P : Program) (s : Sem Next) (ι : Inj) (h : Heap) (w : World) (v : Value) (h' : Heap) : Prop :=
 ∃ ι' v' w' nx, s.run P w = .ok nx w' ∧ (nx = .value v' ∨ (nx = .skip ∧ v' = undef)) ∧ Step ι h w ι' h' w' ∧ VRel ι' h'.length v v'
section
variable {P : Program} {ι : Inj} {h h' : Heap} {w : World} {t : T} {ρ : Operand → Value} {v : Value}
theorem Does.value {s : Sem Value} {ι' : Inj} {v' : Value} {w' : World} (hrun : s.run P w = .ok v' w') (hs : Step ι h w ι' h' w') (hv : VRel ι' h'.length v v') :
 Does P (do pure (.value (← s))) ι h w v h' :=
 ⟨ι', v', w', .value v', by simp [hrun], .inl rfl, hs, hv⟩
theorem Does.pure {s : Sem Value} {v' : Value} (hr : Rel ι h w) (hrun : s.run P w = .ok v' w) (hv : VRel ι h.length v v') :
 Does P (do pure (.value (← s))) ι h w v h :=
 .value hrun (.refl hr) hv
theorem Does.unit {s : Sem Unit} {ι' : Inj} {w' : World} (hrun : s.run P w = .ok () w') (hs : Step ι h w ι' h' w') :
 Does P (do s; Pure.pure .skip) ι h w undef h' :=
 ⟨ι', undef, w', .skip, by simp [hrun], .inr ⟨rfl, rfl⟩, hs, .undef⟩
theorem const_rel {n : Nat} {x : Value} (hx : constOk x = true) : VRel ι n x x := by
 unfold constOk at hx
 split at hx <;> first | constructor | cases hx
theorem const_crel {n : Nat} {l : List Value} (hx : l.all constOk = true) : CRel ι n l l :=
 crel_of rfl fun _ _ _ => const_rel (List.all_eq_true.1 hx _ (List.getElem_mem _))
def ERel (ι : Inj) (n : Nat) (t : T) (ρ : Operand → Value) : Prop := ∀ x, operOk x = true → VRel ι n (Ev t x) (ρ x)
theorem run_under {ty : TypeId} {d : TypeDesc} (hd : P.underlying ty = some d) : (underlying ty).run P w = .ok d w := run_underlying hd w
theorem run_info {ty : TypeId} {i : TypeInfo} (hi : P.info? ty = some i) : (typeInfo ty).run P w = .ok i w := by simp [typeInfo, hi]
theorem run_size {ty : TypeId} {i : TypeInfo} (hi : P.info? ty = some i) : (sizeOf ty).run P w = .ok i.size w := by simp [sizeOf, run_info hi]
theorem run_zero {ty : TypeId} {i : TypeInfo} {z : Value} (hi : P.info? ty = some i) (hz : i.zero = some z) : (zeroValue ty).run P w = .ok z w := by simp [zeroValue, run_info hi, hz]
theorem aInt_sound {op : BinOp} {k : IntKind} {a b : Int} {ty : TypeId} (ho : isShift op = false) (hx : aInt op k a b = some v) :
 (binOp op ty (.int k a) (.int k b)).run P w = .ok v w := by
 cases op <;> simp only [aInt, isShift] at hx ho <;> first
  | (injection hx with hx; subst hx; simp [binOp, Op.intArith, Op.intCmp, Op.intBits, bits])
  | (split at hx
     ·cases hx
     ·rename_i hb
      injection hx with hx
      subst hx
      simp [binOp, Op.intDiv, hb])
  | (cases ho; done)
theorem aShift_sound {op : BinOp} {k k' : IntKind} {a b : Int} {ty : TypeId} (hx : aShift op k a b = some v) :
 (binOp op ty (.int k a) (.int k' b)).run P w = .ok v w := by
 cases op <;> simp only [aShift] at hx <;> first
  | (split at hx
     ·cases hx
     ·rename_i hb
      injection hx with hx
      subst hx
      simp [binOp, Op.shift, hb])
  | (cases hx; done)
theorem aStr_sound {op : BinOp} {a b : ByteArray} {ty : TypeId} (hx : aStr op a b = some v) :
 (binOp op ty (.string a) (.string b)).run P w = .ok v w := by
 cases op <;> simp only [aStr] at hx <;> first
  | (injection hx with hx; subst hx; simp [binOp, Op.stringOp])
  | (split at hx
     ·cases hx
     ·rename_i hb
      injection hx with hx
      subst hx
      have hb' : ¬ 9223372036854775807 < (a.size : Int) + (b.size : Int) := by simpa using hb
      simp [binOp, Op.stringOp, hb'])
  | (cases hx; done)
theorem eqGuard_scalar {op : BinOp} {ty : TypeId} {x y : Operand} {a b : Value} (ha : ∀ cs, a ≠ .agg cs) (ha' : a ≠ .nilIface) : eqGuard op ty x y a b = Pure.pure () := by
 cases a <;> first | rfl | (cases op <;> rfl) | (cases op <;> first | rfl | exact absurd rfl ha' | exact absurd rfl (ha _))
theorem equalIn_bool (d : Nat) {ty : TypeId} (a b : Bool) (hd : P.underlying ty = some .bool) : (Op.equalIn (d + 1) ty (.bool a) (.bool b)).run P w = .ok (a == b) w := by
 simp only [Op.equalIn, Sem.run_bind, run_under hd, Result.andThen_ok, Sem.run_pure]
theorem equal_bool {ty : TypeId} (a b : Bool) (hd : P.underlying ty = some .bool) : (Op.equal ty (.bool a) (.bool b)).run P w = .ok (a == b) w :=
 equalIn_bool 9999 a b hd
theorem aBin_sound {op : BinOp} {ty : TypeId} {x y x' y' : Value} {ox oy : Operand} {n : Nat} (hx : aBin op x y = some v)
 (h1 : VRel ι n x x') (h2 : VRel ι n y y') :
 (do eqGuard op ty ox oy x' y'; binOp op ty x' y' : Sem Value).run P w = .ok v w ∧ VRel ι n v v := by
 unfold aBin at hx
 split at hx
 ·cases h1.int_inv
  cases h2.int_inv
  rw [eqGuard_at_int]
  simp only [pure_bind]
  split at hx
  ·refine ⟨aShift_sound hx, ?_⟩
   cases op <;> simp only [aShift] at hx <;> first | (cases hx; done) | (split at hx <;> first | (cases hx; done) | (injection hx with hx; subst hx; constructor))
  ·rename_i hs
   split at hx
   ·rename_i hk
    subst hk
    refine ⟨aInt_sound (by simpa using hs) hx, ?_⟩
    cases op <;> simp only [aInt] at hx <;> first | (cases hx; done) | (injection hx with hx; subst hx; constructor) | (split at hx <;> first | (cases hx; done) | (injection hx with hx; subst hx; constructor))
   ·cases hx
 ·cases h1.string_inv
  cases h2.string_inv
  rw [eqGuard_at_string]
  simp only [pure_bind]
  refine ⟨aStr_sound hx, ?_⟩
  cases op <;> simp only [aStr] at hx <;> first | (cases hx; done) | (injection hx with hx; subst hx; constructor) | (split at hx <;> first | (cases hx; done) | (injection hx with hx; subst hx; constructor))
 ·cases hx
theorem aBinB_sound {op : BinOp} {ty : TypeId} {x y x' y' : Value} {ox oy : Operand} {n : Nat} (hd : P.underlying ty = some .bool) (hx : aBinB op x y = some v)
 (h1 : VRel ι n x x') (h2 : VRel ι n y y') :
 (do eqGuard op ty ox oy x' y'; binOp op ty x' y' : Sem Value).run P w = .ok v w ∧ VRel ι n v v := by
 unfold aBinB at hx
 split at hx
 ·cases h1.bool_inv
  cases h2.bool_inv
  rw [eqGuard_at_bool]
  simp only [pure_bind]
  injection hx with hx
  subst hx
  exact ⟨by simp only [binOp, Sem.run_bind, equal_bool _ _ hd, Result.andThen_ok, Sem.run_pure], by constructor⟩
 ·cases h1.bool_inv
  cases h2.bool_inv
  rw [eqGuard_at_bool]
  simp only [pure_bind]
  injection hx with hx
  subst hx
  exact ⟨by simp only [binOp, Sem.run_bind, equal_bool _ _ hd, Result.andThen_ok, Sem.run_pure], by constructor⟩
 ·cases hx
theorem aUn_sound {op : UnOp} {x x' : Value} {n : Nat} (hx : aUn op x = some v) (h1 : VRel ι n x x') : (Op.unary op x').run P w = .ok v w ∧ VRel ι n v v := by
 unfold aUn at hx
 split at hx
 ·injection hx with hx
  subst hx
  cases h1.int_inv
  exact ⟨by simp [Op.unary, Op.intArith], by constructor⟩
 ·injection hx with hx
  subst hx
  cases h1.int_inv
  exact ⟨by simp [Op.unary, Op.intBits, bits], by constructor⟩
 ·injection hx with hx
  subst hx
  cases h1.bool_inv
  exact ⟨by simp [Op.unary], by constructor⟩
 ·cases hx
end
end Go.Wb
namespace Go.Wb
open Go
section
variable {P : Program} {w : World}
theorem eqCells_length {ks : List CK} : ∀ {xs ys : List Value} {r : Bool}, eqCells ks xs ys = some r → xs.length = ks.length ∧ ys.length = ks.length := by
 induction ks with
 | nil =>
   intro xs ys r h
   cases xs <;> cases ys <;> simp_all [eqCells]
 | cons k ks ih =>
   intro xs ys r h
   cases xs with
   | nil => cases ys <;> simp [eqCells] at h
   | cons x xs =>
     cases ys with
     | nil => simp [eqCells] at h
     | cons y ys =>
       simp only [eqCells] at h
       split at h
       ·rename_i h2
        have := ih h2
        simp [this]
       ·cases h
theorem eqCells_append {ks : List CK} : ∀ {ls : List CK} {xs ys : List Value} {r : Bool}, eqCells (ks ++ ls) xs ys = some r →
 ∃ r1 r2, eqCells ks (xs.take ks.length) (ys.take ks.length) = some r1 ∧ eqCells ls (xs.drop ks.length) (ys.drop ks.length) = some r2 ∧ r = (r1 && r2) := by
 induction ks with
 | nil =>
   intro ls xs ys r h
   exact ⟨true, r, by simp [eqCells], by simpa using h, by simp⟩
 | cons k ks ih =>
   intro ls xs ys r h
   cases xs with
   | nil => cases ys <;> simp [eqCells] at h
   | cons x xs =>
     cases ys with
     | nil => simp [eqCells] at h
     | cons y ys =>
       simp only [List.cons_append, eqCells] at h
       split at h
       ·rename_i a b h1 h2
        injection h with h
        obtain ⟨r1, r2, g1, g2, g3⟩ := ih h2
        refine ⟨a && r1, r2, ?_, by simpa using g2, ?_⟩
        ·simp [eqCells, h1, g1]
        ·subst h g3
         rw [Bool.and_assoc]
       ·cases h
abbrev isAggT := isAggC
def asVal (b : Bool) (l : List Value) : Value := if b then .agg l.toArray else l.headD undef
theorem run_isAgg {t : TypeId} {d : TypeDesc} (hd : P.underlying t = some d) : (Go.isAgg t).run P w = .ok (isAggT P t) w := by
 unfold Go.isAgg isAggT isAggC
 simp only [Sem.run_bind, run_under hd, Result.andThen_ok]
 rw [hd]
 cases d <;> rfl
theorem run_part {t : TypeId} {i : TypeInfo} {d : TypeDesc} (hd : P.underlying t = some d) (hi : P.info? t = some i) (cs : Array Value) (off : Nat) (h1 : 1 ≤ i.size) (hl : off + i.size ≤ cs.size) :
 (part t cs off).run P w = .ok (asVal (isAggT P t) ((cs.toList.drop off).take i.size)) w := by
 unfold part asVal
 simp only [Sem.run_bind, run_isAgg hd, Result.andThen_ok]
 cases isAggT P t with
 | true =>
   simp only [if_true, Sem.run_bind, run_size hi, Result.andThen_ok, Sem.run_pure]
   congr 2
   apply Array.ext'
   simp [Array.toList_extract, List.take_drop]
 | false =>
   simp only [Bool.false_eq_true, if_false]
   have hlt : off < cs.size := by omega
   have : cs[off]? = some cs[off] := Array.getElem?_eq_getElem hlt
   rw [this]
   simp only [Sem.run_pure]
   congr 1
   obtain ⟨m, hm⟩ : ∃ m, i.size = m + 1 := ⟨i.size - 1, by omega⟩
   rw [hm, List.drop_eq_getElem_cons (by simpa using hlt)]
   simp
theorem eqFields_run {recK : TypeId → Option (List CK)} {D : Nat}
 (ih : ∀ t ks xs ys r, recK t = some ks → eqCells ks xs ys = some r → (Op.equalIn D t (asVal (isAggT P t) xs) (asVal (isAggT P t) ys)).run P w = .ok r w)
 (hu : ∀ t ks, recK t = some ks → (P.underlying t).isSome) (xs ys : Array Value) :
 ∀ (fs : List Field) (off : Nat) (ks : List CK) (r : Bool), fieldsKinds P recK off fs = some ks → eqCells ks (xs.toList.drop off) (ys.toList.drop off) = some r →
   (Op.eqFields D xs ys fs).run P w = .ok r w
 | [], off, ks, r, hk, he => by
   simp only [fieldsKinds] at hk
   injection hk with hk
   subst hk
   have hl := eqCells_length he
   have e1 : xs.toList.drop off = [] := List.eq_nil_of_length_eq_zero (by simpa using hl.1)
   have e2 : ys.toList.drop off = [] := List.eq_nil_of_length_eq_zero (by simpa using hl.2)
   rw [e1, e2] at he
   simp only [eqCells] at he
   injection he with he
   subst he
   simp [Op.eqFields]
 | f :: fs, off, ks, r, hk, he => by
   simp only [fieldsKinds] at hk
   split at hk
   ·rename_i hof
    obtain ⟨ho, hn⟩ := hof
    split at hk
    ·rename_i k1 i h1 h2
     split at hk
     ·rename_i hsz
      rw [Option.map_eq_some_iff] at hk
      obtain ⟨k2, h3, h4⟩ := hk
      subst h4
      obtain ⟨r1, r2, g1, g2, g3⟩ := eqCells_append he
      rw [List.drop_drop] at g2
      rw [List.drop_drop] at g2
      have hl := eqCells_length he
      simp only [List.length_append, List.length_drop, Array.length_toList] at hl
      obtain ⟨d, hd⟩ := Option.isSome_iff_exists.1 (hu _ _ h1)
      have p1 := run_part (w := w) hd h2 xs f.offset hsz.2 (by omega)
      have p2 := run_part (w := w) hd h2 ys f.offset hsz.2 (by omega)
      rw [hsz.1, ho] at p1 p2
      have he1 := ih f.type k1 _ _ r1 h1 g1
      have hrest := eqFields_run ih hu xs ys fs (off + k1.length) k2 r2 h3 g2
      simp only [Op.eqFields, if_pos hn, Sem.run_bind, ho, p1, p2, he1, Result.andThen_ok, Sem.run_ite, Sem.run_pure, hrest, g3]
      cases r1 <;> simp
     ·cases hk
    ·cases hk
   ·cases hk
theorem equalIn_array {D : Nat} {t e : TypeId} {n : Nat} {i : TypeInfo} (ht : P.underlying t = some (.array n e)) (hi : P.info? e = some i) {d : TypeDesc} (hd : P.underlying e = some d) (h1 : 1 ≤ i.size)
 {ks : List CK} (hk : i.size = ks.length)
 (ih : ∀ xs ys r, eqCells ks xs ys = some r → (Op.equalIn D e (asVal (isAggT P e) xs) (asVal (isAggT P e) ys)).run P w = .ok r w)
 (xs ys : Array Value) (r : Bool) (he : eqCells (List.replicate n ks).flatten xs.toList ys.toList = some r) :
 (Op.equalIn (D + 1) t (.agg xs) (.agg ys)).run P w = .ok r w := by
 simp only [Op.equalIn, Sem.run_bind, run_under ht, Result.andThen_ok, run_size hi]
 rw [Std.Legacy.Range.forIn_eq_forIn_range']
 simp only [Std.Legacy.Range.size, Nat.sub_zero, Nat.add_sub_cancel, Nat.div_one]
 ·have key : ∀ (m k : Nat) (r : Bool), eqCells (List.replicate m ks).flatten (xs.toList.drop (k * i.size)) (ys.toList.drop (k * i.size)) = some r →
   ((forIn (List.range' k m 1) ((none, ()) : Option Bool × Unit) fun i_1 _ => do
     let a ← part e xs (i_1 * i.size)
     let b ← part e ys (i_1 * i.size)
     let r ← Op.equalIn D e a b
     if (!r) = true then Pure.pure (ForInStep.done (some false, ())) else Pure.pure (ForInStep.yield (none, ()))) : Sem _).run P w = .ok (if r then (none, ()) else (some false, ())) w := by
   intro m
   induction m with
   | zero =>
     intro k r h
     simp only [List.replicate_zero, List.flatten_nil] at h
     have hl := eqCells_length h
     have e1 : xs.toList.drop (k * i.size) = [] := List.eq_nil_of_length_eq_zero (by simpa using hl.1)
     have e2 : ys.toList.drop (k * i.size) = [] := List.eq_nil_of_length_eq_zero (by simpa using hl.2)
     rw [e1, e2] at h
     simp only [eqCells] at h
     injection h with h
     subst h
     simp
   | succ m ihm =>
     intro k r h
     rw [List.replicate_succ, List.flatten_cons] at h
     obtain ⟨r1, r2, g1, g2, g3⟩ := eqCells_append h
     rw [List.drop_drop] at g2
     rw [List.drop_drop] at g2
     have hl := eqCells_length h
     simp only [List.length_append, List.length_drop, Array.length_toList] at hl
     have p1 := run_part (w := w) hd hi xs (k * i.size) h1 (by omega)
     have p2 := run_part (w := w) hd hi ys (k * i.size) h1 (by omega)
     rw [← hk] at g1 g2
     have e1 := ih _ _ r1 (by rw [← hk] at *; exact g1)
     rw [List.range'_succ, List.forIn_cons]
     have hnext := ihm (k + 1) r2 (by rw [Nat.succ_mul]; exact g2)
     subst g3
     simp only [Sem.run_bind, p1, p2, e1, Result.andThen_ok, Sem.run_ite, Sem.run_pure]
     cases r1
     ·simp
     ·simpa using hnext
  have := key n 0 r (by simpa using he)
  simp only [this, Result.andThen_ok]
  cases r <;> simp
theorem eqCells_one {k : CK} {xs ys : List Value} {r : Bool} (h : eqCells [k] xs ys = some r) : ∃ x y, xs = [x] ∧ ys = [y] ∧ eqCell k x y = some r := by
 have hl := eqCells_length h
 match xs, ys, hl, h with
 | [x], [y], _, h =>
   simp only [eqCells] at h
   split at h
   ·rename_i a b h1 h2
    injection h2 with h2
    injection h with h
    subst h2
    subst h
    exact ⟨x, y, rfl, rfl, by rw [Bool.and_true]; exact h1⟩
   ·cases h
theorem plainKinds_under {d : Nat} {t : TypeId} {ks : List CK} (h : plainKinds P d t = some ks) : (P.underlying t).isSome := by
 cases d with
 | zero => cases h
 | succ d =>
   simp only [plainKinds] at h
   split at h <;> first | (cases h; done) | simp [*]
theorem equalIn_plain : ∀ (d D : Nat) (t : TypeId) (ks : List CK) (xs ys : List Value) (r : Bool), plainKinds P d t = some ks → d ≤ D → eqCells ks xs ys = some r →
 (Op.equalIn D t (asVal (isAggT P t) xs) (asVal (isAggT P t) ys)).run P w = .ok r w := by
 intro d
 induction d with
 | zero => intro D t ks xs ys r h; cases h
 | succ d ih =>
   intro D t ks xs ys r h hD he
   obtain ⟨D, rfl⟩ : ∃ m, D = m + 1 := ⟨D - 1, by omega⟩
   simp only [plainKinds] at h
   split at h
   ·rename_i hu
    injection h with h
    subst h
    obtain ⟨x, y, rfl, rfl, hc⟩ := eqCells_one he
    have ha : isAggT P t = false := by simp [isAggT, isAggC, hu]
    rw [ha]
    unfold eqCell at hc
    split at hc <;> first | (cases hc; done) | skip
    all_goals (first | contradiction | skip)
    ·injection hc with hc
     subst hc
     simpa [asVal] using equalIn_bool D _ _ hu
   ·rename_i k hu
    injection h with h
    subst h
    obtain ⟨x, y, rfl, rfl, hc⟩ := eqCells_one he
    have ha : isAggT P t = false := by simp [isAggT, isAggC, hu]
    rw [ha]
    unfold eqCell at hc
    split at hc <;> first | (cases hc; done) | skip
    all_goals (first | contradiction | skip)
    ·split at hc
     ·rename_i hk
      subst hk
      injection hc with hc
      subst hc
      simpa [asVal] using run_equalIn_int w D t _ _ _ _ hu
     ·cases hc
   ·rename_i hu
    injection h with h
    subst h
    obtain ⟨x, y, rfl, rfl, hc⟩ := eqCells_one he
    have ha : isAggT P t = false := by simp [isAggT, isAggC, hu]
    rw [ha]
    unfold eqCell at hc
    split at hc <;> first | (cases hc; done) | skip
    all_goals (first | contradiction | skip)
    ·injection hc with hc
     subst hc
     simpa [asVal] using run_equalIn_string w D t _ _ hu
   ·rename_i fs hu
    split at h
    ·rename_i hst
     have ha : isAggT P t = true := by simp [isAggT, isAggC, hu]
     have hf : P.fieldsOf t = fs := by simp [Program.fieldsOf, hu]
     rw [ha]
     simp only [asVal, if_true]
     rw [run_equalIn_struct w D t _ _ (by rw [hf]; exact hu) hst, hf]
     exact eqFields_run (fun t ks xs ys r hk hc => ih D t ks xs ys r hk (by omega) hc) (fun t ks hk => plainKinds_under hk) xs.toArray ys.toArray fs.toList 0 ks r h (by simpa using he)
    ·cases h
   ·rename_i n e hu
    split at h
    ·rename_i k1 i h1 h2
     split at h
     ·rename_i hs
      injection h with h
      subst h
      have ha : isAggT P t = true := by simp [isAggT, isAggC, hu]
      rw [ha]
      simp only [asVal, if_true]
      obtain ⟨de, hde⟩ := Option.isSome_iff_exists.1 (plainKinds_under h1)
      exact equalIn_array hu h2 hde hs.2 hs.1 (fun xs ys r hc => ih D e k1 xs ys r h1 (by omega) hc) xs.toArray ys.toArray r (by simpa using he)
     ·cases h
    ·cases h
   ·cases h
theorem eqCells_same {ι : Inj} {n : Nat} {ks : List CK} : ∀ {xs ys xs' ys' : List Value} {r : Bool}, eqCells ks xs ys = some r → CRel ι n xs xs' → CRel ι n ys ys' → xs' = xs ∧ ys' = ys := by
 induction ks with
 | nil =>
   intro xs ys xs' ys' r h h1 h2
   have hl := eqCells_length h
   have e1 : xs = [] := List.eq_nil_of_length_eq_zero hl.1
   have e2 : ys = [] := List.eq_nil_of_length_eq_zero hl.2
   subst e1 e2
   exact ⟨List.eq_nil_of_length_eq_zero (h1.1.symm), List.eq_nil_of_length_eq_zero (h2.1.symm)⟩
 | cons k ks ih =>
   intro xs ys xs' ys' r h h1 h2
   cases xs with
   | nil => cases ys <;> simp [eqCells] at h
   | cons x xs =>
     cases ys with
     | nil => simp [eqCells] at h
     | cons y ys =>
       cases xs' with
       | nil => have := h1.1; simp at this
       | cons x' xs' =>
         cases ys' with
         | nil => have := h2.1; simp at this
         | cons y' ys' =>
           simp only [eqCells] at h
           split at h
           ·rename_i a b g1 g2
            have t1 : CRel ι n xs xs' := ⟨by simpa using h1.1, fun i => by simpa using h1.2 (i + 1)⟩
            have t2 : CRel ι n ys ys' := ⟨by simpa using h2.1, fun i => by simpa using h2.2 (i + 1)⟩
            obtain ⟨e1, e2⟩ := ih g2 t1 t2
            subst e1 e2
            have u1 : VRel ι n x x' := by simpa using h1.2 0
            have u2 : VRel ι n y y' := by simpa using h2.2 0
            unfold eqCell at g1
            split at g1
            ·rw [u1.bool_inv, u2.bool_inv]; exact ⟨rfl, rfl⟩
            ·rw [u1.int_inv, u2.int_inv]; exact ⟨rfl, rfl⟩
            ·rw [u1.string_inv, u2.string_inv]; exact ⟨rfl, rfl⟩
            ·cases g1
           ·cases h
theorem aEq_sound {ι : Inj} {n : Nat} {ks : List CK} {x y x' y' : Value} {ty : TypeId} {r : Bool} {ox oy : Operand} (hk : plainKinds P 8 ty = some ks) (hg : P.eqGuardType P.depth ty = false) (ha : isAggT P ty = true)
 (hx : aEq ks x y = some r) (h1 : VRel ι n x x') (h2 : VRel ι n y y') (neg : Bool) :
 (do eqGuard (if neg then .neq else .eql) ty ox oy x' y'; binOp (if neg then .neq else .eql) ty x' y' : Sem Value).run P w = .ok (.bool (neg != r)) w := by
 unfold aEq at hx
 split at hx
 ·rename_i a b
  obtain ⟨a', rfl, r1, _⟩ := h1.agg_inv
  obtain ⟨b', rfl, r2, _⟩ := h2.agg_inv
  obtain ⟨e1, e2⟩ := eqCells_same hx r1 r2
  have e1 : a' = a := Array.ext' e1
  have e2 : b' = b := Array.ext' e2
  subst e1 e2
  have hE := equalIn_plain (w := w) 8 10000 ty ks _ _ r hk (by omega) hx
  rw [ha] at hE
  simp only [asVal, if_true, Array.toArray_toList] at hE
  simp only [Sem.run_bind, run_eqGuard_agg w _ _ _ _ _ _ hg, Result.andThen_ok]
  cases neg
  ·simp only [Bool.false_eq_true, if_false, run_eql_struct, hE, Result.andThen_ok]
   simp
  ·simp only [if_true, run_neq_struct, hE, Result.andThen_ok]
   simp
 ·cases hx
end
end Go.Wb
namespace Go.Wb
open Go
section
variable {P : Program} {ι : Inj} {h h' : Heap} {w : World} {t : T} {ρ : Operand → Value} {v : Value}
theorem valCells_one {n : Nat} {x x' : Value} (hx : VRel ι n x x') (hn : ∀ vs, x ≠ .tuple vs) : ∀ u ∈ valCells x', u.oneCell' = true := by
 cases hx <;> simp only [valCells, List.mem_singleton, forall_eq, Value.oneCell'] <;> first | (exact absurd rfl (hn _)) | skip
 rename_i h1
 intro u hu
 exact h1 u (by simpa using hu)
theorem flatten_get (zs : List Value) (hn : 1 ≤ zs.length) : ∀ (m i : Nat), i < m * zs.length → (List.replicate m zs).flatten[i]? = zs[i % zs.length]?
 | 0, i, hi => by simp at hi
 | m + 1, i, hi => by
   rw [List.replicate_succ, List.flatten_cons, List.getElem?_append]
   split
   ·rename_i hlt
    rw [Nat.mod_eq_of_lt hlt]
   ·rename_i hge
    rw [flatten_get zs hn m (i - zs.length) (by rw [Nat.succ_mul] at hi; omega)]
    rw [← Nat.mod_eq_sub_mod (by omega)]
theorem repCells_length (m : Nat) (zs : List Value) : (repCells m zs).length = m * zs.length := by
 unfold repCells
 split
 ·simp
 ·simp
theorem repCells_get (m i : Nat) (zs : List Value) (hn : 1 ≤ zs.length) (hi : i < m * zs.length) : (repCells m zs)[i]? = zs[i % zs.length]? := by
 unfold repCells
 split
 ·rename_i z
  have : i < m := by simpa using hi
  simp [this, Nat.mod_one]
 ·exact flatten_get zs hn m i hi
theorem range_get (z : Array Value) (k i : Nat) (hi : i < k) (hz : 1 ≤ z.size) : ((Array.range k).map (fun j => z[j % z.size]!))[i]? = z.toList[i % z.size]? := by
 have hm : i % z.size < z.size := Nat.mod_lt _ (by omega)
 have h1 : z[i % z.size]! = z[i % z.size] := getElem!_pos z _ hm
 rw [Array.getElem?_map, Array.getElem?_range, if_pos hi]
 simp only [Option.map_some, h1]
 rw [List.getElem?_eq_getElem (by simpa using hm)]
 simp
theorem fill_fold : ∀ (vs : List Value) (k off : Nat) (cells : Array Value), off + k + vs.length ≤ cells.size →
 ((vs.zipIdx k).foldl (fun cs (x : Value × Nat) => cs.setIfInBounds (off + x.2) x.1) cells).toList = cells.toList.take (off + k) ++ vs ++ cells.toList.drop (off + k + vs.length)
 | [], k, off, cells, _ => by simp
 | u :: vs, k, off, cells, hl => by
   simp only [List.length_cons] at hl
   rw [List.zipIdx_cons, List.foldl_cons, fill_fold vs (k + 1) off _ (by simp; omega)]
   have hlt : off + k < cells.toList.length := by simp; omega
   rw [Array.toList_setIfInBounds]
   rw [show off + (k + 1) = (off + k) + 1 by omega]
   rw [List.take_set, List.take_succ_eq_append_getElem hlt]
   simp only [List.length_cons]
   rw [List.drop_set_of_lt (by omega), List.set_append_right _ _ (by simp; omega)]
   have : (off + k) - (cells.toList.take (off + k)).length = 0 := by simp; omega
   rw [this]
   simp [show off + k + 1 + vs.length = off + k + (vs.length + 1) by omega]
theorem fill_sound {n : Nat} (he : ERel ι n t ρ) (place : Nat → Option (Nat × Nat)) : ∀ (parts : List (Nat × Operand)) (l : List (Nat × Nat × Operand)) (cs cs2 : List Value) (cells : Array Value),
 partsOf P place parts = some l → (∀ x ∈ parts, operOk x.2 = true) → fillL t cs l = some cs2 → CRel ι n cs cells.toList → (∀ u ∈ cells.toList, u.oneCell' = true) →
 ∃ cells2, Instr.fill place cells (parts.map fun x => (x.1, ρ x.2)) = some cells2 ∧ CRel ι n cs2 cells2.toList ∧ (∀ u ∈ cells2.toList, u.oneCell' = true) ∧ cells2.size = cells.size
 | [], l, cs, cs2, cells, hp, _, hf, hc, h1 => by
   simp only [partsOf] at hp
   injection hp with hp
   subst hp
   simp only [fillL] at hf
   injection hf with hf
   subst hf
   exact ⟨cells, rfl, hc, h1, rfl⟩
 | (i, x) :: parts, l, cs, cs2, cells, hp, hok, hf, hc, h1 => by
   simp only [partsOf] at hp
   split at hp
   ·rename_i o s l' hpl hrest
    injection hp with hp
    subst hp
    simp only [fillL] at hf
    split at hf
    ·rename_i hcond
     obtain ⟨hs, hle, htu⟩ := hcond
     have hv := he x (hok (i, x) (by simp))
     have hvc := hv.isAgg
     have hsz : (ρ x).cells.size = s := by
      have := hvc.1
      rw [valCells_eq (ρ x)] at this
      simp at this
      omega
     have hnt : ∀ vs, Ev t x ≠ .tuple vs := by
      intro vs hvs
      rw [hvs] at htu
      cases htu
     have hone := valCells_one hv hnt
     have hcl := hc.1
     simp only [Array.length_toList] at hcl
     have hfold := fill_fold (valCells (ρ x)) 0 o cells (by rw [← hvc.1, hs]; omega)
     have heq : ((ρ x).cells.zipIdx.foldl (fun cs (y : Value × Nat) => cs.setIfInBounds (o + y.2) y.1) cells) = ((valCells (ρ x)).zipIdx 0).foldl (fun cs (y : Value × Nat) => cs.setIfInBounds (o + y.2) y.1) cells := by
      rw [valCells_eq, ← Array.foldl_toList, Array.toList_zipIdx]
     have hcrel : CRel ι n (cs.take o ++ valCells (Ev t x) ++ cs.drop (o + s)) (((ρ x).cells.zipIdx.foldl (fun cs (y : Value × Nat) => cs.setIfInBounds (o + y.2) y.1) cells)).toList := by
      rw [heq, hfold]
      have hl2 : (valCells (ρ x)).length = s := by rw [← hvc.1, hs]
      rw [hl2]
      exact crel_append (crel_append (crel_take hc _) hvc) (crel_drop hc _)
     have hone2 : ∀ u ∈ (((ρ x).cells.zipIdx.foldl (fun cs (y : Value × Nat) => cs.setIfInBounds (o + y.2) y.1) cells)).toList, u.oneCell' = true := by
      rw [heq, hfold]
      intro u hu
      simp only [List.mem_append] at hu
      rcases hu with (hu | hu) | hu
      ·exact h1 u (List.mem_of_mem_take hu)
      ·exact hone u hu
      ·exact h1 u (List.mem_of_mem_drop hu)
     obtain ⟨cells2, g1, g2, g3, g4⟩ := fill_sound he place parts l' _ cs2 _ hrest (fun y hy => hok y (by simp [hy])) hf hcrel hone2
     refine ⟨cells2, ?_, g2, g3, ?_⟩
     ·simp only [List.map_cons, Instr.fill, hpl, hsz]
      rw [if_neg (by simp; omega)]
      exact g1
     ·rw [g4, heq]
      have := congrArg List.length hfold
      simp only [Array.length_toList] at this
      rw [this]
      have hl2 : (valCells (ρ x)).length = s := by rw [← hvc.1, hs]
      simp [hl2]
      omega
    ·cases hf
   ·cases hp
end
end Go.Wb
namespace Go.Wb
open Go
section
variable {P : Program} {ι : Inj} {h h' : Heap} {w : World} {t : T} {ρ : Operand → Value} {v : Value} {d : Option Tmp} {ty : TypeId} {pos : String} {af : Array Edge} {g : Option (Nat × Bool)}
theorem aggN_none {e : TypeId} (ha : aggN P e = some none) : ∃ i u, P.info? e = some i ∧ P.underlying e = some u ∧ isAggT P e = false := by
 cases hi : P.info? e with
 | none => simp [aggN, hi] at ha
 | some i =>
   cases hu : P.underlying e with
   | none => simp [aggN, hi, hu] at ha
   | some u =>
     refine ⟨i, u, rfl, rfl, ?_⟩
     cases u <;> first | (simp [isAggT, isAggC, hu]; done) | (simp [aggN, hi, hu] at ha)
theorem aggN_some {e : TypeId} {m : Nat} (ha : aggN P e = some (some m)) : ∃ i u, P.info? e = some i ∧ P.underlying e = some u ∧ isAggT P e = true ∧ i.size = m := by
 unfold aggN at ha
 split at ha
 ·rename_i i fs h1 h2
  injection ha with ha
  injection ha with ha
  exact ⟨_, _, h1, h2, by simp [isAggT, isAggC, h2], ha⟩
 ·rename_i i n e' h1 h2
  injection ha with ha
  injection ha with ha
  exact ⟨_, _, h1, h2, by simp [isAggT, isAggC, h2], ha⟩
 ·cases ha
 ·cases ha
theorem op_load {e : TypeId} {x : Operand} {n : Option Nat} (hr : Rel ι h w) (he : ERel ι h.length t ρ) (hox : operOk x = true) (ha : aggN P e = some n) (hx : aOp (.load n x) t h = some (v, h')) :
 Does P (execOp ρ ⟨d, .load e x, ty, pos, af, g⟩) ι h w v h' := by
 simp only [aOp, Option.map_eq_some_iff] at hx
 obtain ⟨v1, hv, hx⟩ := hx
 injection hx with h1 h2
 subst h1 h2
 have hxr := he x hox
 unfold readV at hv
 split at hv
 ·rename_i b o heq
  rw [heq] at hxr
  obtain ⟨hb, hp⟩ := hxr.ptr_inv
  unfold read1 at hv
  split at hv
  ·rename_i ro cs hcs
   obtain ⟨v', c1, c2, c3⟩ := rel_read hr hcs hv
   obtain ⟨i, u, hi, hu, hag⟩ := aggN_none ha
   refine Does.pure hr (v' := v') ?_ c2
   rw [hp]
   simp only [Instr.loadAt, Instr.sureAddr, pure_bind, loadVar, Sem.run_bind, run_isAgg hu, hag, Result.andThen_ok, Bool.false_eq_true, if_false]
   rw [run_load, c1]
  ·cases hv
 ·rename_i b o m heq
  rw [heq] at hxr
  obtain ⟨hb, hp⟩ := hxr.ptr_inv
  rw [Option.map_eq_some_iff] at hv
  obtain ⟨cs, hcs, hv⟩ := hv
  subst hv
  obtain ⟨i, u, hi, hu, hag, hsz⟩ := aggN_some ha
  obtain ⟨hl, vs', hrun, hrel, hone⟩ := rel_readN (P := P) hr hcs
  refine Does.pure hr (v' := .agg vs'.toArray) ?_ (agg_crel hrel hone)
  rw [hp]
  simp only [Instr.loadAt, Instr.sureAddr, pure_bind, loadVar, Sem.run_bind, run_isAgg hu, hag, Result.andThen_ok, if_true, run_size hi, hsz, hrun, Sem.run_pure]
 ·cases hv
theorem run_storeVar {e : TypeId} {i : TypeInfo} {a : Addr} {x : Value} {r : Result Unit} (hi : P.info? e = some i) (hs : x.cells.size = i.size) (hrun : (storeCells a x.cells.toList).run P w = r) :
 (storeVar e a x).run P w = r := by
 unfold storeVar
 simp only [Sem.run_bind, run_size hi, Result.andThen_ok]
 rw [Sem.run_ite, if_neg (by simp [hs])]
 exact hrun
theorem op_store {e : TypeId} {a x : Operand} {n : Option Nat} (hr : Rel ι h w) (he : ERel ι h.length t ρ) (hoa : operOk a = true) (hox : operOk x = true) (ha : aggN P e = some n) (hs : n = none → ∃ i, P.info? e = some i ∧ i.size = 1)
 (hx : aOp (.store n a x) t h = some (v, h')) :
 Does P (execOp ρ ⟨d, .store e a x, ty, pos, af, g⟩) ι h w v h' := by
 simp only [aOp, Option.map_eq_some_iff] at hx
 obtain ⟨h1, hw, hx⟩ := hx
 injection hx with e1 e2
 subst e1 e2
 have har := he a hoa
 have hxr := he x hox
 unfold writeV at hw
 split at hw
 ·rename_i b o heq
  rw [heq] at har
  obtain ⟨hb, hp⟩ := har.ptr_inv
  split at hw
  ·rename_i hone
   unfold write1 at hw
   split at hw
   ·rename_i cs hcs
    split at hw
    ·rename_i hlt
     injection hw with hw
     subst hw
     obtain ⟨i, hi, hsz⟩ := hs rfl
     obtain ⟨c, ce, lo, hi2, hwc, hcsz, hfz⟩ := hr.own b cs hcs
     have hfit := hr.fits b false cs hcs
     have hone' := hxr.oneCell hone
     have hcells : (ρ x).cells = #[ρ x] := by
      generalize ρ x = y at hone'
      cases y <;> first | rfl | (simp [Value.oneCell'] at hone')
     obtain ⟨c2, hrun, hs2, hget⟩ := run_storeCells (P := P) (ι b).blk ((ι b).off + o) ce lo hi2 [ρ x] 0 c w hwc (by simp; omega) hfz (by simpa using hone')
     refine Does.unit (w' := setBlk w (ι b).blk (.cells c2 ce (lo, hi2))) ?_ (step_write hr hcs hwc hs2 (by simp) ?_)
     ·rw [hp]
      simp only [Instr.storeAt, Instr.sureAddr, pure_bind]
      exact run_storeVar hi (by rw [hcells, hsz]; rfl) (by rw [hcells]; exact hrun)
     ·intro j hj
      rw [List.length_set] at hj
      rw [hget]
      by_cases hoj : o = j
      ·subst hoj
       refine ⟨ρ x, by simp, ?_, hone'⟩
       simpa using hxr
      ·rw [if_neg (by simp; omega)]
       obtain ⟨v', q1, q2, q3⟩ := hr.cell b false cs hcs j hj
       refine ⟨v', ?_, ?_, q3⟩
       ·simpa [World.cell?, hwc] using q1
       ·rw [getD_eq (List.getElem?_eq_getElem hj)] at q2
        simpa [List.getElem_set_ne hoj] using q2
    ·cases hw
   ·cases hw
  ·cases hw
 ·rename_i b o m heq
  rw [heq] at har
  obtain ⟨hb, hp⟩ := har.ptr_inv
  split at hw
  ·rename_i ag hag
   split at hw
   ·rename_i hm
    rw [hag] at hxr
    obtain ⟨ag', hpx, hcr, hone⟩ := hxr.agg_inv
    unfold writeN at hw
    split at hw
    ·rename_i cs hcs
     split at hw
     ·rename_i hle
      injection hw with hw
      subst hw
      obtain ⟨i, u, hi, hu, _, hsz⟩ := aggN_some ha
      obtain ⟨c, ce, lo, hi2, hwc, hcsz, hfz⟩ := hr.own b cs hcs
      have hfit := hr.fits b false cs hcs
      have hlag := hcr.1
      simp only [Array.length_toList] at hlag hle
      obtain ⟨c2, hrun, hs2, hget⟩ := run_storeCells (P := P) (ι b).blk ((ι b).off + o) ce lo hi2 ag'.toList 0 c w hwc (by simp; omega) hfz (by simpa using hone)
      refine Does.unit (w' := setBlk w (ι b).blk (.cells c2 ce (lo, hi2))) ?_ (step_write hr hcs hwc hs2 (by simp; omega) ?_)
      ·rw [hp, hpx]
       simp only [Instr.storeAt, Instr.sureAddr, pure_bind]
       exact run_storeVar hi (by simp only [Value.cells]; omega) hrun
      ·intro j hj
       simp only [List.length_append, List.length_take, List.length_drop, Array.length_toList] at hj
       rw [hget]
       have hjc : j < cs.length := by omega
       by_cases hoj : o ≤ j ∧ j < o + ag.size
       ·rw [if_pos (by simp; omega)]
        have hlt : j - o < ag'.toList.length := by simp only [Array.length_toList]; omega
        have hlt2 : j - o < ag.toList.length := by simp only [Array.length_toList]; omega
        refine ⟨ag'.toList[j - o], ?_, ?_, hone _ (by simp)⟩
        ·rw [show (ι b).off + j - ((ι b).off + o + 0) = j - o by omega]
         exact List.getElem?_eq_getElem hlt
        ·have h2 := hcr.2 (j - o)
         rw [getD_eq (List.getElem?_eq_getElem hlt), getD_eq (List.getElem?_eq_getElem hlt2)] at h2
         rw [List.getElem_append_left (by simp; omega), List.getElem_append_right (by simp; omega)]
         have h3 : j - (List.take o cs).length = j - o := by simp; omega
         simp only [h3]
         exact h2
       ·rw [if_neg (by simp; omega)]
        obtain ⟨v', q1, q2, q3⟩ := hr.cell b false cs hcs j hjc
        refine ⟨v', ?_, ?_, q3⟩
        ·simpa [World.cell?, hwc] using q1
        ·rw [getD_eq (List.getElem?_eq_getElem hjc)] at q2
         rcases Nat.lt_or_ge j o with hjo | hjo
         ·rw [List.getElem_append_left (by simp; omega), List.getElem_append_left (by simp; omega)]
          simpa using q2
         ·rw [List.getElem_append_right (by simp; omega)]
          simp only [List.getElem_drop]
          have h3 : o + ag.toList.length + (j - (List.take o cs ++ ag.toList).length) = j := by simp; omega
          simp only [h3]
          exact q2
     ·cases hw
    ·cases hw
   ·cases hw
  ·cases hw
 ·cases hw
theorem does_new {cs : List Value} {c : Array Value} {e : TypeId} {s : Sem Value} (hr : Rel ι h w) (hrun : s.run P w = .ok (.pointer (some ⟨w.heap.size, 0, none⟩)) (w.alloc (.cells c e)))
 (hc : CRel ι h.length cs c.toList) (h1 : ∀ u ∈ c.toList, u.oneCell' = true) :
 Does P (do pure (.value (← s))) ι h w (.pointer (some ⟨h.length, 0, none⟩)) (newBlk h cs) := by
 have hl := hc.1
 simp only [Array.length_toList] at hl
 have hst := step_new hr cs c e 0 0 w.drawn (by omega) (fun i q1 q2 => ⟨by
  have := hc.2 i
  rw [getD_eq (List.getElem?_eq_getElem q1), getD_eq (List.getElem?_eq_getElem (by simpa using q2))] at this
  simpa using this, h1 _ (by simp)⟩) (fun o _ => by omega)
 refine Does.value hrun hst ?_
 have := VRel.ptr (ι := ι.set h.length ⟨w.heap.size, 0, c.size⟩) (n := (newBlk h cs).length) h.length 0 (by rw [length_new]; omega)
 rwa [Inj.set_same] at this
theorem op_box {e : TypeId} {x : Operand} (hr : Rel ι h w) (he : ERel ι h.length t ρ) (hox : operOk x = true) (hx : aOp (.box x) t h = some (v, h')) :
 Does P (execOp ρ ⟨d, .box e x, ty, pos, af, g⟩) ι h w v h' := by
 simp only [aOp] at hx
 split at hx
 ·rename_i htu
  injection hx with hx
  injection hx with h1 h2
  subst h1 h2
  have hxr := he x hox
  have hone := valCells_one hxr (fun vs hvs => by rw [hvs] at htu; cases htu)
  rw [valCells_eq (ρ x)] at hone
  refine does_new (c := (ρ x).cells) (e := e) hr ?_ ?_ hone
  ·simp [Instr.box, newVar, newRow]
  ·rw [← valCells_eq]; exact hxr.isAgg
 ·cases hx
theorem zeroOf_some {e : TypeId} {zs : List Value} (hz : zeroOf P e = some zs) : ∃ i z, P.info? e = some i ∧ i.zero = some z ∧ valCells z = zs ∧ zs.length = i.size ∧ zs.all constOk = true := by
 unfold zeroOf at hz
 split at hz
 ·rename_i i hi
  split at hz
  ·rename_i z hzz
   split at hz
   ·rename_i hc
    injection hz with hz
    subst hz
    exact ⟨i, z, hi, hzz, rfl, hc.1, hc.2⟩
   ·cases hz
  ·cases hz
 ·cases hz
theorem const_one {x : Value} (hx : constOk x = true) : x.oneCell' = true := by
 unfold constOk at hx
 split at hx <;> first | rfl | cases hx
theorem op_alloc {e : TypeId} {zs : List Value} (hr : Rel ι h w) (hz : zeroOf P e = some zs) (hx : aOp (.alloc zs) t h = some (v, h')) :
 Does P (execOp ρ ⟨d, .alloc e, ty, pos, af, g⟩) ι h w v h' := by
 simp only [aOp] at hx
 injection hx with hx
 injection hx with h1 h2
 subst h1 h2
 obtain ⟨i, z, hi, hzz, hv, hl, hc⟩ := zeroOf_some hz
 subst hv
 refine does_new (c := z.cells) (e := e) hr ?_ ?_ ?_
 ·simp [Instr.alloc, run_zero hi hzz, newVar, newRow]
 ·rw [← valCells_eq]; exact const_crel hc
 ·rw [← valCells_eq]; exact fun u hu => const_one (List.all_eq_true.1 hc u hu)
end
end Go.Wb
namespace Go.Wb
open Go
section
variable {P : Program} {ι : Inj} {h h' : Heap} {w : World} {t : T} {ρ : Operand → Value} {v : Value} {d : Option Tmp} {ty : TypeId} {pos : String} {af : Array Edge} {g : Option (Nat × Bool)}
theorem op_move {x : Operand} (hr : Rel ι h w) (he : ERel ι h.length t ρ) (hox : operOk x = true) (hx : aOp (.move x) t h = some (v, h')) :
 Does P (execOp ρ ⟨d, .move x, ty, pos, af, g⟩) ι h w v h' := by
 simp only [aOp] at hx
 injection hx with hx
 injection hx with h1 h2
 subst h1 h2
 exact ⟨ι, ρ x, w, .value (ρ x), rfl, .inl rfl, .refl hr, he x hox⟩
theorem op_assign {x : Operand} (hr : Rel ι h w) (he : ERel ι h.length t ρ) (hox : operOk x = true) (hx : aOp (.move x) t h = some (v, h')) :
 Does P (execOp ρ ⟨d, .assign x, ty, pos, af, g⟩) ι h w v h' := op_move (d := d) (ty := ty) (pos := pos) (af := af) (g := g) hr he hox hx
theorem op_pick {c a b : Operand} (hr : Rel ι h w) (he : ERel ι h.length t ρ) (hc : operOk c = true) (ha : operOk a = true) (hb : operOk b = true) (hx : aOp (.pick c a b) t h = some (v, h')) :
 Does P (execOp ρ ⟨d, .pick c a b, ty, pos, af, g⟩) ι h w v h' := by
 simp only [aOp] at hx
 have hcr := he c hc
 split at hx
 ·rename_i heq
  rw [heq] at hcr
  injection hx with hx
  injection hx with h1 h2
  subst h1 h2
  refine ⟨ι, ρ a, w, .value (ρ a), ?_, .inl rfl, .refl hr, he a ha⟩
  simp [execOp, hcr.bool_inv, asBool]
 ·rename_i heq
  rw [heq] at hcr
  injection hx with hx
  injection hx with h1 h2
  subst h1 h2
  refine ⟨ι, ρ b, w, .value (ρ b), ?_, .inl rfl, .refl hr, he b hb⟩
  simp [execOp, hcr.bool_inv, asBool]
 ·cases hx
theorem op_nilCheck {x : Operand} (hr : Rel ι h w) (he : ERel ι h.length t ρ) (hox : operOk x = true) (hx : aOp (.nilCheck x) t h = some (v, h')) :
 Does P (execOp ρ ⟨d, .nilCheck x, ty, pos, af, g⟩) ι h w v h' := by
 simp only [aOp] at hx
 have hxr := he x hox
 split at hx
 ·rename_i a heq
  injection hx with hx
  injection hx with h1 h2
  subst h1 h2
  rw [heq] at hxr
  generalize hy : ρ x = y at hxr
  cases hxr with
  | ptr b o hb =>
    refine ⟨ι, _, w, .value _, ?_, .inl rfl, .refl hr, .ptr b o hb⟩
    simp [execOp, hy]
 ·rename_i f a c heq
  injection hx with hx
  injection hx with h1 h2
  subst h1 h2
  rw [heq] at hxr
  obtain ⟨f', c', hy, _, _⟩ := hxr.func_inv
  refine ⟨ι, ρ x, w, .value (ρ x), ?_, .inl rfl, .refl hr, hxr⟩
  simp [execOp, hy]
 ·cases hx
theorem op_un {op : UnOp} {x : Operand} {e : TypeId} (hr : Rel ι h w) (he : ERel ι h.length t ρ) (hox : operOk x = true) (hx : aOp (.un op x) t h = some (v, h')) :
 Does P (execOp ρ ⟨d, .unOp op e x, ty, pos, af, g⟩) ι h w v h' := by
 simp only [aOp, Option.map_eq_some_iff] at hx
 obtain ⟨v1, hv, hx⟩ := hx
 injection hx with h1 h2
 subst h1 h2
 obtain ⟨q1, q2⟩ := aUn_sound (P := P) (w := w) hv (he x hox)
 exact Does.pure hr q1 q2
theorem op_convInt {k : IntKind} {x : Operand} {e e' : TypeId} {u : TypeDesc} (hr : Rel ι h w) (he : ERel ι h.length t ρ) (hox : operOk x = true) (hu : P.underlying e = some u) (hk : P.underlying e' = some (.int k)) (hx : aOp (.convInt k x) t h = some (v, h')) :
 Does P (execOp ρ ⟨d, .convert e e' x, ty, pos, af, g⟩) ι h w v h' := by
 simp only [aOp] at hx
 have hxr := he x hox
 split at hx
 ·rename_i k' n heq
  injection hx with hx
  injection hx with h1 h2
  subst h1 h2
  rw [heq] at hxr
  refine Does.pure hr (v' := .int k (k.wrap n)) ?_ (.int _ _)
  rw [hxr.int_inv]
  simp [convert, run_under hu, run_under hk, Conv.intToInt]
 ·cases hx
theorem op_convStr {x : Operand} {e e' : TypeId} (hr : Rel ι h w) (he : ERel ι h.length t ρ) (hox : operOk x = true) (hu : P.underlying e = some .string) (hk : P.underlying e' = some .string) (hx : aOp (.convStr x) t h = some (v, h')) :
 Does P (execOp ρ ⟨d, .convert e e' x, ty, pos, af, g⟩) ι h w v h' := by
 simp only [aOp] at hx
 have hxr := he x hox
 split at hx
 ·rename_i s heq
  injection hx with hx
  injection hx with h1 h2
  subst h1 h2
  rw [heq] at hxr
  refine Does.pure hr (v' := .string s) ?_ (.string _)
  rw [hxr.string_inv]
  simp [convert, run_under hu, run_under hk]
 ·cases hx
theorem op_iface {x : Operand} {e : TypeId} {u : TypeDesc} (hr : Rel ι h w) (he : ERel ι h.length t ρ) (hox : operOk x = true) (hu : P.underlying e = some u) (hn : ∀ ms, u ≠ .interface ms) (hx : aOp (.iface e x) t h = some (v, h')) :
 Does P (execOp ρ ⟨d, .makeInterface e x, ty, pos, af, g⟩) ι h w v h' := by
 simp only [aOp] at hx
 injection hx with hx
 injection hx with h1 h2
 subst h1 h2
 refine Does.pure hr (v' := .iface e (ρ x)) ?_ (.iface _ _ _ (he x hox))
 simp only [Instr.makeInterface, Sem.run_bind, run_under hu, Result.andThen_ok]
 rfl
theorem op_fieldAddr {x : Operand} {s : TypeId} {f : Nat} {fs : Array Field} {fd : Field} {j : TypeInfo} (hr : Rel ι h w) (he : ERel ι h.length t ρ) (hox : operOk x = true) (hs : P.underlying s = some (.struct fs)) (hf : fs[f]? = some fd)
 (hi : P.info? fd.type = some j) (hj : 1 ≤ j.size) (hx : aOp (.fieldAddr fd.offset x) t h = some (v, h')) :
 Does P (execOp ρ ⟨d, .fieldAddr s x f, ty, pos, af, g⟩) ι h w v h' := by
 simp only [aOp] at hx
 have hxr := he x hox
 split at hx
 ·rename_i b o heq
  injection hx with hx
  injection hx with h1 h2
  subst h1 h2
  rw [heq] at hxr
  obtain ⟨hb, hp⟩ := hxr.ptr_inv
  refine Does.pure hr (v' := .pointer (some ⟨(ι b).blk, (ι b).off + (o + fd.offset), none⟩)) ?_ (.ptr b _ hb)
  rw [hp]
  simp only [Instr.fieldAt, Sem.run_bind, run_under hs, Result.andThen_ok, hf, Instr.sureAddr, fieldPlace, pure_bind, run_size hi, Sem.run_ite, Sem.run_pure]
  rw [if_neg (by omega)]
  simp only [Result.andThen_ok, addr_add, Nat.add_assoc]
 ·cases hx
theorem op_field {x : Operand} {s : TypeId} {f : Nat} {fs : Array Field} {fd : Field} {n : Option Nat} (hr : Rel ι h w) (he : ERel ι h.length t ρ) (hox : operOk x = true) (hs : P.underlying s = some (.struct fs)) (hf : fs[f]? = some fd)
 (ha : aggN P fd.type = some n) (hx : aOp (.field n fd.offset x) t h = some (v, h')) :
 Does P (execOp ρ ⟨d, .field s x f, ty, pos, af, g⟩) ι h w v h' := by
 simp only [aOp] at hx
 have hxr := he x hox
 split at hx
 ·rename_i cs heq
  rw [Option.map_eq_some_iff] at hx
  obtain ⟨v1, hv, hx⟩ := hx
  injection hx with h1 h2
  subst h1 h2
  rw [heq] at hxr
  obtain ⟨cs', hp, hc, hone⟩ := hxr.agg_inv
  obtain ⟨v', hv', hvr⟩ := crel_get hc hv
  obtain ⟨i, u, hi, hu, hag⟩ := aggN_none ha
  refine Does.pure hr (v' := v') ?_ hvr
  rw [hp]
  simp only [Instr.field, Sem.run_bind, run_under hs, Result.andThen_ok, hf, asAgg, pure_bind, part, run_isAgg hu, hag, Bool.false_eq_true, if_false]
  rw [Array.getElem?_toList] at hv'
  rw [hv']
  rfl
 ·rename_i cs m heq
  injection hx with hx
  injection hx with h1 h2
  subst h1 h2
  rw [heq] at hxr
  obtain ⟨cs', hp, hc, hone⟩ := hxr.agg_inv
  obtain ⟨i, u, hi, hu, hag, hsz⟩ := aggN_some ha
  refine Does.pure hr (v' := .agg ((cs'.toList.drop fd.offset).take m).toArray) ?_ (agg_crel (crel_take (crel_drop hc _) _) (fun u hu => hone u (by simpa using List.mem_of_mem_drop (List.mem_of_mem_take hu))))
  rw [hp]
  simp only [Instr.field, Sem.run_bind, run_under hs, Result.andThen_ok, hf, asAgg, pure_bind, part, run_isAgg hu, hag, if_true, run_size hi, hsz, Sem.run_pure]
  congr 2
  apply Array.ext'
  simp [List.take_drop]
 ·cases hx
theorem op_idxAddrArr {x i : Operand} {s e : TypeId} {n : Nat} {j : TypeInfo} (hr : Rel ι h w) (he : ERel ι h.length t ρ) (hox : operOk x = true) (hoi : operOk i = true) (hs : P.underlying s = some (.array n e)) (hj : P.info? e = some j)
 (hx : aOp (.idxAddrArr n j.size x i) t h = some (v, h')) :
 Does P (execOp ρ ⟨d, .indexAddr s x i, ty, pos, af, g⟩) ι h w v h' := by
 simp only [aOp] at hx
 have hxr := he x hox
 have hir := he i hoi
 split at hx
 ·rename_i b o k i' heq heq2
  split at hx
  ·rename_i hc
   injection hx with hx
   injection hx with h1 h2
   subst h1 h2
   rw [heq] at hxr
   rw [heq2] at hir
   obtain ⟨hb, hp⟩ := hxr.ptr_inv
   refine Does.pure hr (v' := .pointer (some ⟨(ι b).blk, (ι b).off + (o + i'.toNat * j.size), none⟩)) ?_ (.ptr b _ hb)
   rw [hp, hir.int_inv]
   simp only [Instr.indexAt, asIntOf, pure_bind, Sem.run_bind, run_under hs, Result.andThen_ok, Instr.sureAddr]
   rw [if_pos hc]
   simp only [Sem.run_bind, run_size hj, Result.andThen_ok, Sem.run_pure, addr_add, Nat.add_assoc]
  ·cases hx
 ·cases hx
theorem op_idxAddrSl {x i : Operand} {s e : TypeId} {j : TypeInfo} (hr : Rel ι h w) (he : ERel ι h.length t ρ) (hox : operOk x = true) (hoi : operOk i = true) (hs : P.underlying s = some (.slice e)) (hj : P.info? e = some j)
 (hx : aOp (.idxAddrSl j.size x i) t h = some (v, h')) :
 Does P (execOp ρ ⟨d, .indexAddr s x i, ty, pos, af, g⟩) ι h w v h' := by
 simp only [aOp] at hx
 have hxr := he x hox
 have hir := he i hoi
 split at hx
 ·rename_i b o n sz k i' heq heq2
  split at hx
  ·rename_i hc
   injection hx with hx
   injection hx with h1 h2
   subst h1 h2
   rw [heq] at hxr
   rw [heq2] at hir
   obtain ⟨hb, a, cap, hp, hl, hcap⟩ := hxr.slice_inv
   have hc3 := hcap (by omega)
   clear hcap
   obtain ⟨o', rfl, ho, hcap⟩ := hc3
   refine Does.pure hr (v' := .pointer (some ⟨(ι b).blk, (ι b).off + (o + i'.toNat * j.size), none⟩)) ?_ (.ptr b _ hb)
   rw [hp, hir.int_inv]
   simp only [Instr.indexAt, asIntOf, pure_bind, Sem.run_bind, run_under hs, Result.andThen_ok]
   rw [if_pos hc.2]
   simp only [Sem.run_bind, run_size hj, Result.andThen_ok, Sem.run_pure, addr_add]
   rw [ho (by omega), Nat.add_assoc]
  ·cases hx
 ·cases hx
theorem op_slArr {x : Operand} {s e : TypeId} {n sz : Nat} (hr : Rel ι h w) (he : ERel ι h.length t ρ) (hox : operOk x = true) (hs : P.underlying s = some (.array n e))
 (hx : aOp (.slArr n sz x) t h = some (v, h')) :
 Does P (execOp ρ ⟨d, .sliceToArrayPointer s x, ty, pos, af, g⟩) ι h w v h' := by
 simp only [aOp] at hx
 have hxr := he x hox
 split at hx
 ·rename_i b o m sz' heq
  split at hx
  ·rename_i hc
   injection hx with hx
   injection hx with h1 h2
   subst h1 h2
   rw [heq] at hxr
   obtain ⟨hb, a, cap, hp, hl, hcap⟩ := hxr.slice_inv
   have hc3 := hcap (by omega)
   clear hcap
   obtain ⟨o', rfl, ho, hcap⟩ := hc3
   refine Does.pure hr (v' := .pointer (some ⟨(ι b).blk, (ι b).off + o, none⟩)) ?_ (.ptr b _ hb)
   rw [hp]
   simp only [Instr.arrayAt, pure_bind, Sem.run_bind, run_under hs, Result.andThen_ok]
   rw [if_neg (by omega)]
   simp only [Sem.run_pure]
   rw [ho (by omega)]
  ·cases hx
 ·cases hx
theorem op_idxStr {x i : Operand} {s : TypeId} (hr : Rel ι h w) (he : ERel ι h.length t ρ) (hox : operOk x = true) (hoi : operOk i = true) (hs : P.underlying s = some .string)
 (hx : aOp (.idxStr x i) t h = some (v, h')) :
 Does P (execOp ρ ⟨d, .index s x i, ty, pos, af, g⟩) ι h w v h' := by
 simp only [aOp] at hx
 have hxr := he x hox
 have hir := he i hoi
 split at hx
 ·rename_i str k i' heq heq2
  split at hx
  ·rename_i hc
   rw [Option.map_eq_some_iff] at hx
   obtain ⟨b, hb, hx⟩ := hx
   injection hx with h1 h2
   subst h1 h2
   rw [heq] at hxr
   rw [heq2] at hir
   refine Does.pure hr (v' := .int .u8 b.toNat) ?_ (.int _ _)
   rw [hxr.string_inv, hir.int_inv]
   simp only [Instr.index, asIntOf, pure_bind, Sem.run_bind, run_under hs, Result.andThen_ok]
   rw [if_pos hc]
   have : str[i'.toNat]? = some b := by
    rw [Array.getElem?_toList] at hb
    rw [← hb]
    simp only [getElem?_def]
    rfl
   rw [this]
   rfl
  ·cases hx
 ·cases hx
theorem op_idxArr {x i : Operand} {s e : TypeId} {n : Nat} {j : TypeInfo} {m : Option Nat} (hr : Rel ι h w) (he : ERel ι h.length t ρ) (hox : operOk x = true) (hoi : operOk i = true) (hs : P.underlying s = some (.array n e)) (hj : P.info? e = some j) (ha : aggN P e = some m)
 (hx : aOp (.idxArr n j.size m x i) t h = some (v, h')) :
 Does P (execOp ρ ⟨d, .index s x i, ty, pos, af, g⟩) ι h w v h' := by
 simp only [aOp] at hx
 have hxr := he x hox
 have hir := he i hoi
 split at hx
 ·rename_i cs k i' heq heq2
  split at hx
  ·rename_i hc
   rw [Option.map_eq_some_iff] at hx
   obtain ⟨b, hb, hx⟩ := hx
   injection hx with h1 h2
   subst h1 h2
   rw [heq] at hxr
   rw [heq2] at hir
   obtain ⟨cs', hp, hcr, hone⟩ := hxr.agg_inv
   obtain ⟨v', hv', hvr⟩ := crel_get hcr hb
   obtain ⟨i2, u, hi, hu, hag⟩ := aggN_none ha
   refine Does.pure hr (v' := v') ?_ hvr
   rw [hp, hir.int_inv]
   simp only [Instr.index, asIntOf, pure_bind, Sem.run_bind, run_under hs, Result.andThen_ok]
   rw [if_pos hc]
   simp only [Sem.run_bind, run_size hj, Result.andThen_ok, part, run_isAgg hu, hag, Bool.false_eq_true, if_false]
   rw [Array.getElem?_toList] at hv'
   rw [hv']
   rfl
  ·cases hx
 ·rename_i cs k i' m' heq heq2
  split at hx
  ·rename_i hc
   injection hx with hx
   injection hx with h1 h2
   subst h1 h2
   rw [heq] at hxr
   rw [heq2] at hir
   obtain ⟨cs', hp, hcr, hone⟩ := hxr.agg_inv
   obtain ⟨i2, u, hi, hu, hag, hsz⟩ := aggN_some ha
   rw [hj] at hi
   injection hi with hi
   subst hi
   refine Does.pure hr (v' := .agg ((cs'.toList.drop (i'.toNat * j.size)).take m').toArray) ?_ (agg_crel (crel_take (crel_drop hcr _) _) (fun u hu => hone u (by simpa using List.mem_of_mem_drop (List.mem_of_mem_take hu))))
   rw [hp, hir.int_inv]
   simp only [Instr.index, asIntOf, pure_bind, Sem.run_bind, run_under hs, Result.andThen_ok]
   rw [if_pos hc]
   simp only [Sem.run_bind, run_size hj, Result.andThen_ok, part, run_isAgg hu, hag, if_true, hsz, Sem.run_pure]
   congr 2
   apply Array.ext'
   simp [List.take_drop]
  ·cases hx
 ·cases hx
theorem op_extract {x : Operand} {i : Nat} (hr : Rel ι h w) (he : ERel ι h.length t ρ) (hox : operOk x = true) (hx : aOp (.extract x i) t h = some (v, h')) :
 Does P (execOp ρ ⟨d, .extract x i, ty, pos, af, g⟩) ι h w v h' := by
 simp only [aOp] at hx
 have hxr := he x hox
 split at hx
 ·rename_i vs heq
  rw [Option.map_eq_some_iff] at hx
  obtain ⟨v1, hv, hx⟩ := hx
  injection hx with h1 h2
  subst h1 h2
  rw [heq] at hxr
  obtain ⟨vs', hp, hc⟩ := hxr.tuple_inv
  obtain ⟨v', hv', hvr⟩ := crel_get hc hv
  refine Does.pure hr (v' := v') ?_ hvr
  rw [hp]
  rw [Array.getElem?_toList] at hv'
  simp only [Instr.extract, hv']
  rfl
 ·cases hx
end
end Go.Wb
namespace Go.Wb
open Go
section
variable {P : Program} {ι : Inj} {h h' : Heap} {w : World} {t : T} {ρ : Operand → Value} {v : Value} {d : Option Tmp} {ty : TypeId} {pos : String} {af : Array Edge} {g : Option (Nat × Bool)}
theorem bound_hi {n : Nat} {dflt m hh : Nat} {x : Operand} {code : BoundsCode} (he : ERel ι n t ρ) (hox : operOk x = true) (hb : bound t dflt m (some x) = some hh) {m' : Nat} (hm : m ≤ m') :
 (Instr.sliceBound (ρ x) m' code).run P w = .ok hh w ∧ hh ≤ m := by
 unfold bound at hb
 have hxr := he x hox
 simp only at hb
 split at hb
 ·rename_i k i heq
  split at hb
  ·rename_i hc
   injection hb with hb
   subst hb
   rw [heq] at hxr
   rw [hxr.int_inv]
   refine ⟨?_, by omega⟩
   simp only [Instr.sliceBound, asIntOf, pure_bind]
   rw [if_pos (by omega)]
   rfl
  ·cases hb
 ·cases hb
theorem bound_none {dflt m hh : Nat} (hb : bound t dflt m none = some hh) : hh = dflt ∧ dflt ≤ m := by
 simp only [bound] at hb
 split at hb
 ·injection hb with hb
  exact ⟨hb.symm, by assumption⟩
 ·cases hb
theorem bounds_sound {n : Nat} {isSlice : Bool} {len cap hh l : Nat} {lo hi : Option Operand} (he : ERel ι n t ρ) (ol : ∀ x, lo = some x → operOk x = true) (oh : ∀ x, hi = some x → operOk x = true) (hcap : len ≤ cap)
 (h1 : bound t len len hi = some hh) (h2 : bound t 0 hh lo = some l) :
 (Instr.sliceBounds isSlice len cap (lo.map ρ) (hi.map ρ) none).run P w = .ok (l, hh, cap) w ∧ l ≤ hh ∧ hh ≤ len := by
 have e1 : ∃ (r : hh ≤ len), (match hi.map ρ with | some v => Instr.sliceBound v cap (if isSlice = true then .sliceAcap else .sliceAlen) | none => Pure.pure len : Sem Nat).run P w = .ok hh w := by
  cases hi with
  | none =>
    obtain ⟨q1, q2⟩ := bound_none h1
    subst q1
    exact ⟨q2, rfl⟩
  | some x =>
    obtain ⟨q1, q2⟩ := bound_hi (P := P) (w := w) (code := if isSlice = true then .sliceAcap else .sliceAlen) he (oh x rfl) h1 hcap
    exact ⟨q2, q1⟩
 obtain ⟨hle, e1⟩ := e1
 have e2 : ∃ (r : l ≤ hh), (match lo.map ρ with | some v => Instr.sliceBound v hh .sliceB | none => Pure.pure 0 : Sem Nat).run P w = .ok l w := by
  cases lo with
  | none =>
    obtain ⟨q1, q2⟩ := bound_none h2
    subst q1
    exact ⟨q2, rfl⟩
  | some x =>
    obtain ⟨q1, q2⟩ := bound_hi (P := P) (w := w) (code := .sliceB) he (ol x rfl) h2 (Nat.le_refl _)
    exact ⟨q2, q1⟩
 obtain ⟨hle2, e2⟩ := e2
 refine ⟨?_, hle2, hle⟩
 unfold Instr.sliceBounds
 cases hi <;> cases lo <;> simp only [Option.map_some, Option.map_none, pure_bind, Sem.run_bind, Sem.run_pure] at e1 e2 ⊢ <;>
  first
  | (injection e1 with e1; injection e2 with e2; subst e1 e2; simp)
  | (injection e1 with e1; subst e1; simp [e2])
  | (injection e2 with e2; subst e2; simp [e1])
  | simp [e1, e2]
theorem op_sliceSl {x : Operand} {lo hi : Option Operand} {s e : TypeId} {j : TypeInfo} (hr : Rel ι h w) (he : ERel ι h.length t ρ) (hox : operOk x = true) (ol : ∀ x, lo = some x → operOk x = true) (oh : ∀ x, hi = some x → operOk x = true)
 (hs : P.underlying s = some (.slice e)) (hj : P.info? e = some j) (hx : aOp (.sliceSl j.size x lo hi) t h = some (v, h')) :
 Does P (execOp ρ ⟨d, .slice s x lo hi none, ty, pos, af, g⟩) ι h w v h' := by
 simp only [aOp] at hx
 have hxr := he x hox
 split at hx
 ·rename_i heq
  rw [heq] at hxr
  split at hx
  ·rename_i hh hb1
   split at hx
   ·rename_i l hb2
    injection hx with hx
    injection hx with h1 h2
    subst h1 h2
    obtain ⟨_, _, hp⟩ := hxr.nilSlice_inv
    obtain ⟨hrun, q1, q2⟩ := bounds_sound (P := P) (w := w) (isSlice := true) he ol oh (Nat.le_refl 0) hb1 hb2
    have z1 : hh = 0 := by omega
    have z2 : l = 0 := by omega
    subst z1 z2
    refine Does.pure hr (v' := .slice none 0 0) ?_ .nilSlice
    rw [hp]
    simp only [Instr.sliceAt, Sem.run_bind, run_under hs, Result.andThen_ok, Instr.slice, Option.map_none, hrun, run_size hj, Sem.run_pure]
    simp
   ·cases hx
  ·cases hx
 ·rename_i b o n sz heq
  split at hx
  ·rename_i hsz
   split at hx
   ·rename_i hh hb1
    split at hx
    ·rename_i l hb2
     injection hx with hx
     injection hx with h1 h2
     subst h1 h2
     rw [heq] at hxr
     obtain ⟨hb, a, cap, hp, hl, hcap⟩ := hxr.slice_inv
     obtain ⟨hrun, q1, q2⟩ := bounds_sound (P := P) (w := w) (isSlice := true) he ol oh hl hb1 hb2
     refine Does.pure hr (v' := .slice (some (if cap = l then a else a.add (l * j.size))) (hh - l) (cap - l)) ?_ ?_
     ·rw [hp]
      simp only [Instr.sliceAt, Sem.run_bind, run_under hs, Result.andThen_ok, Instr.slice, Option.map_none, hrun, run_size hj, Sem.run_pure]
      split
      ·rfl
      ·rfl
     ·refine .slice b _ _ _ _ _ hb (by omega) fun hpos => ?_
      have hc3 := hcap (by omega)
      clear hcap
      obtain ⟨o', rfl, ho, hc2⟩ := hc3
      rw [if_neg (by omega)]
      refine ⟨o' + l * j.size, addr_add _ _ _, ?_, ?_⟩
      ·intro hp2
       rw [ho (by omega)]
       omega
      ·rcases hsz with rfl | rfl
       ·have : l * j.size + (cap - l) * j.size = cap * j.size := by rw [← Nat.add_mul]; congr 1; omega
        omega
       ·have hl0 : l = 0 := by omega
        subst hl0
        simpa using hc2
    ·cases hx
   ·cases hx
  ·cases hx
 ·cases hx
theorem op_sliceStr {x : Operand} {lo hi : Option Operand} {s : TypeId} (hr : Rel ι h w) (he : ERel ι h.length t ρ) (hox : operOk x = true) (ol : ∀ x, lo = some x → operOk x = true) (oh : ∀ x, hi = some x → operOk x = true)
 (hs : P.underlying s = some .string) (hx : aOp (.sliceStr x lo hi) t h = some (v, h')) :
 Does P (execOp ρ ⟨d, .slice s x lo hi none, ty, pos, af, g⟩) ι h w v h' := by
 simp only [aOp] at hx
 have hxr := he x hox
 split at hx
 ·rename_i str heq
  rw [heq] at hxr
  split at hx
  ·rename_i hh hb1
   split at hx
   ·rename_i l hb2
    injection hx with hx
    injection hx with h1 h2
    subst h1 h2
    obtain ⟨hrun, q1, q2⟩ := bounds_sound (P := P) (w := w) (isSlice := false) he ol oh (Nat.le_refl str.size) hb1 hb2
    refine Does.pure hr (v' := .string (str.extract l hh)) ?_ (.string _)
    rw [hxr.string_inv]
    simp only [Instr.sliceAt, Sem.run_bind, run_under hs, Result.andThen_ok, Instr.slice, Option.map_none, Option.isSome_none, Bool.false_eq_true, if_false, hrun, Sem.run_pure]
   ·cases hx
  ·cases hx
 ·cases hx
theorem op_sliceArr {x : Operand} {lo hi : Option Operand} {s e : TypeId} {n : Nat} {j : TypeInfo} (hr : Rel ι h w) (he : ERel ι h.length t ρ) (hox : operOk x = true) (ol : ∀ x, lo = some x → operOk x = true) (oh : ∀ x, hi = some x → operOk x = true)
 (hs : P.underlying s = some (.array n e)) (hj : P.info? e = some j) (hx : aOp (.sliceArr n j.size x lo hi) t h = some (v, h')) :
 Does P (execOp ρ ⟨d, .slice s x lo hi none, ty, pos, af, g⟩) ι h w v h' := by
 simp only [aOp] at hx
 have hxr := he x hox
 split at hx
 ·rename_i b o heq
  rw [heq] at hxr
  obtain ⟨hb, hp⟩ := hxr.ptr_inv
  split at hx
  ·rename_i ro cs hcs
   split at hx
   ·rename_i hle
    split at hx
    ·rename_i hh hb1
     split at hx
     ·rename_i l hb2
      injection hx with hx
      injection hx with h1 h2
      subst h1 h2
      obtain ⟨hrun, q1, q2⟩ := bounds_sound (P := P) (w := w) (isSlice := false) he ol oh (Nat.le_refl n) hb1 hb2
      have hfit := hr.fits b ro cs hcs
      refine Does.pure hr (v' := .slice (some ⟨(ι b).blk, if n = l then (ι b).off + o else (ι b).off + o + l * j.size, none⟩) (hh - l) (n - l)) ?_ ?_
      ·rw [hp]
       simp only [Instr.sliceAt, Sem.run_bind, run_under hs, Result.andThen_ok, Instr.sureAddr, pure_bind, Option.map_none, hrun, run_size hj, Sem.run_pure]
       split
       ·rfl
       ·simp [addr_add]
      ·refine .mkSlice b _ _ _ _ _ hb ?_ (by omega) ?_
       ·intro hpos
        rw [if_neg (by omega)]
        omega
       ·split
        ·rename_i hcl
         subst hcl
         simp
         have : 0 ≤ n * j.size := Nat.zero_le _
         omega
        ·have : l * j.size + (n - l) * j.size = n * j.size := by rw [← Nat.add_mul]; congr 1; omega
         omega
     ·cases hx
    ·cases hx
   ·cases hx
  ·cases hx
 ·cases hx
theorem op_func {fn : Fn} {f c : Array Operand} (hr : Rel ι h w) (he : ERel ι h.length t ρ) (hf : ∀ x ∈ f.toList, operOk x = true) (hc : ∀ x ∈ c.toList, operOk x = true) (hx : aOp (.func fn f.toList c.toList) t h = some (v, h')) :
 Does P (execOp ρ ⟨d, .makeFunc fn f c, ty, pos, af, g⟩) ι h w v h' := by
 simp only [aOp] at hx
 injection hx with hx
 injection hx with h1 h2
 subst h1 h2
 have key : ∀ (l : Array Operand), (∀ x ∈ l.toList, operOk x = true) → ∀ i, VRel ι h.length ((l.toList.map (Ev t)).toArray.getD i undef) ((l.map ρ).getD i undef) := by
  intro l hl i
  rcases Nat.lt_or_ge i l.size with h1 | h1
  ·have e1 : (l.toList.map (Ev t)).toArray.getD i undef = Ev t l[i] := by simp [Array.getD, h1]
   have e2 : (l.map ρ).getD i undef = ρ l[i] := by simp [Array.getD, h1]
   rw [e1, e2]
   exact he _ (hl _ (by simp))
  ·have e1 : (l.toList.map (Ev t)).toArray.getD i undef = undef := by simp [Array.getD, Nat.not_lt.2 h1]
   have e2 : (l.map ρ).getD i undef = undef := by simp [Array.getD, Nat.not_lt.2 h1]
   rw [e1, e2]
   exact .undef
 refine Does.pure hr (v' := .func fn (f.map ρ) (c.map ρ)) rfl (.func _ _ _ _ _ (by simp) (by simp) (key f hf) (key c hc))
theorem op_bin {op : BinOp} {x y : Operand} {e e' : TypeId} (hr : Rel ι h w) (he : ERel ι h.length t ρ) (hox : operOk x = true) (hoy : operOk y = true) (hx : aOp (.bin op x y) t h = some (v, h')) :
 Does P (execOp ρ ⟨d, .binOp op e x y e', ty, pos, af, g⟩) ι h w v h' := by
 simp only [aOp, Option.map_eq_some_iff] at hx
 obtain ⟨v1, hv, hx⟩ := hx
 injection hx with h1 h2
 subst h1 h2
 obtain ⟨q1, q2⟩ := aBin_sound (P := P) (w := w) (ty := e) (ox := x) (oy := y) hv (he x hox) (he y hoy)
 exact Does.pure hr q1 q2
theorem op_binB {op : BinOp} {x y : Operand} {e e' : TypeId} (hr : Rel ι h w) (he : ERel ι h.length t ρ) (hox : operOk x = true) (hoy : operOk y = true) (hu : P.underlying e = some .bool) (hx : aOp (.binB op x y) t h = some (v, h')) :
 Does P (execOp ρ ⟨d, .binOp op e x y e', ty, pos, af, g⟩) ι h w v h' := by
 simp only [aOp, Option.map_eq_some_iff] at hx
 obtain ⟨v1, hv, hx⟩ := hx
 injection hx with h1 h2
 subst h1 h2
 obtain ⟨q1, q2⟩ := aBinB_sound (P := P) (w := w) (ty := e) (ox := x) (oy := y) hu hv (he x hox) (he y hoy)
 exact Does.pure hr q1 q2
theorem op_eqv {neg : Bool} {ks : List CK} {x y : Operand} {e e' : TypeId} (hr : Rel ι h w) (he : ERel ι h.length t ρ) (hox : operOk x = true) (hoy : operOk y = true)
 (hk : plainKinds P 8 e = some ks) (hg : P.eqGuardType P.depth e = false) (ha : isAggT P e = true) (hx : aOp (.eqv neg ks x y) t h = some (v, h')) :
 Does P (execOp ρ ⟨d, .binOp (if neg then .neq else .eql) e x y e', ty, pos, af, g⟩) ι h w v h' := by
 simp only [aOp, Option.map_eq_some_iff] at hx
 obtain ⟨v1, hv, hx⟩ := hx
 injection hx with h1 h2
 subst h1 h2
 exact Does.pure hr (aEq_sound (P := P) (w := w) (ox := x) (oy := y) hk hg ha hv (he x hox) (he y hoy) neg) (.bool _)
theorem equalIn_slice_nil (D : Nat) {e : TypeId} {el : TypeId} (hu : P.underlying e = some (.slice el)) (a : Option Addr) (n m : Nat) : (Op.equalIn (D + 1) e (.slice a n m) (.slice none 0 0)).run P w = .ok a.isNone w := by
 simp only [Op.equalIn, Sem.run_bind, run_under hu, Result.andThen_ok]
 cases a <;> rfl
theorem equalIn_nil_slice (D : Nat) {e : TypeId} {el : TypeId} (hu : P.underlying e = some (.slice el)) (a : Option Addr) (n m : Nat) : (Op.equalIn (D + 1) e (.slice none 0 0) (.slice a n m)).run P w = .ok a.isNone w := by
 simp only [Op.equalIn, Sem.run_bind, run_under hu, Result.andThen_ok]
 cases a <;> rfl
theorem equal_slice_nil {e : TypeId} {el : TypeId} (hu : P.underlying e = some (.slice el)) (a : Option Addr) (n m : Nat) : (Op.equal e (.slice a n m) (.slice none 0 0)).run P w = .ok a.isNone w :=
 equalIn_slice_nil 9999 hu a n m
theorem equal_nil_slice {e : TypeId} {el : TypeId} (hu : P.underlying e = some (.slice el)) (a : Option Addr) (n m : Nat) : (Op.equal e (.slice none 0 0) (.slice a n m)).run P w = .ok a.isNone w :=
 equalIn_nil_slice 9999 hu a n m
theorem op_nilv {neg left : Bool} {x : Operand} {e e' el : TypeId} (hr : Rel ι h w) (he : ERel ι h.length t ρ) (hox : operOk x = true) (hu : P.underlying e = some (.slice el)) (hρ : ∀ v, ρ (.const v) = v)
 (hx : aOp (.nilv neg x) t h = some (v, h')) :
 Does P (execOp ρ ⟨d, .binOp (if neg then .neq else .eql) e (if left then .const (.slice none 0 0) else x) (if left then x else .const (.slice none 0 0)) e', ty, pos, af, g⟩) ι h w v h' := by
 have hxr := he x hox
 have key : ∀ (a : Option Addr) (n m : Nat), ρ x = .slice a n m → (do eqGuard (if neg then .neq else .eql) e (if left then .const (.slice none 0 0) else x) (if left then x else .const (.slice none 0 0)) (ρ (if left then .const (.slice none 0 0) else x)) (ρ (if left then x else .const (.slice none 0 0))); binOp (if neg then .neq else .eql) e (ρ (if left then .const (.slice none 0 0) else x)) (ρ (if left then x else .const (.slice none 0 0))) : Sem Value).run P w = .ok (.bool (neg != a.isNone)) w := by
  intro a n m hp
  cases left <;> cases neg <;> simp only [Bool.false_eq_true, if_false, if_true, hp, hρ, eqGuard_at_slice, pure_bind, binOp, Sem.run_bind, equal_slice_nil hu, equal_nil_slice hu, Result.andThen_ok, Sem.run_pure] <;> simp
 simp only [aOp] at hx
 split at hx
 ·rename_i n m heq
  injection hx with hx
  injection hx with h1 h2
  subst h1 h2
  rw [heq] at hxr
  obtain ⟨_, _, hp⟩ := hxr.nilSlice_inv
  exact Does.pure hr (key none 0 0 hp) (.bool _)
 ·rename_i a n m heq
  injection hx with hx
  injection hx with h1 h2
  subst h1 h2
  rw [heq] at hxr
  generalize hy : ρ x = y at hxr
  cases hxr with
  | slice b o len s a cap hb hl hc => exact Does.pure hr (key _ _ _ hy) (.bool _)
 ·cases hx
end
end Go.Wb
namespace Go.Wb
open Go
section
variable {P : Program} {ι : Inj} {h h' : Heap} {w : World} {t : T} {ρ : Operand → Value} {v : Value} {d : Option Tmp} {ty : TypeId} {pos : String} {af : Array Edge} {g : Option (Nat × Bool)}
theorem run_places (P : Program) (w : World) : ∀ (fs : List Field), (∀ f ∈ fs, (P.info? f.type).isSome = true) →
 (fs.mapM (fun f => do Pure.pure (f.offset, ← sizeOf f.type) : Field → Sem (Nat × Nat))).run P w = .ok (fs.map fun f => (f.offset, P.cellsOf f.type)) w
 | [], _ => by simp
 | f :: fs, hf => by
   obtain ⟨i, hi⟩ := Option.isSome_iff_exists.1 (hf f (by simp))
   have ih := run_places P w fs (fun g hg => hf g (by simp [hg]))
   simp only [List.mapM_cons, Sem.run_bind, run_size hi, Result.andThen_ok, Sem.run_pure, ih, List.map_cons]
   simp [Program.cellsOf, hi]
theorem op_build_struct {e : TypeId} {parts : Array (Nat × Operand)} {fs : Array Field} {zs : List Value} {l : List (Nat × Nat × Operand)} (hr : Rel ι h w) (he : ERel ι h.length t ρ) (hp : ∀ x ∈ parts.toList, operOk x.2 = true)
 (hz : zeroOf P e = some zs) (hu : P.underlying e = some (.struct fs)) (hl : partsOf P (fun i => (fs[i]?).bind fun f => (P.info? f.type).map fun j => (f.offset, j.size)) parts.toList = some l)
 (hi : fs.all (fun f => (P.info? f.type).isSome) = true) (hx : aOp (.build zs l) t h = some (v, h')) :
 Does P (execOp ρ ⟨d, .build e parts, ty, pos, af, g⟩) ι h w v h' := by
 simp only [aOp, Option.map_eq_some_iff] at hx
 obtain ⟨cs2, hv, hx⟩ := hx
 injection hx with h1 h2
 subst h1 h2
 obtain ⟨i, z, hii, hzz, hvz, hzl, hc⟩ := zeroOf_some hz
 subst hvz
 have hall : ∀ f ∈ fs.toList, (P.info? f.type).isSome = true := fun f hf => by
  have := Array.all_eq_true.1 hi
  obtain ⟨k, hk, rfl⟩ := List.getElem_of_mem hf
  simpa using this k (by simpa using hk)
 have hplace : (fun (i : Nat) => (fs[i]?).bind fun (f : Field) => (P.info? f.type).map fun j => (f.offset, j.size)) = fun (i : Nat) => (fs.map fun (f : Field) => (f.offset, P.cellsOf f.type))[i]? := by
  funext k
  rw [Array.getElem?_map]
  cases hk : fs[k]? with
  | none => rfl
  | some f =>
    have hm : f ∈ fs.toList := by
     have := Array.mem_of_getElem? hk
     simpa using this
    obtain ⟨j, hj⟩ := Option.isSome_iff_exists.1 (hall f hm)
    simp [hj, Program.cellsOf]
 rw [hplace] at hl
 obtain ⟨cells2, g1, g2, g3, g4⟩ := fill_sound he _ parts.toList l _ cs2 z.cells hl hp hv (by rw [← valCells_eq]; exact const_crel hc) (by rw [← valCells_eq]; exact fun u hu => const_one (List.all_eq_true.1 hc u hu))
 refine Does.pure hr (v' := .agg cells2) ?_ ?_
 ·simp only [Instr.build, Sem.run_bind, run_zero hii hzz, Result.andThen_ok, run_under hu]
  rw [Array.mapM_eq_mapM_toList]
  simp only [Sem.run_map, run_places P w fs.toList hall, Result.andThen_ok]
  have : (parts.map fun x => (x.1, ρ x.2)).toList = parts.toList.map fun x => (x.1, ρ x.2) := by simp
  rw [this]
  have e3 : (fun (i : Nat) => ((fs.toList.map fun (f : Field) => (f.offset, P.cellsOf f.type)).toArray)[i]?) = fun (i : Nat) => (fs.map fun (f : Field) => (f.offset, P.cellsOf f.type))[i]? := by
   funext i; simp
  rw [e3, g1]
  rfl
 ·have := agg_crel g2 g3
  simpa using this
theorem op_build_array {e el : TypeId} {parts : Array (Nat × Operand)} {n : Nat} {zs : List Value} {l : List (Nat × Nat × Operand)} {j : TypeInfo} (hr : Rel ι h w) (he : ERel ι h.length t ρ) (hp : ∀ x ∈ parts.toList, operOk x.2 = true)
 (hz : zeroOf P e = some zs) (hu : P.underlying e = some (.array n el)) (hj : P.info? el = some j) (hl : partsOf P (fun i => some (i * j.size, j.size)) parts.toList = some l)
 (hx : aOp (.build zs l) t h = some (v, h')) :
 Does P (execOp ρ ⟨d, .build e parts, ty, pos, af, g⟩) ι h w v h' := by
 simp only [aOp, Option.map_eq_some_iff] at hx
 obtain ⟨cs2, hv, hx⟩ := hx
 injection hx with h1 h2
 subst h1 h2
 obtain ⟨i, z, hii, hzz, hvz, hzl, hc⟩ := zeroOf_some hz
 subst hvz
 obtain ⟨cells2, g1, g2, g3, g4⟩ := fill_sound he _ parts.toList l _ cs2 z.cells hl hp hv (by rw [← valCells_eq]; exact const_crel hc) (by rw [← valCells_eq]; exact fun u hu => const_one (List.all_eq_true.1 hc u hu))
 refine Does.pure hr (v' := .agg cells2) ?_ ?_
 ·simp only [Instr.build, Sem.run_bind, run_zero hii hzz, Result.andThen_ok, run_under hu, run_size hj]
  have : (parts.map fun x => (x.1, ρ x.2)).toList = parts.toList.map fun x => (x.1, ρ x.2) := by simp
  rw [this, g1]
  rfl
 ·have := agg_crel g2 g3
  simpa using this
theorem rep_crel {n : Nat} {z : Array Value} (m : Nat) (hz : 1 ≤ z.size) (hc : z.toList.all constOk = true) :
 CRel ι n (repCells m z.toList) ((Array.range (m * z.size)).map (fun j => z[j % z.size]!)).toList ∧ ∀ u ∈ ((Array.range (m * z.size)).map (fun j => z[j % z.size]!)).toList, u.oneCell' = true := by
 have hget : ∀ i, i < m * z.size → ((Array.range (m * z.size)).map (fun j => z[j % z.size]!)).toList[i]? = z.toList[i % z.size]? := fun i hi => by
  rw [Array.getElem?_toList]
  exact range_get z _ i hi hz
 have hlen : (repCells m z.toList).length = ((Array.range (m * z.size)).map (fun j => z[j % z.size]!)).toList.length := by
  rw [repCells_length]; simp
 have hmem : ∀ i, i < m * z.size → ∃ u, z.toList[i % z.size]? = some u ∧ constOk u = true := fun i hi => by
  have hm : i % z.size < z.toList.length := by simpa using Nat.mod_lt i (by omega)
  exact ⟨_, List.getElem?_eq_getElem hm, List.all_eq_true.1 hc _ (List.getElem_mem hm)⟩
 constructor
 ·refine crel_of hlen fun i h1 h2 => ?_
  have hi : i < m * z.size := by rw [repCells_length] at h1; simpa using h1
  obtain ⟨u, hu, hcu⟩ := hmem i hi
  have e1 := repCells_get m i z.toList (by simpa using hz) (by simpa using hi)
  rw [Array.length_toList, hu, List.getElem?_eq_getElem h1] at e1
  have e2 := hget i hi
  rw [hu, List.getElem?_eq_getElem h2] at e2
  injection e1 with e1
  injection e2 with e2
  rw [e1, e2]
  exact const_rel hcu
 ·intro u hu
  obtain ⟨i, hi, rfl⟩ := List.getElem_of_mem hu
  have hi' : i < m * z.size := by simpa using hi
  obtain ⟨u, hu', hcu⟩ := hmem i hi'
  have e2 := hget i hi'
  rw [hu', List.getElem?_eq_getElem hi] at e2
  injection e2 with e2
  rw [e2]
  exact const_one hcu
theorem op_buildSlice {e el : TypeId} {parts : Array (Nat × Operand)} {n : Nat} {zs : List Value} {l : List (Nat × Nat × Operand)} {j : TypeInfo} (hr : Rel ι h w) (he : ERel ι h.length t ρ) (hp : ∀ x ∈ parts.toList, operOk x.2 = true)
 (hz : zeroOf P el = some zs) (hu : P.underlying e = some (.slice el)) (hj : P.info? el = some j) (hl : partsOf P (fun i => some (i * j.size, j.size)) parts.toList = some l)
 (hn : n * j.size ≤ lim24) (h1 : 1 ≤ j.size) (hx : aOp (.buildSlice j.size n zs l) t h = some (v, h')) :
 Does P (execOp ρ ⟨d, .buildSlice e n parts, ty, pos, af, g⟩) ι h w v h' := by
 simp only [aOp, Option.map_eq_some_iff] at hx
 obtain ⟨cs2, hv, hx⟩ := hx
 injection hx with e1 e2
 subst e1 e2
 obtain ⟨i, z, hii, hzz, hvz, hzl, hc⟩ := zeroOf_some hz
 rw [hj] at hii
 injection hii with hii
 subst hii
 subst hvz
 have hzs : z.cells.size = j.size := by rw [valCells_eq] at hzl; simpa using hzl
 rw [valCells_eq] at hv hc
 obtain ⟨r1, r2⟩ := rep_crel (ι := ι) (n := h.length) n (by omega : 1 ≤ z.cells.size) hc
 obtain ⟨cells2, g1, g2, g3, g4⟩ := fill_sound he _ parts.toList l _ cs2 _ hl hp hv r1 r2
 have hst := step_new hr cs2 cells2 el 0 0 w.drawn (by have := g2.1; simp at this; omega) (fun i q1 q2 => ⟨by
  have := g2.2 i
  rw [getD_eq (List.getElem?_eq_getElem q1), getD_eq (List.getElem?_eq_getElem (by simpa using q2))] at this
  simpa using this, g3 _ (by simp)⟩) (fun o _ => by omega)
 have hrun : (Instr.buildSlice e n (parts.map fun x => (x.1, ρ x.2))).run P w = .ok (.slice (some ⟨w.heap.size, 0, none⟩) n n) { w with heap := w.heap.push (.cells cells2 el (0, 0)), drawn := w.drawn } := by
  have hK : lim24 = 16777216 := by decide
  rw [hK] at hn
  have hle : ¬ (n * j.size > 16777216) := Nat.not_lt.2 hn
  have hpl : (parts.map fun x => (x.1, ρ x.2)).toList = parts.toList.map fun x => (x.1, ρ x.2) := by simp
  unfold Instr.buildSlice
  simp only [Sem.run_bind, run_under hu, Result.andThen_ok, run_size hj, Sem.run_ite]
  rw [if_neg hle]
  rw [hzs] at g1
  by_cases h0 : n * j.size = 0
  ·rw [if_pos h0]
   simp only [Sem.run_pure, Result.andThen_ok]
   rw [h0] at g1 ⊢
   rw [hpl]
   have e0 : (Array.range 0).map (fun j_1 => z.cells[j_1 % j.size]!) = (Array.range 0).map (fun x => (#[] : Array Value)[x % (#[] : Array Value).size]!) := by
    simp only [Array.range_zero', List.map_toArray, List.map_nil]
   rw [e0] at g1
   rw [g1]
   simp only [Sem.run_bind, newRow, run_newObj, Result.andThen_ok, Sem.run_pure]
  ·rw [if_neg h0]
   simp only [run_zero hj hzz, Result.andThen_ok, Sem.run_pure]
   rw [hpl, hzs, g1]
   simp only [Sem.run_bind, newRow, run_newObj, Result.andThen_ok, Sem.run_pure]
 refine Does.value hrun hst ?_
 have hsz : (ι.set h.length ⟨w.heap.size, 0, cells2.size⟩) h.length = ⟨w.heap.size, 0, cells2.size⟩ := Inj.set_same
 have := VRel.mkSlice (ι := ι.set h.length ⟨w.heap.size, 0, cells2.size⟩) (n := (newBlk h cs2).length) h.length 0 n j.size 0 n (by rw [length_new]; omega) (fun _ => by rw [hsz]) (Nat.le_refl _) (by rw [hsz, g4]; simp [hzs])
 rwa [hsz] at this
theorem lim48_int : ((lim48 : Nat) : Int) = 2 ^ 48 := by decide
theorem wrap_small (m : Nat) (hm : m ≤ lim48) : IntKind.i64.wrap (m : Int) = m := by
 have h1 : (m : Int) ≤ 2 ^ 48 := by rw [← lim48_int]; exact Int.ofNat_le.2 hm
 have e1 : (2 : Int) ^ 48 = 281474976710656 := by decide
 rw [e1] at h1
 exact IntWalk.i64_in _ (by omega)
theorem op_makeSlice {e el : TypeId} {len cap : Operand} {zs : List Value} {j : TypeInfo} (hr : Rel ι h w) (he : ERel ι h.length t ρ) (hol : operOk len = true) (hoc : operOk cap = true)
 (hz : zeroOf P el = some zs) (hu : P.underlying e = some (.slice el)) (hj : P.info? el = some j) (h1 : 1 ≤ j.size) (hb : 1 ≤ j.bytes) (hx : aOp (.makeSlice j.size j.bytes zs len cap) t h = some (v, h')) :
 Does P (execOp ρ ⟨d, .makeSlice e len cap, ty, pos, af, g⟩) ι h w v h' := by
 simp only [aOp] at hx
 have hlr := he len hol
 have hcr := he cap hoc
 split at hx
 ·rename_i k l k' c heq1 heq2
  rw [heq1] at hlr
  rw [heq2] at hcr
  split at hx
  ·rename_i hcond
   obtain ⟨hl0, hlc, hbc⟩ := hcond
   injection hx with hx
   injection hx with e1 e2
   subst e1 e2
   obtain ⟨i, z, hii, hzz, hvz, hzl, hc⟩ := zeroOf_some hz
   rw [hj] at hii
   injection hii with hii
   subst hii
   subst hvz
   have hzs : z.cells.size = j.size := by rw [valCells_eq] at hzl; simpa using hzl
   rw [valCells_eq] at hc ⊢
   obtain ⟨l, rfl⟩ := Int.eq_ofNat_of_zero_le hl0
   obtain ⟨c, rfl⟩ := Int.eq_ofNat_of_zero_le (Int.le_trans hl0 hlc)
   have hbc' : j.bytes * c ≤ lim48 := by exact_mod_cast hbc
   have hcle : c ≤ lim48 := Nat.le_trans (Nat.le_trans (Nat.le_of_eq (Nat.one_mul c).symm) (Nat.mul_le_mul_right c hb)) hbc'
   have hlc' : l ≤ c := by omega
   have wrapc : ∀ m : Nat, m ≤ lim48 → IntKind.i64.wrap (m : Int) = m := fun m hm => wrap_small m hm
   obtain ⟨r1, r2⟩ := rep_crel (ι := ι) (n := h.length) c (by omega : 1 ≤ z.cells.size) hc
   obtain ⟨q1, _⟩ := rep_crel (ι := ι) (n := h.length) l (by omega : 1 ≤ z.cells.size) hc
   have hsize : ((Array.range (c * z.cells.size)).map (fun j => z.cells[j % z.cells.size]!)).size = c * z.cells.size := by simp
   have hst := step_new hr (repCells l z.cells.toList) ((Array.range (c * z.cells.size)).map (fun j => z.cells[j % z.cells.size]!)) el 0 0 w.drawn
    (by rw [repCells_length, hsize, Array.length_toList]; exact Nat.mul_le_mul_right _ hlc')
    (fun i p1 p2 => by
     have hi : i < l * z.cells.size := by rw [repCells_length] at p1; simpa using p1
     have hm : i % z.cells.size < z.cells.toList.length := by simpa using Nat.mod_lt i (by omega)
     have e1 := repCells_get l i z.cells.toList (by simp; omega) (by simpa using hi)
     have e2 := range_get z.cells (c * z.cells.size) i (by simpa using p2) (by omega)
     rw [Array.length_toList, List.getElem?_eq_getElem hm, List.getElem?_eq_getElem p1] at e1
     rw [List.getElem?_eq_getElem hm, Array.getElem?_eq_getElem p2] at e2
     injection e1 with e1
     injection e2 with e2
     rw [e1, e2]
     have := List.all_eq_true.1 hc _ (List.getElem_mem hm)
     exact ⟨const_rel this, const_one this⟩) (fun o _ => by omega)
   refine Does.value (s := Instr.makeSlice e (ρ len) (ρ cap)) (v' := .slice (some ⟨w.heap.size, 0, none⟩) l c) ?_ hst ?_
   ·rw [hlr.int_inv, hcr.int_inv]
    simp only [Instr.makeSlice, Sem.run_bind, run_under hu, Result.andThen_ok, asInt, asIntOf, pure_bind, run_info hj, wrapc c hcle, wrapc l (by omega)]
    have hnot : ((decide ((c : Int) < 0) || decide ((j.bytes : Int) * (c : Int) > 2 ^ 48)) || decide ((l : Int) < 0) || decide ((l : Int) > (c : Int))) = false := by
     have a1 : ¬ ((j.bytes : Int) * (c : Int) > 2 ^ 48) := by
      have h2 : ((lim48 : Nat) : Int) = 2 ^ 48 := lim48_int
      have : ((j.bytes * c : Nat) : Int) ≤ ((lim48 : Nat) : Int) := Int.ofNat_le.2 hbc'
      rw [Int.natCast_mul, h2] at this
      exact Int.not_lt.2 this
     simp only [Bool.or_eq_false_iff, decide_eq_false_iff_not]
     exact ⟨⟨⟨by omega, a1⟩, by omega⟩, by omega⟩
    rw [Sem.run_ite, if_neg (by rw [hnot]; simp)]
    simp only [Sem.run_bind, run_askRoom, Result.andThen_ok, run_size hj, Int.toNat_natCast, Sem.run_ite]
    by_cases h0 : c * j.size = 0
    ·have hc0 : c = 0 := by
      rcases Nat.mul_eq_zero.1 h0 with h | h
      ·exact h
      ·omega
     have hl0' : l = 0 := by omega
     subst hc0
     subst hl0'
     rw [if_pos h0]
     simp only [Sem.run_pure, Result.andThen_ok, newRow, Sem.run_bind, run_newObj, Nat.zero_mul]
     have : (Array.range 0).map (fun j => z.cells[j % z.cells.size]!) = (Array.range 0).map (fun x => (#[] : Array Value)[x % (#[] : Array Value).size]!) := by simp only [Array.range_zero', List.map_toArray, List.map_nil]
     rw [this]
    ·rw [if_neg h0]
     simp only [Sem.run_bind, run_zero hj hzz, Result.andThen_ok, Sem.run_pure, newRow, run_newObj, hzs]
   ·have hsz : (ι.set h.length ⟨w.heap.size, 0, ((Array.range (c * z.cells.size)).map (fun j => z.cells[j % z.cells.size]!)).size⟩) h.length = ⟨w.heap.size, 0, ((Array.range (c * z.cells.size)).map (fun j => z.cells[j % z.cells.size]!)).size⟩ := Inj.set_same
    have := VRel.mkSlice (ι := ι.set h.length ⟨w.heap.size, 0, ((Array.range (c * z.cells.size)).map (fun j => z.cells[j % z.cells.size]!)).size⟩) (n := (newBlk h (repCells l z.cells.toList)).length) h.length 0 l j.size 0 c (by rw [length_new]; omega) (fun _ => by rw [hsz]) hlc' (by rw [hsz]; simp [hzs])
    rw [hsz] at this
    simpa using this
  ·cases hx
 ·cases hx
end
end Go.Wb

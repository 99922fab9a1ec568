/- The abstract machine's memory: a list of blocks; values name blocks by their place in it. How it stands to the model's memory: VRel, Rel, Step. -/
import Derived.Calls
import Derived.Laws.Entries
import Derived.Laws.Cells
namespace Go.Wb
open Go

inductive Blk where
  | dead
  | mem (ro : Bool) (cells : List Value)

abbrev Heap := List Blk
abbrev T := Nat → Value

def upd (t : T) (k : Nat) (v : Value) : T := fun i => if i = k then v else t i

def put (t : T) (d : Option Tmp) (v : Value) : T :=
  match d with
  | some k => upd t k v
  | none => t

/-- Where a block lies in the model's memory: its block, where it begins, how many cells that block has. -/
structure Pos where
  blk : Nat
  off : Nat
  size : Nat

abbrev Inj := Nat → Pos

inductive VRel (ι : Inj) (n : Nat) : Value → Value → Prop where
  | bool (b : Bool) : VRel ι n (.bool b) (.bool b)
  | int (k : IntKind) (x : Int) : VRel ι n (.int k x) (.int k x)
  | string (s : ByteArray) : VRel ι n (.string s) (.string s)
  | nilPtr : VRel ι n (.pointer none) (.pointer none)
  | ptr (b o : Nat) (h : b < n) : VRel ι n (.pointer (some ⟨b, o, none⟩)) (.pointer (some ⟨(ι b).blk, (ι b).off + o, none⟩))
  | nilSlice : VRel ι n (.slice none 0 0) (.slice none 0 0)
  | slice (b o len s : Nat) (a : Addr) (cap : Nat) (h : b < n) (hl : len ≤ cap) (hc : 0 < cap → ∃ o', a = ⟨(ι b).blk, o', none⟩ ∧ (0 < len → o' = (ι b).off + o) ∧ o' + cap * s ≤ (ι b).size) :
      VRel ι n (.slice (some ⟨b, o, none⟩) len s) (.slice (some a) len cap)
  | nilFunc : VRel ι n .nilFunc .nilFunc
  | func (fn : Fn) (f c f' c' : Array Value) (hf : f.size = f'.size) (hc : c.size = c'.size)
      (h1 : ∀ i, VRel ι n (f.getD i Go.undef) (f'.getD i Go.undef)) (h2 : ∀ i, VRel ι n (c.getD i Go.undef) (c'.getD i Go.undef)) : VRel ι n (.func fn f c) (.func fn f' c')
  | nilIface : VRel ι n .nilIface .nilIface
  | nilMap : VRel ι n (.map none) (.map none)
  | iface (t : TypeId) (v v' : Value) (h : VRel ι n v v') : VRel ι n (.iface t v) (.iface t v')
  | agg (c c' : Array Value) (hs : c.size = c'.size) (h : ∀ i, VRel ι n (c.getD i Go.undef) (c'.getD i Go.undef)) (h1 : ∀ v ∈ c', v.oneCell' = true) : VRel ι n (.agg c) (.agg c')
  | tuple0 : VRel ι n (.tuple #[]) (.tuple #[])
  | tuple (c c' : Array Value) (hs : c.size = c'.size) (h : ∀ i, VRel ι n (c.getD i Go.undef) (c'.getD i Go.undef)) : VRel ι n (.tuple c) (.tuple c')

theorem VRel.undef {ι : Inj} {n : Nat} : VRel ι n Go.undef Go.undef := by
  generalize hu : Go.undef = u
  have h0 : u = .tuple #[] := hu ▸ rfl
  rw [h0]
  exact .tuple0

theorem VRel.mkSlice {ι : Inj} {n : Nat} (b o len s o' cap : Nat) (h : b < n) (ho : 0 < len → o' = (ι b).off + o) (hl : len ≤ cap) (hc : o' + cap * s ≤ (ι b).size) :
    VRel ι n (.slice (some ⟨b, o, none⟩) len s) (.slice (some ⟨(ι b).blk, o', none⟩) len cap) := .slice b o len s _ cap h hl fun _ => ⟨o', rfl, ho, hc⟩

theorem VRel.mono {ι ι' : Inj} {n n' : Nat} {v v' : Value} (h : VRel ι n v v') (ha : ∀ b, b < n → ι' b = ι b) (hn : n ≤ n') : VRel ι' n' v v' := by
  induction h with
  | bool b => exact .bool b
  | int k x => exact .int k x
  | string s => exact .string s
  | nilPtr => exact .nilPtr
  | ptr b o h => rw [← ha b h]; exact .ptr b o (by omega)
  | nilSlice => exact .nilSlice
  | slice b o len s a cap h hl hc => rw [← ha b h] at hc; exact .slice b o len s a cap (by omega) hl hc
  | nilFunc => exact .nilFunc
  | func fn f c f' c' hf hc _ _ i1 i2 => exact .func fn f c f' c' hf hc i1 i2
  | nilIface => exact .nilIface
  | nilMap => exact .nilMap
  | iface t v v' _ ih => exact .iface t v v' ih
  | agg c c' hs _ h1 ih => exact .agg c c' hs ih h1
  | tuple0 => exact .tuple0
  | tuple c c' hs _ ih => exact .tuple c c' hs ih

/-- Two lists of cells. -/
def CRel (ι : Inj) (n : Nat) (l l' : List Value) : Prop := l.length = l'.length ∧ ∀ i, VRel ι n (l.getD i Go.undef) (l'.getD i Go.undef)

theorem CRel.mono {ι ι' : Inj} {n n' : Nat} {l l' : List Value} (h : CRel ι n l l') (ha : ∀ b, b < n → ι' b = ι b) (hn : n ≤ n') : CRel ι' n' l l' :=
  ⟨h.1, fun i => (h.2 i).mono ha hn⟩

structure Rel (ι : Inj) (h : Heap) (w : World) : Prop where
  cell : ∀ b ro cs, h[b]? = some (.mem ro cs) → ∀ i, i < cs.length → ∃ v', w.cell? ⟨(ι b).blk, (ι b).off + i, none⟩ = some v' ∧ VRel ι h.length (cs.getD i undef) v' ∧ v'.oneCell' = true
  inside : ∀ b ro cs, h[b]? = some (.mem ro cs) → (ro = false ∨ cs ≠ []) → (ι b).blk < w.heap.size
  fits : ∀ b ro cs, h[b]? = some (.mem ro cs) → (ι b).off + cs.length ≤ (ι b).size
  own : ∀ b cs, h[b]? = some (.mem false cs) → ∃ c e lo hi, w.heap[(ι b).blk]? = some (.cells c e (lo, hi)) ∧ c.size = (ι b).size ∧ (∀ o, o < c.size → ¬ (lo ≤ o ∧ o < hi))
  apart : ∀ b b' cs ro cs', h[b]? = some (.mem false cs) → h[b']? = some (.mem ro cs') → b ≠ b' → (ro = false ∨ cs' ≠ []) → (ι b).blk ≠ (ι b').blk

/-- Is the model's block 'B' one that the abstract heap may write? -/
def Owned (ι : Inj) (h : Heap) (B : Nat) : Prop := ∃ b cs, h[b]? = some (.mem false cs) ∧ (ι b).blk = B

structure Step (ι : Inj) (h : Heap) (w : World) (ι' : Inj) (h' : Heap) (w' : World) : Prop where
  len : h.length ≤ h'.length
  agree : ∀ b, b < h.length ∨ h'.length ≤ b → ι' b = ι b
  rel : Rel ι' h' w'
  size : w.heap.size ≤ w'.heap.size
  frame : ∀ B, B < w.heap.size → ¬ Owned ι h B → w'.heap[B]? = w.heap[B]?
  own : ∀ B, Owned ι' h' B → w.heap.size ≤ B ∨ Owned ι h B
  tape : w'.tape = w.tape
  os : w'.os = w.os
  output : w'.output = w.output

theorem Step.refl {ι : Inj} {h : Heap} {w : World} (hr : Rel ι h w) : Step ι h w ι h w where
  len := Nat.le_refl _
  agree := fun _ _ => rfl
  rel := hr
  size := Nat.le_refl _
  frame := fun _ _ _ => rfl
  own := fun _ h => .inr h
  tape := rfl
  os := rfl
  output := rfl

theorem Step.trans {ι ι₁ ι₂ : Inj} {h h₁ h₂ : Heap} {w w₁ w₂ : World} (s : Step ι h w ι₁ h₁ w₁) (s' : Step ι₁ h₁ w₁ ι₂ h₂ w₂) : Step ι h w ι₂ h₂ w₂ where
  len := Nat.le_trans s.len s'.len
  agree := fun b hb => by
    rw [s'.agree b (by have := s.len; have := s'.len; omega), s.agree b (by have := s.len; have := s'.len; omega)]
  rel := s'.rel
  size := Nat.le_trans s.size s'.size
  frame := fun B hB hn => by
    rw [s'.frame B (Nat.lt_of_lt_of_le hB s.size) (fun ho => ?_), s.frame B hB hn]
    rcases s.own B ho with h | h
    · omega
    · exact hn h
  own := fun B ho => by
    rcases s'.own B ho with h | h
    · exact .inl (Nat.le_trans s.size h)
    · exact s.own B h
  tape := s'.tape.trans s.tape
  os := s'.os.trans s.os
  output := s'.output.trans s.output

theorem Rel.drawn {ι : Inj} {h : Heap} {w : World} (hr : Rel ι h w) (n : Nat) : Rel ι h { w with drawn := n } := ⟨hr.cell, hr.inside, hr.fits, hr.own, hr.apart⟩

theorem Step.drawn {ι : Inj} {h : Heap} {w : World} (hr : Rel ι h w) (n : Nat) : Step ι h w ι h { w with drawn := n } where
  len := Nat.le_refl _
  agree := fun _ _ => rfl
  rel := hr.drawn n
  size := Nat.le_refl _
  frame := fun _ _ _ => rfl
  own := fun _ h => .inr h
  tape := rfl
  os := rfl
  output := rfl

theorem Step.vrel {ι ι' : Inj} {h h' : Heap} {w w' : World} (s : Step ι h w ι' h' w') {v v' : Value} (hv : VRel ι h.length v v') : VRel ι' h'.length v v' :=
  hv.mono (fun b hb => s.agree b (.inl hb)) s.len

theorem Step.crel {ι ι' : Inj} {h h' : Heap} {w w' : World} (s : Step ι h w ι' h' w') {l l' : List Value} (hv : CRel ι h.length l l') : CRel ι' h'.length l l' :=
  hv.mono (fun b hb => s.agree b (.inl hb)) s.len

end Go.Wb

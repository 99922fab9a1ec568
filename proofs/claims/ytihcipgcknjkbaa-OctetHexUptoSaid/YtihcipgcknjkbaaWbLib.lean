/- How a function's code is reckoned: the rows for simp; whole numbers. -/
import Derived.Test.YtihcipgcknjkbaaWbEval
import Derived.Laws.BitsLemmas
import Derived.Laws.Bits64b
namespace Go.Wb
open Go

attribute [simp] runA_seq runA_ops runA_drawn runA_cond runA_block runA_exit runA_ret runA_skip execOps stepA evalA Ev put aBin aUn aBinB isShift resVal resVals leave

def isB (w : Bool) (v : Value) : Bool :=
  match v with
  | .bool b => b == w
  | _ => false
@[simp] theorem wantedA_none {t : T} : wantedA none t = true := rfl
@[simp] theorem wantedA_some {t : T} {d : Tmp} {w : Bool} : wantedA (some (d, w)) t = isB w (t d) := rfl
@[simp] theorem isB_bool {w b : Bool} : isB w (.bool b) = (b == w) := rfl
@[simp] theorem isB_undef {w : Bool} : isB w undef = false := rfl

section
variable {t : T} {k i : Nat} {v : Value}
@[simp] theorem upd_same : upd t k v k = v := by simp [upd]
theorem upd_ne (h : i ≠ k) : upd t k v i = t i := by simp [upd, h]
@[simp] theorem upd_apply : upd t k v i = if i = k then v else t i := rfl
@[simp] theorem argT_zero {a : Value} {l : List Value} : argT (a :: l) 0 = a := rfl
@[simp] theorem argT_succ {a : Value} {l : List Value} : argT (a :: l) (i + 1) = argT l i := rfl
end

section
variable {k : IntKind} {a b : Int}
@[simp] theorem aInt_add : aInt .add k a b = some (.int k (k.wrap (a + b))) := rfl
@[simp] theorem aInt_sub : aInt .sub k a b = some (.int k (k.wrap (a - b))) := rfl
@[simp] theorem aInt_mul : aInt .mul k a b = some (.int k (k.wrap (a * b))) := rfl
@[simp] theorem aInt_quo : aInt .quo k a b = if b = 0 then none else some (.int k (k.wrap (a.tdiv b))) := rfl
@[simp] theorem aInt_rem : aInt .rem k a b = if b = 0 then none else some (.int k (a.tmod b)) := rfl
@[simp] theorem aInt_and : aInt .and k a b = some (.int k (bits .and k a b)) := rfl
@[simp] theorem aInt_or : aInt .or k a b = some (.int k (bits .or k a b)) := rfl
@[simp] theorem aInt_xor : aInt .xor k a b = some (.int k (bits .xor k a b)) := rfl
@[simp] theorem aInt_andNot : aInt .andNot k a b = some (.int k (bits .andNot k a b)) := rfl
@[simp] theorem aInt_eql : aInt .eql k a b = some (.bool (decide (a = b))) := rfl
@[simp] theorem aInt_neq : aInt .neq k a b = some (.bool (decide (a ≠ b))) := by
  have : (a != b) = decide (a ≠ b) := by
    by_cases h : a = b <;> simp [h]
  show some (Value.bool (a != b)) = _
  rw [this]
@[simp] theorem aInt_lss : aInt .lss k a b = some (.bool (decide (a < b))) := rfl
@[simp] theorem aInt_leq : aInt .leq k a b = some (.bool (decide (a ≤ b))) := rfl
@[simp] theorem aInt_gtr : aInt .gtr k a b = some (.bool (decide (b < a))) := rfl
@[simp] theorem aInt_geq : aInt .geq k a b = some (.bool (decide (b ≤ a))) := rfl
end

def cellAt (cs : List Value) (o : Nat) : Option Value := cs[o]?
@[simp] theorem cellAt_zero {a : Value} {l : List Value} : cellAt (a :: l) 0 = some a := rfl
@[simp] theorem cellAt_succ {a : Value} {l : List Value} {i : Nat} : cellAt (a :: l) (i + 1) = cellAt l i := by simp [cellAt]

/-! ### The operations, in words that may stand over values that are not known -/
def aLen : Value → Option Value
  | .slice _ n _ => some (.int .i64 n)
  | _ => none

def aIdx (size : Nat) (v i : Value) : Option Value :=
  match v, i with
  | .slice (some ⟨b, o, none⟩) n s, .int _ i => if s = size ∧ 0 ≤ i ∧ i < n then some (.pointer (some ⟨b, o + i.toNat * size, none⟩)) else none
  | _, _ => none

def boundV (dflt most : Nat) : Option Value → Option Nat
  | none => if dflt ≤ most then some dflt else none
  | some v => match v with
    | .int _ i => if 0 ≤ i ∧ i ≤ most then some i.toNat else none
    | _ => none

def aSub (size : Nat) (v : Value) (lo hi : Option Value) : Option Value :=
  match v with
  | .slice none 0 0 => match boundV 0 0 hi with
    | some hh => match boundV 0 hh lo with
      | some _ => some (.slice none 0 0)
      | none => none
    | none => none
  | .slice (some ⟨b, o, none⟩) n s => if s = size then match boundV n n hi with
      | some hh => match boundV 0 hh lo with
        | some l => some (.slice (some ⟨b, o + l * size, none⟩) (hh - l) size)
        | none => none
      | none => none
    else none
  | _ => none

def aMake (h : Heap) (size bytes : Nat) (zero : List Value) (len cap : Value) : Option (Value × Heap) :=
  match len, cap with
  | .int _ l, .int _ c => if 0 ≤ l ∧ l ≤ c ∧ bytes * c ≤ lim48 then
      some (.slice (some ⟨h.length, 0, none⟩) l.toNat size, newBlk h (repCells l.toNat zero)) else none
  | _, _ => none

def aStrAt (s : ByteArray) (i : Int) : Option Value := if 0 ≤ i then (s.data.toList[i.toNat]?).map fun b => .int .u8 b.toNat else none

def aBytesStr (h : Heap) (v : Value) : Option Value :=
  match srcCells h 1 v with
  | some cs => if isStr v = false ∧ (cs.all fun v => match v with | .int .u8 _ => true | _ => false) then
      some (.string ⟨(cs.map fun v => match v with | .int _ n => UInt8.ofNat n.toNat | _ => 0).toArray⟩) else none
  | none => none

theorem bound_V {t : T} {d m : Nat} {o : Option Operand} : bound t d m o = boundV d m (o.map (Ev t)) := by
  cases o with
  | none => rfl
  | some x =>
    simp only [bound, boundV, Option.map_some]
    generalize Ev t x = v
    cases v <;> rfl

section
variable {t : T} {h : Heap}
@[simp] theorem aOp_move (x : Operand) : aOp (.move x) t h = some (Ev t x, h) := rfl
@[simp] theorem aOp_pick (c a b : Operand) : aOp (.pick c a b) t h = match Ev t c with
    | .bool true => some (Ev t a, h)
    | .bool false => some (Ev t b, h)
    | _ => none := rfl
@[simp] theorem aOp_box (x : Operand) : aOp (.box x) t h = if isTuple (Ev t x) = false then some (.pointer (some ⟨h.length, 0, none⟩), newBlk h (valCells (Ev t x))) else none := rfl
@[simp] theorem aOp_alloc (z : List Value) : aOp (.alloc z) t h = some (.pointer (some ⟨h.length, 0, none⟩), newBlk h z) := rfl
@[simp] theorem aOp_build (z : List Value) (ps : List (Nat × Nat × Operand)) : aOp (.build z ps) t h = (fillL t z ps).map fun cs => (.agg cs.toArray, h) := rfl
@[simp] theorem aOp_buildSlice (s n : Nat) (z : List Value) (ps : List (Nat × Nat × Operand)) : aOp (.buildSlice s n z ps) t h = (fillL t (repCells n z) ps).map fun cs => (.slice (some ⟨h.length, 0, none⟩) n s, newBlk h cs) := rfl
@[simp] theorem aOp_load (n : Option Nat) (x : Operand) : aOp (.load n x) t h = (readV h n (Ev t x)).map fun v => (v, h) := rfl
@[simp] theorem aOp_store (n : Option Nat) (a x : Operand) : aOp (.store n a x) t h = (writeV h n (Ev t a) (Ev t x)).map fun h' => (undef, h') := rfl
@[simp] theorem aOp_bin (op : BinOp) (x y : Operand) : aOp (.bin op x y) t h = (aBin op (Ev t x) (Ev t y)).map fun v => (v, h) := rfl
@[simp] theorem aOp_binB (op : BinOp) (x y : Operand) : aOp (.binB op x y) t h = (aBinB op (Ev t x) (Ev t y)).map fun v => (v, h) := rfl
@[simp] theorem aOp_eqv (neg : Bool) (ks : List CK) (x y : Operand) : aOp (.eqv neg ks x y) t h = (aEq ks (Ev t x) (Ev t y)).map fun v => (.bool (neg != v), h) := rfl
@[simp] theorem aOp_nilv (neg : Bool) (x : Operand) : aOp (.nilv neg x) t h = match Ev t x with
    | .slice none _ _ => some (.bool (neg != true), h)
    | .slice (some _) _ _ => some (.bool (neg != false), h)
    | _ => none := rfl
@[simp] theorem aOp_un (op : UnOp) (x : Operand) : aOp (.un op x) t h = (aUn op (Ev t x)).map fun v => (v, h) := rfl
@[simp] theorem aOp_convInt (k : IntKind) (x : Operand) : aOp (.convInt k x) t h = match Ev t x with
    | .int _ n => some (.int k (k.wrap n), h)
    | _ => none := rfl
@[simp] theorem aOp_convStr (x : Operand) : aOp (.convStr x) t h = match Ev t x with
    | .string s => some (.string s, h)
    | _ => none := rfl
@[simp] theorem aOp_strBytes (x : Operand) : aOp (.strBytes x) t h = match Ev t x with
    | .string s => some (.slice (some ⟨h.length, 0, none⟩) s.size 1, newBlk h (s.data.toList.map fun b => .int .u8 b.toNat))
    | _ => none := rfl
@[simp] theorem aOp_bytesStr (x : Operand) : aOp (.bytesStr x) t h = (aBytesStr h (Ev t x)).map fun v => (v, h) := by
  simp only [aOp, aBytesStr]
  cases srcCells h 1 (Ev t x) with
  | none => rfl
  | some cs =>
    rw [apply_ite (Option.map fun v => (v, h))]
    rfl
@[simp] theorem aOp_iface (ty : TypeId) (x : Operand) : aOp (.iface ty x) t h = some (.iface ty (Ev t x), h) := rfl
@[simp] theorem aOp_func (fn : Fn) (f c : List Operand) : aOp (.func fn f c) t h = some (.func fn (f.map (Ev t)).toArray (c.map (Ev t)).toArray, h) := rfl
@[simp] theorem aOp_nilCheck (x : Operand) : aOp (.nilCheck x) t h = match Ev t x with
    | .pointer (some a) => some (.pointer (some a), h)
    | .func (.func f) a c => some (.func (.func f) a c, h)
    | _ => none := rfl
@[simp] theorem aOp_makeSlice (size bytes : Nat) (z : List Value) (l c : Operand) : aOp (.makeSlice size bytes z l c) t h = aMake h size bytes z (Ev t l) (Ev t c) := rfl
@[simp] theorem aOp_sliceSl (size : Nat) (x : Operand) (lo hi : Option Operand) : aOp (.sliceSl size x lo hi) t h = (aSub size (Ev t x) (lo.map (Ev t)) (hi.map (Ev t))).map fun v => (v, h) := by
  simp only [aOp, aSub, bound_V]
  generalize Ev t x = v
  split
  · simp only
    cases boundV 0 0 (hi.map (Ev t)) with
    | none => rfl
    | some hh =>
      simp only
      cases boundV 0 hh (lo.map (Ev t)) <;> rfl
  · rename_i b o n s
    simp only
    by_cases hs : s = size
    · rw [if_pos hs, if_pos hs]
      cases boundV n n (hi.map (Ev t)) with
      | none => rfl
      | some hh =>
        simp only
        cases boundV 0 hh (lo.map (Ev t)) <;> rfl
    · rw [if_neg hs, if_neg hs]
      rfl
  · split <;> simp_all
@[simp] theorem aOp_sliceStr (x : Operand) (lo hi : Option Operand) : aOp (.sliceStr x lo hi) t h = match Ev t x with
    | .string s => match boundV s.size s.size (hi.map (Ev t)) with
      | some hh => match boundV 0 hh (lo.map (Ev t)) with
        | some l => some (.string (s.extract l hh), h)
        | none => none
      | none => none
    | _ => none := by
  simp only [aOp, bound_V]
  rfl
@[simp] theorem aOp_sliceArr (n size : Nat) (x : Operand) (lo hi : Option Operand) : aOp (.sliceArr n size x lo hi) t h = match Ev t x with
    | .pointer (some ⟨b, o, none⟩) => match h[b]? with
      | some (.mem _ cs) => if o + n * size ≤ cs.length then match boundV n n (hi.map (Ev t)) with
          | some hh => match boundV 0 hh (lo.map (Ev t)) with
            | some l => some (.slice (some ⟨b, o + l * size, none⟩) (hh - l) size, h)
            | none => none
          | none => none
        else none
      | _ => none
    | _ => none := by
  simp only [aOp, bound_V]
  rfl
@[simp] theorem aOp_fieldAddr (off : Nat) (x : Operand) : aOp (.fieldAddr off x) t h = match Ev t x with
    | .pointer (some ⟨b, o, none⟩) => some (.pointer (some ⟨b, o + off, none⟩), h)
    | _ => none := rfl
@[simp] theorem aOp_field1 (off : Nat) (x : Operand) : aOp (.field none off x) t h = match Ev t x with
    | .agg cs => (cellAt cs.toList off).map fun v => (v, h)
    | _ => none := by
  simp only [aOp, cellAt]
  split <;> simp_all
@[simp] theorem aOp_fieldN (off m : Nat) (x : Operand) : aOp (.field (some m) off x) t h = match Ev t x with
    | .agg cs => some (.agg ((cs.toList.drop off).take m).toArray, h)
    | _ => none := by
  simp only [aOp]
  split <;> simp_all
@[simp] theorem aOp_idxAddrArr (len size : Nat) (x i : Operand) : aOp (.idxAddrArr len size x i) t h = match Ev t x, Ev t i with
    | .pointer (some ⟨b, o, none⟩), .int _ i => if 0 ≤ i ∧ i < len then some (.pointer (some ⟨b, o + i.toNat * size, none⟩), h) else none
    | _, _ => none := rfl
@[simp] theorem aOp_idxAddrSl (size : Nat) (x i : Operand) : aOp (.idxAddrSl size x i) t h = (aIdx size (Ev t x) (Ev t i)).map fun v => (v, h) := by
  simp only [aOp, aIdx]
  generalize Ev t x = v
  generalize Ev t i = j
  cases v with
  | slice p n s =>
    cases p with
    | none => rfl
    | some a =>
      obtain ⟨b, o, sp⟩ := a
      cases sp with
      | some _ => rfl
      | none =>
        cases j with
        | int k i =>
          simp only
          split <;> rfl
        | _ => rfl
  | _ => rfl
@[simp] theorem aOp_idxArr1 (len size : Nat) (x i : Operand) : aOp (.idxArr len size none x i) t h = match Ev t x, Ev t i with
    | .agg cs, .int _ i => if 0 ≤ i ∧ i < len then (cellAt cs.toList (i.toNat * size)).map fun v => (v, h) else none
    | _, _ => none := by
  simp only [aOp, cellAt]
  split <;> simp_all
@[simp] theorem aOp_idxArrN (len size m : Nat) (x i : Operand) : aOp (.idxArr len size (some m) x i) t h = match Ev t x, Ev t i with
    | .agg cs, .int _ i => if 0 ≤ i ∧ i < len then some (.agg ((cs.toList.drop (i.toNat * size)).take m).toArray, h) else none
    | _, _ => none := by
  simp only [aOp]
  split <;> simp_all
@[simp] theorem aOp_idxStr (x i : Operand) : aOp (.idxStr x i) t h = match Ev t x, Ev t i with
    | .string s, .int _ i => (aStrAt s i).map fun v => (v, h)
    | _, _ => none := by
  simp only [aOp, aStrAt]
  generalize Ev t x = v
  generalize Ev t i = j
  cases v with
  | string s =>
    cases j with
    | int k i =>
      simp only
      split
      · cases s.data.toList[i.toNat]? <;> rfl
      · rfl
    | _ => rfl
  | _ => rfl
@[simp] theorem aOp_len (x : Operand) : aOp (.len x) t h = (aLen (Ev t x)).map fun v => (v, h) := by
  simp only [aOp, aLen]
  generalize Ev t x = v
  cases v <;> rfl
@[simp] theorem aOp_lenStr (x : Operand) : aOp (.lenStr x) t h = match Ev t x with
    | .string s => some (.int .i64 s.size, h)
    | _ => none := rfl
@[simp] theorem aOp_const (v : Value) : aOp (.const v) t h = some (v, h) := rfl
@[simp] theorem aOp_append (size bytes : Nat) (s x : Operand) : aOp (.append size bytes s x) t h = aAppend h size bytes (Ev t s) (Ev t x) := rfl
@[simp] theorem aOp_copy (size : Nat) (d s : Operand) : aOp (.copy size d s) t h = aCopy h size (Ev t d) (Ev t s) := rfl
@[simp] theorem aOp_max2 (x y : Operand) : aOp (.max2 x y) t h = match Ev t x, Ev t y with
    | .int k a, .int _ b => some (.int k (if b > a then b else a), h)
    | _, _ => none := rfl
@[simp] theorem aOp_min2 (x y : Operand) : aOp (.min2 x y) t h = match Ev t x, Ev t y with
    | .int k a, .int _ b => some (.int k (if b < a then b else a), h)
    | _, _ => none := rfl
@[simp] theorem aOp_extract (x : Operand) (i : Nat) : aOp (.extract x i) t h = match Ev t x with
    | .tuple vs => (cellAt vs.toList i).map fun v => (v, h)
    | _ => none := rfl
end

/-- Drawn regions without pairs are rows of operations. -/
@[simp] theorem execDrawn_nil {call : CallF} {l : List AOper} {t : T} {h : Heap} : execDrawn call l [] t h = execOps call l t h := by
  apply opt_ext
  intro r
  constructor
  · intro hx
    unfold execDrawn at hx
    split at hx
    · rename_i t' h' G L hl
      rw [if_pos (show checkPairs (h :: G) L [] from trivial)] at hx
      have : ∀ (l : List AOper) (t : T) (h : Heap) (t' : T) (h' : Heap) (G : List Heap) (L : List LoadRec), execLog call l t h = some (t', h', G, L) → execOps call l t h = some (t', h') := by
        intro l
        induction l with
        | nil =>
          intro t h t' h' G L hx
          simp only [execLog, Option.some.injEq, Prod.mk.injEq] at hx
          simp only [execOps, hx.1, hx.2.1]
        | cons o l ih =>
          intro t h t' h' G L hx
          simp only [execLog] at hx
          simp only [execOps]
          split at hx
          · rename_i t1 h1 hst
            split at hx
            · rename_i t2 h2 G2 L2 hl2
              injection hx with hx
              injection hx with e1 hx
              injection hx with e2 hx
              subst e1 e2
              exact ih _ _ _ _ _ _ hl2
            · cases hx
          · cases hx
      rw [this _ _ _ _ _ _ _ hl]
      exact hx
    · cases hx
  · intro hx
    exact drawnE_ok (by simpa only [drawnE] using hx)

theorem wrap_i64 {x : Int} (h : -9223372036854775808 ≤ x) (h' : x < 9223372036854775808) : IntKind.i64.wrap x = x := by rw [IntKind.wrap_i64]; omega
theorem wrap_u64 {x : Int} (h : 0 ≤ x) (h' : x < 18446744073709551616) : IntKind.u64.wrap x = x := by rw [IntKind.wrap_u64]; omega
theorem wrap_u32 {x : Int} (h : 0 ≤ x) (h' : x < 4294967296) : IntKind.u32.wrap x = x := by rw [IntKind.wrap_u32]; omega
theorem wrap_u16 {x : Int} (h : 0 ≤ x) (h' : x < 65536) : IntKind.u16.wrap x = x := by simp [IntKind.wrap, IntKind.bits, IntKind.signed]; omega
theorem wrap_u8 {x : Int} (h : 0 ≤ x) (h' : x < 256) : IntKind.u8.wrap x = x := by rw [IntKind.wrap_u8]; omega

def I64 (x : Int) : Prop := -9223372036854775808 ≤ x ∧ x < 9223372036854775808
def U64 (x : Int) : Prop := 0 ≤ x ∧ x < 18446744073709551616

theorem wf_i64 {n : Int} (h : (Lit.int .i64 n).wf = true) : I64 n := by
  simp [Lit.wf, IntKind.min, IntKind.max, IntKind.signed, IntKind.bits] at h
  unfold I64; omega
theorem wf_u64 {n : Int} (h : (Lit.int .u64 n).wf = true) : U64 n := by
  simp [Lit.wf, IntKind.min, IntKind.max, IntKind.signed, IntKind.bits] at h
  unfold U64; omega

theorem U64.nat {x : Int} (h : U64 x) : ∃ n : Nat, x = n ∧ n < 18446744073709551616 := ⟨x.toNat, by unfold U64 at h; omega, by unfold U64 at h; omega⟩

theorem shl_u64 {a k : Nat} (hk : k ≤ 64) : aShift .shl .u64 (a : Int) (k : Int) = some (.int .u64 ((a * 2 ^ k % 18446744073709551616 : Nat) : Int)) := by
  have h1 : min k 64 = k := Nat.min_eq_left hk
  simp only [aShift, Int.toNat_natCast, IntKind.bits, h1, IntKind.wrap_u64]
  rw [if_neg (by omega)]
  simp

theorem shr_u64 {a k : Nat} (hk : k ≤ 64) : aShift .shr .u64 (a : Int) (k : Int) = some (.int .u64 ((a / 2 ^ k : Nat) : Int)) := by
  have h1 : min k 64 = k := Nat.min_eq_left hk
  simp only [aShift, Int.toNat_natCast, IntKind.bits, h1]
  rw [if_neg (by omega), Int.fdiv_eq_ediv_of_nonneg _ (by exact Int.pow_nonneg (by decide))]
  simp

theorem andNot_u64 (a b : Nat) (ha : a < 18446744073709551616) (hb : b < 18446744073709551616) :
    bits .andNot .u64 (a : Int) (b : Int) = ((a &&& (18446744073709551615 - b) : Nat) : Int) := by
  have hx : a &&& (18446744073709551615 - b) < 2 ^ 64 := Nat.and_lt_two_pow _ (by omega)
  have h1 : (BitVec.ofInt 64 (a : Int)).toNat = a := by
    rw [BitVec.ofInt_natCast, BitVec.toNat_ofNat]; exact Nat.mod_eq_of_lt (by omega)
  have h2 : (BitVec.ofInt 64 (b : Int)).toNat = b := by
    rw [BitVec.ofInt_natCast, BitVec.toNat_ofNat]; exact Nat.mod_eq_of_lt (by omega)
  show IntKind.u64.wrap ((BitVec.ofInt 64 (a : Int) &&& ~~~ BitVec.ofInt 64 (b : Int)).toNat : Int) = _
  rw [BitVec.toNat_and, BitVec.toNat_not, h1, h2, IntKind.wrap_u64]
  have e : 2 ^ 64 - 1 - b = 18446744073709551615 - b := by omega
  rw [e]
  omega

end Go.Wb

/- How a function's code is reckoned: the rows for simp, and whole numbers. -/
import Derived.Test.YtihcipgcknjkbaaWbEval
import Derived.Laws.BitsLemmas
import Derived.Laws.Bits64b
namespace Go.Wb
open Go

attribute [simp] runA_seq runA_ops runA_drawn runA_cond runA_block runA_exit runA_ret runA_skip execOps stepA wantedA evalA aOp Ev put aBin aInt aUn aBinB isShift resVal resVals leave srcLen

section
variable {t : T} {k i : Nat} {v : Value}
@[simp] theorem upd_same : upd t k v k = v := by simp [upd]
theorem upd_ne (h : i ≠ k) : upd t k v i = t i := by simp [upd, h]
@[simp] theorem upd_apply : upd t k v i = if i = k then v else t i := rfl
@[simp] theorem argT_zero {a : Value} {l : List Value} : argT (a :: l) 0 = a := rfl
@[simp] theorem argT_succ {a : Value} {l : List Value} : argT (a :: l) (i + 1) = argT l i := rfl
end

/-- Drawn regions without pairs are rows of operations. -/
@[simp] theorem execDrawn_nil {call : CallF} {l : List AOper} {t : T} {h : Heap} : execDrawn call l [] t h = execOps call l t h := by
  apply opt_ext
  intro r
  constructor
  · intro hx
    unfold execDrawn at hx
    split at hx
    · rename_i t' h' G L hl
      rw [if_pos (show checkPairs (h :: G) L [] from trivial)] at hx
      have : ∀ (l : List AOper) (t : T) (h : Heap) (t' : T) (h' : Heap) (G : List Heap) (L : List LoadRec), execLog call l t h = some (t', h', G, L) → execOps call l t h = some (t', h') := by
        intro l
        induction l with
        | nil =>
          intro t h t' h' G L hx
          simp only [execLog, Option.some.injEq, Prod.mk.injEq] at hx
          simp only [execOps, hx.1, hx.2.1]
        | cons o l ih =>
          intro t h t' h' G L hx
          simp only [execLog] at hx
          simp only [execOps]
          split at hx
          · rename_i t1 h1 hst
            split at hx
            · rename_i t2 h2 G2 L2 hl2
              injection hx with hx
              injection hx with e1 hx
              injection hx with e2 hx
              subst e1 e2
              exact ih _ _ _ _ _ _ hl2
            · cases hx
          · cases hx
      rw [this _ _ _ _ _ _ _ hl]
      exact hx
    · cases hx
  · intro hx
    exact drawnE_ok (by simpa only [drawnE] using hx)

theorem wrap_i64 {x : Int} (h : -9223372036854775808 ≤ x) (h' : x < 9223372036854775808) : IntKind.i64.wrap x = x := by rw [IntKind.wrap_i64]; omega
theorem wrap_u64 {x : Int} (h : 0 ≤ x) (h' : x < 18446744073709551616) : IntKind.u64.wrap x = x := by rw [IntKind.wrap_u64]; omega
theorem wrap_u32 {x : Int} (h : 0 ≤ x) (h' : x < 4294967296) : IntKind.u32.wrap x = x := by rw [IntKind.wrap_u32]; omega
theorem wrap_u16 {x : Int} (h : 0 ≤ x) (h' : x < 65536) : IntKind.u16.wrap x = x := by simp [IntKind.wrap, IntKind.bits, IntKind.signed]; omega
theorem wrap_u8 {x : Int} (h : 0 ≤ x) (h' : x < 256) : IntKind.u8.wrap x = x := by rw [IntKind.wrap_u8]; omega

def I64 (x : Int) : Prop := -9223372036854775808 ≤ x ∧ x < 9223372036854775808
def U64 (x : Int) : Prop := 0 ≤ x ∧ x < 18446744073709551616

theorem wf_i64 {n : Int} (h : (Lit.int .i64 n).wf = true) : I64 n := by
  simp [Lit.wf, IntKind.min, IntKind.max, IntKind.signed, IntKind.bits] at h
  unfold I64; omega
theorem wf_u64 {n : Int} (h : (Lit.int .u64 n).wf = true) : U64 n := by
  simp [Lit.wf, IntKind.min, IntKind.max, IntKind.signed, IntKind.bits] at h
  unfold U64; omega

theorem U64.nat {x : Int} (h : U64 x) : ∃ n : Nat, x = n ∧ n < 18446744073709551616 := ⟨x.toNat, by unfold U64 at h; omega, by unfold U64 at h; omega⟩

theorem shl_u64 {a k : Nat} (hk : k ≤ 64) : aShift .shl .u64 (a : Int) (k : Int) = some (.int .u64 ((a * 2 ^ k % 18446744073709551616 : Nat) : Int)) := by
  have h1 : min k 64 = k := Nat.min_eq_left hk
  simp only [aShift, Int.toNat_natCast, IntKind.bits, h1, IntKind.wrap_u64]
  rw [if_neg (by omega)]
  simp

theorem shr_u64 {a k : Nat} (hk : k ≤ 64) : aShift .shr .u64 (a : Int) (k : Int) = some (.int .u64 ((a / 2 ^ k : Nat) : Int)) := by
  have h1 : min k 64 = k := Nat.min_eq_left hk
  simp only [aShift, Int.toNat_natCast, IntKind.bits, h1]
  rw [if_neg (by omega), Int.fdiv_eq_ediv_of_nonneg _ (by exact Int.pow_nonneg (by decide))]
  simp

theorem andNot_u64 (a b : Nat) (ha : a < 18446744073709551616) (hb : b < 18446744073709551616) :
    bits .andNot .u64 (a : Int) (b : Int) = ((a &&& (18446744073709551615 - b) : Nat) : Int) := by
  have hx : a &&& (18446744073709551615 - b) < 2 ^ 64 := Nat.and_lt_two_pow _ (by omega)
  have h1 : (BitVec.ofInt 64 (a : Int)).toNat = a := by
    rw [BitVec.ofInt_natCast, BitVec.toNat_ofNat]; exact Nat.mod_eq_of_lt (by omega)
  have h2 : (BitVec.ofInt 64 (b : Int)).toNat = b := by
    rw [BitVec.ofInt_natCast, BitVec.toNat_ofNat]; exact Nat.mod_eq_of_lt (by omega)
  show IntKind.u64.wrap ((BitVec.ofInt 64 (a : Int) &&& ~~~ BitVec.ofInt 64 (b : Int)).toNat : Int) = _
  rw [BitVec.toNat_and, BitVec.toNat_not, h1, h2, IntKind.wrap_u64]
  have e : 2 ^ 64 - 1 - b = 18446744073709551615 - b := by omega
  rw [e]
  omega

end Go.Wb

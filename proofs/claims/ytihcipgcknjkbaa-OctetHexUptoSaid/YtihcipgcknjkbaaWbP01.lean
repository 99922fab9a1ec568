/- Chapter 1: what its functions come to. -/
import Derived.Test.YtihcipgcknjkbaaWbLib
import Derived.Test.YtihcipgcknjkbaaWbC01
set_option maxRecDepth 100000
namespace Go.Wb.P01
open Go Go.Wb Go.Wb.Code
section
variable {E : Env} (e : WbC01Env E)
include e

theorem octet_inside (a c : Int) (ha : I64 a) (_ : I64 c) (h : Heap) : callA E "octet.inside" [.int .i64 a, .int .i64 c] h = some (.bool (decide (0 ≤ a ∧ a < 64 ∧ 0 ≤ c ∧ c ≤ 64 - a)), h) := by
  rw [callA_code e.octet_inside]
  unfold I64 at *
  by_cases h1 : 0 ≤ a
  · by_cases h2 : a < 64
    · by_cases h3 : 0 ≤ c
      · have hw : IntKind.i64.wrap (64 - a) = 64 - a := wrap_i64 (by omega) (by omega)
        by_cases h4 : c ≤ 64 - a <;> simp [octet_inside_B, h1, h2, h3, h4, hw]
      · simp [octet_inside_B, h1, h2, h3]
    · simp [octet_inside_B, h1, h2]
  · simp [octet_inside_B, h1]

theorem octet_mask (k : Nat) (hk : k ≤ 64) (h : Heap) : callA E "octet.mask" [.int .i64 k] h = some (.int .u64 ((2 ^ k - 1 : Nat) : Int), h) := by
  rw [callA_code e.octet_mask]
  by_cases h1 : k = 64
  · subst h1
    simp [octet_mask_B]
  · have h2 : ¬ (64 ≤ (k : Int)) := by omega
    have hw : IntKind.u64.wrap (k : Int) = k := wrap_u64 (by omega) (by omega)
    have hs := shl_u64 (a := 1) (k := k) hk
    have hp : 2 ^ k < 18446744073709551616 := by
      have := Nat.pow_lt_pow_right (a := 2) (by decide) (by omega : k < 64)
      omega
    have hpos : 0 < 2 ^ k := Nat.two_pow_pos k
    rw [Nat.one_mul, Nat.mod_eq_of_lt hp] at hs
    have hw2 : IntKind.u64.wrap (2 ^ k - 1 : Int) = ((2 ^ k - 1 : Nat) : Int) := by
      have e1 : ((2 : Int) ^ k - 1) = ((2 ^ k - 1 : Nat) : Int) := by rw [Int.natCast_sub hpos]; simp
      rw [e1]
      exact wrap_u64 (by omega) (by omega)
    simp at hs
    simp [octet_mask_B, h2, hw, hs, hw2]

theorem ref01_are (a c : Int) (ha : I64 a) (h : Heap) : callA E "ref01.are" [.int .i64 a, .int .i64 c] h = some (.bool (decide (0 ≤ a ∧ a < 64 ∧ 0 ≤ c ∧ c ≤ 64 - a)), h) := by
  rw [callA_code e.ref01_are]
  unfold I64 at *
  by_cases h1 : 0 ≤ a
  · by_cases h2 : a < 64
    · have h2' : a ≤ 63 := by omega
      by_cases h3 : 0 ≤ c
      · have hw : IntKind.i64.wrap (64 - a) = 64 - a := wrap_i64 (by omega) (by omega)
        by_cases h4 : c ≤ 64 - a <;> simp [ref01_are_B, h1, h2, h2', h3, h4, hw]
      · simp [ref01_are_B, h1, h2', h3]
    · have h2' : ¬ a ≤ 63 := by omega
      simp [ref01_are_B, h1, h2, h2']
  · simp [ref01_are_B, h1]

omit e in
theorem ref01_bit_loop (h : Heap) : ∀ (k n : Nat) (t : T) (r), runA E (.loop ref01_bit_L0) t h = r → n < 18446744073709551616 → k < 9223372036854775808 → t 0 = .int .u64 n → t 1 = .int .i64 k → ∃ t', r = some (.exit 0, t', h) ∧ t' 0 = .int .u64 ((n / 2 ^ k : Nat) : Int)
  | 0, n, t, r, hr, hn, _, h0, h1 => by
    rw [runA_loop] at hr
    simp [ref01_bit_L0, h1] at hr
    exact ⟨_, hr.symm, by simp [h0]⟩
  | k + 1, n, t, r, hr, hn, hk, h0, h1 => by
    have hp : (0 : Int) < k + 1 := by omega
    have e1 : n / 2 / 2 ^ k = n / 2 ^ (k + 1) := by rw [Nat.div_div_eq_div_mul, Nat.pow_succ, Nat.mul_comm]
    rw [runA_loop] at hr
    simp (disch := omega) [ref01_bit_L0, h0, h1, hp, wrap_i64, wrap_u64] at hr
    rw [← e1]
    exact ref01_bit_loop h k (n / 2) _ _ hr (by omega) (by omega) (by simp) (by simp)

theorem ref01_bit (n k : Nat) (hn : n < 18446744073709551616) (hk : k < 9223372036854775808) (h : Heap) : callA E "ref01.bit" [.int .u64 n, .int .i64 k] h = some (.int .u64 ((n / 2 ^ k % 2 : Nat) : Int), h) := by
  rw [callA_code e.ref01_bit]
  generalize hq : n / 2 ^ k = q
  simp [ref01_bit_B]
  generalize hr : runA E (.loop ref01_bit_L0) _ h = r
  obtain ⟨t', rfl, h0⟩ := ref01_bit_loop h k n _ _ hr hn hk (by simp) (by simp)
  rw [hq] at h0
  have e2 : (q : Int).tmod 2 = q % 2 := Int.tmod_eq_emod_of_nonneg (by omega)
  simp [h0, e2]

omit e in
theorem half_step (B k : Nat) : B / 2 ^ (k + 1) * 2 + B / 2 ^ k % 2 = B / 2 ^ k := by
  rw [Nat.pow_succ, ← Nat.div_div_eq_div_mul]; omega

theorem ref01_Bits_loop (h : Heap) (n f c B : Nat) (hn : n < 18446744073709551616) (hf : f + c ≤ 64) (hB : B < 18446744073709551616) (hbit : ∀ i, i < c → n / 2 ^ (f + i) % 2 = B / 2 ^ i % 2) :
    ∀ (k : Nat) (t : T) (r), runA E (.loop ref01_Bits_L0) t h = r → k ≤ c → t 0 = .int .u64 n → t 1 = .int .i64 f → t 7 = .int .u64 ((B / 2 ^ k : Nat) : Int) → t 8 = .int .i64 ((k : Int) - 1) → ∃ t', r = some (.exit 0, t', h) ∧ t' 7 = .int .u64 B
  | 0, t, r, hr, _, h0, h1, h7, h8 => by
    simp at h7 h8
    rw [runA_loop] at hr
    simp [ref01_Bits_L0, h8] at hr
    exact ⟨_, hr.symm, by simp [h7]⟩
  | k + 1, t, r, hr, hk, h0, h1, h7, h8 => by
    have ih := ref01_Bits_loop h n f c B hn hf hB hbit k
    have hs := half_step B k
    have hb := hbit k (by omega)
    have hcall := ref01_bit e n (f + k) hn (by omega) h
    have h8' : t 8 = .int .i64 (k : Int) := by rw [h8]; congr 1; omega
    have hle : B / 2 ^ k ≤ B := Nat.div_le_self _ _
    rw [hb] at hcall
    generalize B / 2 ^ (k + 1) = q at *
    generalize B / 2 ^ k = p at *
    rw [runA_loop] at hr
    simp at hcall
    simp (disch := omega) [ref01_Bits_L0, h0, h1, h7, h8', wrap_i64, wrap_u64, hcall] at hr
    exact ih _ _ hr (by omega) (by simp [h0]) (by simp [h1]) (by simp; omega) (by simp)

theorem ref01_Bits (n f c : Nat) (hn : n < 18446744073709551616) (hf : f + c ≤ 64) (hf' : f < 64) (h : Heap) : callA E "ref01.Bits" [.int .u64 n, .int .i64 f, .int .i64 c] h = some (.int .u64 ((n / 2 ^ f % 2 ^ c : Nat) : Int), h) := by
  rw [callA_code e.ref01_Bits]
  have hc1 : (f : Int) < 64 := by omega
  have hc2 : (c : Int) ≤ 64 - f := by omega
  have hcall := ref01_are e f c (by unfold I64; omega) h
  have hB : n / 2 ^ f % 2 ^ c ≤ n / 2 ^ f := Nat.mod_le _ _
  have hB' : n / 2 ^ f ≤ n := Nat.div_le_self _ _
  have hbit : ∀ i, i < c → n / 2 ^ (f + i) % 2 = n / 2 ^ f % 2 ^ c / 2 ^ i % 2 := by
    intro i hi
    have h1 : Nat.testBit (n / 2 ^ f % 2 ^ c) i = Nat.testBit n (f + i) := by
      rw [Nat.testBit_mod_two_pow, Nat.testBit_div_two_pow]
      simp [hi, Nat.add_comm]
    simp only [Nat.testBit_eq_decide_div_mod_eq, decide_eq_decide] at h1
    omega
  have hz : n / 2 ^ f % 2 ^ c / 2 ^ c = 0 := Nat.div_eq_of_lt (Nat.mod_lt _ (Nat.two_pow_pos c))
  generalize n / 2 ^ f % 2 ^ c = B at *
  simp (disch := omega) [ref01_Bits_B, hcall, hc1, hc2, wrap_i64]
  generalize hr : runA E (.loop ref01_Bits_L0) _ h = r
  obtain ⟨t', rfl, h7⟩ := ref01_Bits_loop e h n f c B hn hf (by omega) hbit c _ _ hr (Nat.le_refl _) (by simp) (by simp) (by simp [hz]) (by simp)
  simp [h7]

theorem ref01_Bits_no (n f c : Int) (hf : I64 f) (hno : ¬ (0 ≤ f ∧ f < 64 ∧ 0 ≤ c ∧ c ≤ 64 - f)) (h : Heap) : callA E "ref01.Bits" [.int .u64 n, .int .i64 f, .int .i64 c] h = some (.int .u64 0, h) := by
  rw [callA_code e.ref01_Bits]
  have hcall := ref01_are e f c hf h
  rw [decide_eq_false hno] at hcall
  simp [ref01_Bits_B, hcall]

theorem octet_Bits_no (n f c : Int) (hf : I64 f) (hc : I64 c) (hno : ¬ (0 ≤ f ∧ f < 64 ∧ 0 ≤ c ∧ c ≤ 64 - f)) (h : Heap) : callA E "octet.Bits" [.int .u64 n, .int .i64 f, .int .i64 c] h = some (.int .u64 0, h) := by
  rw [callA_code e.octet_Bits]
  have hcall := octet_inside e f c hf hc h
  rw [decide_eq_false hno] at hcall
  simp [octet_Bits_B, hcall]

theorem octet_Bits (n f c : Nat) (hn : n < 18446744073709551616) (hf : f + c ≤ 64) (hf' : f < 64) (h : Heap) : callA E "octet.Bits" [.int .u64 n, .int .i64 f, .int .i64 c] h = some (.int .u64 ((n / 2 ^ f % 2 ^ c : Nat) : Int), h) := by
  rw [callA_code e.octet_Bits]
  have hc1 : (f : Int) < 64 := by omega
  have hc2 : (c : Int) ≤ 64 - f := by omega
  have hcall := octet_inside e f c (by unfold I64; omega) (by unfold I64; omega) h
  have hmask := octet_mask e c (by omega) h
  have hB' : n / 2 ^ f ≤ n := Nat.div_le_self _ _
  have hs := shr_u64 (a := n) (k := f) (by omega)
  have hp : 2 ^ c ≤ 18446744073709551616 := by
    have := Nat.pow_le_pow_right (n := 2) (by decide) (by omega : c ≤ 64)
    omega
  have hpos := Nat.two_pow_pos c
  have hand := bits_and_u64_nat (n / 2 ^ f) (2 ^ c - 1) (by omega) (by omega)
  rw [Nat.and_two_pow_sub_one_eq_mod] at hand
  generalize n / 2 ^ f % 2 ^ c = B at *
  generalize n / 2 ^ f = q at *
  generalize 2 ^ c - 1 = m at *
  simp (disch := omega) [octet_Bits_B, hcall, hc1, hc2, wrap_u64, hs, hmask, hand]

omit e in
theorem two64 (k : Nat) (h : k ≤ 64) : 2 ^ k ≤ 18446744073709551616 := by
  have := Nat.pow_le_pow_right (n := 2) (by decide) h
  omega

/-- Some bits of a number put into another one. -/
def setB (n f c x : Nat) : Nat := (n &&& (18446744073709551615 - (2 ^ c - 1) * 2 ^ f % 18446744073709551616)) ||| ((x &&& (2 ^ c - 1)) * 2 ^ f % 18446744073709551616)

omit e in
theorem setB_lt (n f c x : Nat) (hn : n < 18446744073709551616) : setB n f c x < 18446744073709551616 := by
  have h1 : (n &&& (18446744073709551615 - (2 ^ c - 1) * 2 ^ f % 18446744073709551616)) < 2 ^ 64 := Nat.and_lt_two_pow _ (by omega)
  have h2 : ((x &&& (2 ^ c - 1)) * 2 ^ f % 18446744073709551616) < 2 ^ 64 := by omega
  exact Nat.or_lt_two_pow h1 h2

omit e in
theorem setB_testBit (n f c x k : Nat) (hk : k < 64) : (setB n f c x).testBit k = if f ≤ k ∧ k < f + c then x.testBit (k - f) else n.testBit k := by
  have e1 : (18446744073709551615 - (2 ^ c - 1) * 2 ^ f % 18446744073709551616) = 2 ^ 64 - ((2 ^ c - 1) * 2 ^ f % 2 ^ 64 + 1) := by omega
  unfold setB
  rw [Nat.testBit_or, Nat.testBit_and, e1, Nat.testBit_two_pow_sub_succ (Nat.mod_lt _ (by decide))]
  rw [show (18446744073709551616 : Nat) = 2 ^ 64 from rfl]
  simp only [Nat.testBit_mod_two_pow, Nat.testBit_mul_two_pow, Nat.testBit_and, Nat.testBit_two_pow_sub_one, hk, decide_true, Bool.true_and]
  by_cases h1 : f ≤ k
  · by_cases h2 : k < f + c
    · have h3 : k - f < c := by omega
      simp [h1, h2, h3]
    · have h3 : ¬ (k - f < c) := by omega
      simp [h1, h2, h3]
  · simp [h1]

omit e in
theorem setB_bit (n f c x k : Nat) (hk : k < 64) : setB n f c x / 2 ^ k % 2 = if f ≤ k ∧ k < f + c then x / 2 ^ (k - f) % 2 else n / 2 ^ k % 2 := by
  have h1 := setB_testBit n f c x k hk
  split at h1
  · rename_i h2
    rw [if_pos h2]
    simp only [Nat.testBit_eq_decide_div_mod_eq, decide_eq_decide] at h1
    omega
  · rename_i h2
    rw [if_neg h2]
    simp only [Nat.testBit_eq_decide_div_mod_eq, decide_eq_decide] at h1
    omega

theorem octet_SetBits_no (n f c x : Int) (hf : I64 f) (hc : I64 c) (hno : ¬ (0 ≤ f ∧ f < 64 ∧ 0 ≤ c ∧ c ≤ 64 - f)) (h : Heap) : callA E "octet.SetBits" [.int .u64 n, .int .i64 f, .int .i64 c, .int .u64 x] h = some (.int .u64 n, h) := by
  rw [callA_code e.octet_SetBits]
  have hcall := octet_inside e f c hf hc h
  rw [decide_eq_false hno] at hcall
  simp [octet_SetBits_B, hcall]

theorem ref01_SetBits_no (n f c x : Int) (hf : I64 f) (hno : ¬ (0 ≤ f ∧ f < 64 ∧ 0 ≤ c ∧ c ≤ 64 - f)) (h : Heap) : callA E "ref01.SetBits" [.int .u64 n, .int .i64 f, .int .i64 c, .int .u64 x] h = some (.int .u64 n, h) := by
  rw [callA_code e.ref01_SetBits]
  have hcall := ref01_are e f c hf h
  rw [decide_eq_false hno] at hcall
  simp [ref01_SetBits_B, hcall]

theorem octet_SetBits (n f c x : Nat) (hn : n < 18446744073709551616) (hx : x < 18446744073709551616) (hf : f + c ≤ 64) (hf' : f < 64) (h : Heap) :
    callA E "octet.SetBits" [.int .u64 n, .int .i64 f, .int .i64 c, .int .u64 x] h = some (.int .u64 (setB n f c x), h) := by
  rw [callA_code e.octet_SetBits]
  have hc1 : (f : Int) < 64 := by omega
  have hc2 : (c : Int) ≤ 64 - f := by omega
  have hcall := octet_inside e f c (by unfold I64; omega) (by unfold I64; omega) h
  have hmask := octet_mask e c (by omega) h
  have hp := two64 c (by omega)
  have hpos := Nat.two_pow_pos c
  have hs1 := shl_u64 (a := 2 ^ c - 1) (k := f) (by omega)
  have hand := bits_and_u64_nat x (2 ^ c - 1) hx (by omega)
  have hs2 := shl_u64 (a := x &&& (2 ^ c - 1)) (k := f) (by omega)
  have hnot := andNot_u64 n ((2 ^ c - 1) * 2 ^ f % 18446744073709551616) hn (Nat.mod_lt _ (by decide))
  have hlt : n &&& (18446744073709551615 - (2 ^ c - 1) * 2 ^ f % 18446744073709551616) < 18446744073709551616 := Nat.and_lt_two_pow (n := 64) _ (by omega)
  have hor := bits_or_u64_nat _ ((x &&& (2 ^ c - 1)) * 2 ^ f % 18446744073709551616) hlt (Nat.mod_lt _ (by decide))
  rw [show ((n &&& (18446744073709551615 - (2 ^ c - 1) * 2 ^ f % 18446744073709551616)) ||| ((x &&& (2 ^ c - 1)) * 2 ^ f % 18446744073709551616)) = setB n f c x from rfl] at hor
  generalize setB n f c x = S at *
  generalize (n &&& (18446744073709551615 - (2 ^ c - 1) * 2 ^ f % 18446744073709551616)) = A at *
  generalize ((x &&& (2 ^ c - 1)) * 2 ^ f % 18446744073709551616) = B at *
  generalize (x &&& (2 ^ c - 1)) = D at *
  generalize ((2 ^ c - 1) * 2 ^ f % 18446744073709551616) = F at *
  generalize 2 ^ c - 1 = m at *
  simp (disch := omega) [octet_SetBits_B, hcall, hc1, hc2, wrap_u64, hs1, hmask, hand, hs2, hnot, hor]

theorem ref01_SetBits_loop (h : Heap) (n f c x S : Nat) (hn : n < 18446744073709551616) (hx : x < 18446744073709551616) (hf : f + c ≤ 64) (hB : S < 18446744073709551616)
    (hbit : ∀ k, k < 64 → S / 2 ^ k % 2 = if f ≤ k ∧ k < f + c then x / 2 ^ (k - f) % 2 else n / 2 ^ k % 2) :
    ∀ (k : Nat) (t : T) (r), runA E (.loop ref01_SetBits_L0) t h = r → k ≤ 64 → t 0 = .int .u64 n → t 1 = .int .i64 f → t 2 = .int .i64 c → t 3 = .int .u64 x → t 9 = .int .u64 ((S / 2 ^ k : Nat) : Int) → t 10 = .int .i64 ((k : Int) - 1) → ∃ t', r = some (.exit 0, t', h) ∧ t' 9 = .int .u64 S
  | 0, t, r, hr, _, h0, h1, h2, h3, h9, h10 => by
    simp at h9 h10
    rw [runA_loop] at hr
    simp [ref01_SetBits_L0, h10] at hr
    exact ⟨_, hr.symm, by simp [h9]⟩
  | k + 1, t, r, hr, hk, h0, h1, h2, h3, h9, h10 => by
    have ih := ref01_SetBits_loop h n f c x S hn hx hf hB hbit k
    have hs := half_step S k
    have hb := hbit k (by omega)
    have h10' : t 10 = .int .i64 (k : Int) := by rw [h10]; congr 1; omega
    have hle : S / 2 ^ k ≤ S := Nat.div_le_self _ _
    generalize S / 2 ^ (k + 1) = q at *
    generalize S / 2 ^ k = p at *
    rw [runA_loop] at hr
    by_cases h4 : f ≤ k
    · by_cases h5 : k < f + c
      · have hcall := ref01_bit e x (k - f) hx (by omega) h
        rw [if_pos ⟨h4, h5⟩] at hb
        rw [← hb] at hcall
        have e1 : ((k - f : Nat) : Int) = (k : Int) - f := by omega
        rw [e1] at hcall
        have h5' : (k : Int) < f + c := by omega
        simp at hcall
        simp (disch := omega) [ref01_SetBits_L0, h0, h1, h2, h3, h9, h10', h4, h5', wrap_i64, wrap_u64, hcall] at hr
        exact ih _ _ hr (by omega) (by simp [h0]) (by simp [h1]) (by simp [h2]) (by simp [h3]) (by simp; omega) (by simp)
      · have hcall := ref01_bit e n k hn (by omega) h
        rw [if_neg (by omega)] at hb
        rw [← hb] at hcall
        have h5' : ¬ (k : Int) < f + c := by omega
        simp at hcall
        simp (disch := omega) [ref01_SetBits_L0, h0, h1, h2, h3, h9, h10', h4, h5', wrap_i64, wrap_u64, hcall] at hr
        exact ih _ _ hr (by omega) (by simp [h0]) (by simp [h1]) (by simp [h2]) (by simp [h3]) (by simp; omega) (by simp)
    · have hcall := ref01_bit e n k hn (by omega) h
      rw [if_neg (by omega)] at hb
      rw [← hb] at hcall
      simp at hcall
      simp (disch := omega) [ref01_SetBits_L0, h0, h1, h9, h10', h4, wrap_i64, wrap_u64, hcall] at hr
      exact ih _ _ hr (by omega) (by simp [h0]) (by simp [h1]) (by simp [h2]) (by simp [h3]) (by simp; omega) (by simp)

theorem ref01_SetBits (n f c x : Nat) (hn : n < 18446744073709551616) (hx : x < 18446744073709551616) (hf : f + c ≤ 64) (hf' : f < 64) (h : Heap) :
    callA E "ref01.SetBits" [.int .u64 n, .int .i64 f, .int .i64 c, .int .u64 x] h = some (.int .u64 (setB n f c x), h) := by
  rw [callA_code e.ref01_SetBits]
  have hc1 : (f : Int) < 64 := by omega
  have hc2 : (c : Int) ≤ 64 - f := by omega
  have hcall := ref01_are e f c (by unfold I64; omega) h
  have hbit := setB_bit n f c x
  have hlt := setB_lt n f c x hn
  generalize setB n f c x = S at *
  have hz : S / 2 ^ 64 = 0 := Nat.div_eq_of_lt hlt
  simp (disch := omega) [ref01_SetBits_B, hcall, hc1, hc2, wrap_i64]
  generalize hr : runA E (.loop ref01_SetBits_L0) _ h = r
  obtain ⟨t', rfl, h9⟩ := ref01_SetBits_loop e h n f c x S hn hx hf hlt hbit 64 _ _ hr (Nat.le_refl _) (by simp) (by simp) (by simp) (by simp) (by simp [hz]) (by simp)
  simp [h9]

end
end Go.Wb.P01

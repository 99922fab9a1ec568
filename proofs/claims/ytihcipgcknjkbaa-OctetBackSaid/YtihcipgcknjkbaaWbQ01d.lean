/- Chapter 1: what is put is got. -/
import Derived.Test.YtihcipgcknjkbaaWbQ01
set_option maxRecDepth 100000
namespace Go.Wb.P01
open Go Go.Wb Go.Wb.Code

theorem putL_getD {b : List Nat} {p n j : Nat} (hp : p ≤ b.length) (hj : j < b.length) : ∀ k, k ≤ p → (putL b p n k).getD j 0 = if p - k ≤ j ∧ j < p then n / 256 ^ (p - 1 - j) % 256 else b.getD j 0
  | 0, _ => by
    rw [if_neg (by omega)]
    rfl
  | k + 1, hk => by
    have ih := putL_getD (n := n) hp hj k (by omega)
    rw [putL]
    rw [List.getD_eq_getElem?_getD, List.getElem?_set]
    by_cases h1 : p - 1 - k = j
    · rw [if_pos h1, if_pos (by rw [putL_length]; omega), if_pos (by omega)]
      have : p - 1 - j = k := by omega
      rw [this]
      rfl
    · rw [if_neg h1, ← List.getD_eq_getElem?_getD, ih]
      by_cases h2 : p - k ≤ j ∧ j < p
      · rw [if_pos h2, if_pos (by omega)]
      · rw [if_neg h2, if_neg (by omega)]

theorem num_of_digits : ∀ (w : Nat) (l : List Nat) (n : Nat), l.length = w → (∀ i, i < w → l.getD i 0 = n / 256 ^ (w - 1 - i) % 256) → num l = n % 256 ^ w
  | 0, l, n, hl, _ => by
    have : l = [] := List.length_eq_zero_iff.1 hl
    subst this
    simp [num, Nat.mod_one]
  | w + 1, l, n, hl, hd => by
    have h1 : l = l.take w ++ [l.getD w 0] := by
      rw [← take_succ_getD (by omega), List.take_of_length_le (by omega)]
    have h2 := num_of_digits w (l.take w) (n / 256) (by rw [List.length_take]; omega) (fun i hi => by
      have h3 : (l.take w).getD i 0 = l.getD i 0 := by simp [List.getD, hi]
      rw [h3, hd i (by omega), Nat.div_div_eq_div_mul, ← Nat.pow_succ']
      congr 3
      omega)
    rw [h1, num_snoc, h2, hd w (by omega)]
    have e1 : w + 1 - 1 - w = 0 := by omega
    rw [e1, Nat.pow_zero, Nat.div_one, Nat.pow_succ', Nat.mod_mul]
    omega

theorem get_put {b : List Nat} {a w n : Nat} (hl : a + w ≤ b.length) : num (((putL b (a + w) n w).drop a).take w) = n % 256 ^ w := by
  refine num_of_digits w _ n (by rw [List.length_take, List.length_drop, putL_length]; omega) fun i hi => ?_
  rw [getD_sub hi, putL_getD hl (by omega) w (by omega), if_pos (by omega)]
  congr 3
  omega

section
variable {E : Env} (e : WbC01Env E)

theorem law_OctetBack_loop (h : Heap) (b x : List Nat) (v u : Value) (hv : SlB h b v) (hu : SlB h x u) (hl : x.length = b.length) (hlb : b.length ≤ reach) (k w : Nat) (hk : k < 256) (hw : w < 256)
    (hsame : ∀ j, j < b.length → (j < k ∨ k + w ≤ j) → x.getD j 0 = b.getD j 0) : ∀ (m i : Nat) (t : T) (r), i + m = b.length → runA E (.loop law01_OctetBack_L0) t h = r →
    t 0 = v → t 10 = u → t 8 = .int .i64 k → t 7 = .int .i64 w → t 14 = .int .i64 i → ∃ t', r = some (.exit 0, t', h) ∧ t' 1 = t 1 ∧ t' 5 = t 5 ∧ t' 9 = t 9
  | 0, i, t, r, hi, hr, t0, t10, t8, t7, t14 => by
    have hlen := hv.len
    have hn : ¬ ((i : Int) < b.length) := by omega
    rw [runA_loop] at hr
    simp [law01_OctetBack_L0, t0, t14, hlen, hn] at hr
    exact ⟨_, hr.symm, by simp, by simp, by simp⟩
  | m + 1, i, t, r, hi, hr, t0, t10, t8, t7, t14 => by
    have ih := law_OctetBack_loop h b x v u hv hu hl hlb k w hk hw hsame m (i + 1)
    unfold reach reachBytes at hlb
    have hlen := hv.len
    have hn : ((i : Int) < b.length) := by omega
    have i1 := hv.idx (k := .i64) (j := i) (by omega) (by omega)
    have i2 := hu.idx (k := .i64) (j := i) (by omega) (by omega)
    have r1 := hv.read (j := i) (by omega)
    have r2 := hu.read (j := i) (by omega)
    simp at i1 i2
    rw [runA_loop] at hr
    by_cases h1 : i < k
    · have hs := hsame i (by omega) (.inl h1)
      rw [hs] at r2
      simp (disch := omega) [law01_OctetBack_L0, t0, t10, t8, t14, hlen, hn, h1, i1, i2, r1, r2, wrap_i64] at hr
      obtain ⟨t', q1, q2, q3, q4⟩ := ih _ _ (by omega) hr (by simp [t0]) (by simp [t10]) (by simp [t8]) (by simp [t7]) (by simp)
      exact ⟨t', q1, by simpa using q2, by simpa using q3, by simpa using q4⟩
    · by_cases h2 : k + w ≤ i
      · have hs := hsame i (by omega) (.inr h2)
        rw [hs] at r2
        have h2' : (k : Int) + w ≤ i := by omega
        simp (disch := omega) [law01_OctetBack_L0, t0, t10, t8, t7, t14, hlen, hn, h1, h2', i1, i2, r1, r2, wrap_i64] at hr
        obtain ⟨t', q1, q2, q3, q4⟩ := ih _ _ (by omega) hr (by simp [t0]) (by simp [t10]) (by simp [t8]) (by simp [t7]) (by simp)
        exact ⟨t', q1, by simpa using q2, by simpa using q3, by simpa using q4⟩
      · have h2' : ¬ (k : Int) + w ≤ i := by omega
        simp (disch := omega) [law01_OctetBack_L0, t0, t8, t7, t14, hlen, hn, h1, h2', wrap_i64] at hr
        obtain ⟨t', q1, q2, q3, q4⟩ := ih _ _ (by omega) hr (by simp [t0]) (by simp [t10]) (by simp [t8]) (by simp [t7]) (by simp)
        exact ⟨t', q1, by simpa using q2, by simpa using q3, by simpa using q4⟩

theorem setB_mid (m f c n : Nat) (hf : f + c ≤ 64) : setB m f c n / 2 ^ f % 2 ^ c = n % 2 ^ c := by
  apply Nat.eq_of_testBit_eq
  intro i
  rw [Nat.testBit_mod_two_pow, Nat.testBit_div_two_pow, Nat.testBit_mod_two_pow]
  by_cases hi : i < c
  · rw [setB_testBit m f c n (i + f) (by omega), if_pos (by omega)]
    congr 2
    omega
  · simp [hi]

theorem setB_low (m f c n : Nat) (hf : f + c ≤ 64) : setB m f c n % 2 ^ f = m % 2 ^ f := by
  apply Nat.eq_of_testBit_eq
  intro i
  rw [Nat.testBit_mod_two_pow, Nat.testBit_mod_two_pow]
  by_cases hi : i < f
  · rw [setB_testBit m f c n i (by omega), if_neg (by omega)]
  · simp [hi]

theorem setB_back (m f c n : Nat) (hm : m < 18446744073709551616) (hf : f + c ≤ 64) : setB (setB m f c n) f c (m / 2 ^ f % 2 ^ c) = m := by
  apply Nat.eq_of_testBit_eq
  intro i
  by_cases hi : i < 64
  · rw [setB_testBit _ f c _ i hi]
    split
    · rename_i h1
      rw [Nat.testBit_mod_two_pow, Nat.testBit_div_two_pow]
      have : i - f < c := by omega
      simp only [this, decide_true, Bool.true_and]
      congr 1
      omega
    · rename_i h1
      rw [setB_testBit _ f c _ i hi, if_neg h1]
  · have hp : 2 ^ 64 ≤ 2 ^ i := Nat.pow_le_pow_right (n := 2) (by decide) (by omega)
    have h64 : ∀ y : Nat, y < 18446744073709551616 → y.testBit i = false := fun y hy => Nat.testBit_lt_two_pow (by omega)
    rw [h64 m hm, h64 _ (setB_lt _ _ _ _ (setB_lt _ _ _ _ hm))]

include e
theorem law_OctetBack (B : Nat) (avs : List Value) (h : Heap) (_ : NoOwn h) (ha : AArgs B [.sl 1 1 (.int .u8), .int .u64, .arr 4 (.int .u8)] h avs) : ∃ h', callA E "law01.OctetBack" avs h = some (.bool true, h') := by
  simp only [AArgs] at ha
  obtain ⟨v, _, rfl, a0, v1, _, rfl, a1, v2, _, rfl, a2, rfl⟩ := ha
  obtain ⟨b, hb, h256, hlen, _⟩ := aval_bytes a0
  obtain ⟨n, rfl, hn0⟩ := aval_int a1
  obtain ⟨l, hl, rfl, hw⟩ := aval_arr a2
  obtain ⟨l, rfl, hl256⟩ := nats_of (l := l) (m := 256) (fun x hx => wf_u8 (hw x hx))
  obtain ⟨n, rfl, hn⟩ := (wf_u64 hn0).nat
  rw [List.length_map] at hl
  match l, hl with
  | [k, p1, p2, p3], _ =>
  have hk := hl256 k (by simp)
  have hp1 := hl256 p1 (by simp)
  have hp2 := hl256 p2 (by simp)
  have hp3 := hl256 p3 (by simp)
  have hlb := hlen
  unfold reach reachBytes at hlb
  rw [callA_code e.law01_OctetBack]
  have hv : SlB (newBlk h [.int .u8 k, .int .u8 p1, .int .u8 p2, .int .u8 p3]) b v := hb.sl.mono (.new _ _)
  have hlv := hv.len
  have m1 : (p1 : Int).tmod 8 = p1 % 8 := Int.tmod_eq_emod_of_nonneg (by omega)
  have m2 : (p2 : Int).tmod 64 = p2 % 64 := Int.tmod_eq_emod_of_nonneg (by omega)
  have m3 : (p3 : Int).tmod (65 - p2 % 64) = p3 % (65 - p2 % 64) := Int.tmod_eq_emod_of_nonneg (by omega)
  by_cases hs : b.length < k + (1 + p1 % 8)
  · have hs' : (b.length : Int) < k + (1 + p1 % 8) := by omega
    have hlive := live e (newBlk h [.int .u8 k, .int .u8 p1, .int .u8 p2, .int .u8 p3])
    exact ⟨_, by simp (disch := omega) [law01_OctetBack_B, m1, wrap_i64, hlv, hs', hlive]; rfl⟩
  · have hs' : ¬ (b.length : Int) < k + (1 + p1 % 8) := by omega
    generalize hW : 1 + p1 % 8 = w at *
    have hW' : (1 : Int) + p1 % 8 = w := by omega
    rw [hW'] at hs'
    have q1 := octet_Bits e n 0 (8 * w) hn (by omega) (by omega) (newBlk h [.int .u8 k, .int .u8 p1, .int .u8 p2, .int .u8 p3])
    have e1 : 2 ^ (8 * w) = 256 ^ w := by rw [Nat.pow_mul]
    rw [Nat.pow_zero, Nat.div_one, e1] at q1
    have hmlt : n % 256 ^ w < 256 ^ w := Nat.mod_lt _ (Nat.pow_pos (n := w) (by decide : 0 < 256))
    have hmle : n % 256 ^ w ≤ n := Nat.mod_le _ _
    have hmz : n % 256 ^ w / 256 ^ w = 0 := Nat.div_eq_of_lt hmlt
    have hmm : n % 256 ^ w % 256 ^ w = n % 256 ^ w := Nat.mod_eq_of_lt hmlt
    generalize n % 256 ^ w = m at *
    have hspan : spansE b.length k w = 0 := by
      unfold spansE
      rw [if_neg (by omega), if_neg (by omega)]
    have hpE : putE b.length k w m = 0 := by
      unfold putE
      rw [Int.toNat_natCast, hmz, hspan]
      exact if_neg (by omega)
    have hpB : putB b k w m = putL b (k + w) m w := by
      unfold putB
      rw [if_pos hpE, show ((k : Int) + w).toNat = k + w from by omega, Int.toNat_natCast]
    obtain ⟨h2, u, q2, x2, o2⟩ := octet_Put e hv hlen k w m (by unfold I64; omega) (by unfold I64; omega) (by omega)
    rw [hpE] at q2
    rw [hpB] at o2
    have hxl := putL_length b (k + w) m w
    have q3 := octet_Get e o2.sl (by rw [hxl]; exact hlen) (putL_256 h256 _ _ _) k w (by unfold I64; omega) (by unfold I64; omega)
    have hget : getS (putL b (k + w) m w) k w = (m, 0) := by
      unfold getS
      rw [hxl, if_pos hspan, Int.toNat_natCast, Int.toNat_natCast, get_put (by omega), hmm]
    rw [hget] at q3
    have hlu := o2.sl.len
    rw [hxl] at hlu
    have hloop := law_OctetBack_loop (E := E) h2 b _ v u (hv.mono x2) o2.sl hxl hlen k w hk (by omega) (fun j hj h1 => by rw [putL_getD (by omega) hj w (by omega), if_neg (by omega)]) b.length 0
    generalize putL b (k + w) m w = x at *
    have hI : p2 % 64 < 64 := Nat.mod_lt _ (by decide)
    have hI' : (p2 : Int) % 64 = ((p2 % 64 : Nat) : Int) := by omega
    rw [hI'] at m2 m3
    generalize p2 % 64 = i at *
    have hC' : (p3 : Int) % (65 - i) = ((p3 % (65 - i) : Nat) : Int) := by
      rw [show (65 : Int) - i = ((65 - i : Nat) : Int) from by omega, Int.natCast_emod]
    have hC : p3 % (65 - i) < 65 - i := Nat.mod_lt _ (by omega)
    have hne : ¬ (65 : Int) - i = 0 := by omega
    rw [hC'] at m3
    generalize p3 % (65 - i) = c at *
    have hmlt2 : m < 18446744073709551616 := by omega
    have q4 := octet_SetBits e m i c n hmlt2 hn (by omega) hI h2
    have q5 := octet_Bits e (setB m i c n) i c (setB_lt _ _ _ _ hmlt2) (by omega) hI h2
    have q6 := octet_Bits e n 0 c hn (by omega) (by omega) h2
    have q7 := octet_Bits e (setB m i c n) 0 i (setB_lt _ _ _ _ hmlt2) (by omega) (by omega) h2
    have q8 := octet_Bits e m 0 i hmlt2 (by omega) (by omega) h2
    have q9 := octet_Bits e m i c hmlt2 (by omega) hI h2
    have hd : m / 2 ^ i % 2 ^ c < 18446744073709551616 := by
      have h1 : m / 2 ^ i % 2 ^ c ≤ m / 2 ^ i := Nat.mod_le _ _
      have h2 : m / 2 ^ i ≤ m := Nat.div_le_self _ _
      omega
    have q10 := octet_SetBits e (setB m i c n) i c (m / 2 ^ i % 2 ^ c) (setB_lt _ _ _ _ hmlt2) hd (by omega) hI h2
    rw [setB_mid m i c n (by omega)] at q5
    rw [Nat.pow_zero, Nat.div_one] at q6 q7 q8
    rw [setB_low m i c n (by omega)] at q7
    rw [setB_back m i c n hmlt2 (by omega)] at q10
    generalize m / 2 ^ i % 2 ^ c = d at *
    generalize setB m i c n = z at *
    generalize n % 2 ^ c = y1 at *
    generalize m % 2 ^ i = y2 at *
    have hlive := live e h2
    have r5 : ∀ j, read1 h2 h.length j = cellAt [Value.int .u8 (k : Nat), .int .u8 (p1 : Nat), .int .u8 (p2 : Nat), .int .u8 (p3 : Nat)] j := fun j => read1_ext x2
    simp at q1 q6 q7 q8
    simp (disch := omega) [law01_OctetBack_B, m1, hW', wrap_i64, hlv, hs', q1, q2, hlu, q3]
    generalize hr : runA E (.loop law01_OctetBack_L0) _ _ = r
    obtain ⟨t', rfl, j1, j2, j3⟩ := hloop _ _ (by omega) hr (by simp) (by simp) (by simp) (by simp) (by simp)
    simp at j1 j2 j3
    exact ⟨h2, by simp (disch := omega) [j1, j2, j3, r5, wrap_i64, m2, m3, hne, q4, q5, q6, q7, q8, q9, q10, hlive]⟩
end
end Go.Wb.P01

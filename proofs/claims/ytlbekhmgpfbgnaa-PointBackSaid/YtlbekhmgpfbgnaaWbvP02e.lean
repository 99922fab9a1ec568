/- Chapter 2: quotients, bit by bit. -/
import Derived.Test.YtlbekhmgpfbgnaaWbvP02d
set_option maxRecDepth 100000
set_option linter.all false
namespace Go.Wb.P02
open Go Go.Wb Go.Wb.Code
section
variable {E : EnvW} (e : WbvC02Env E)
theorem rDiv_step {n rh rl ah al xh xl uh ul m bit : Nat} {xs qs : List Int} {z : Int} {lt t1 t2 t3 : Bool} {R} (hz : z = m) (hm : m < 128) (hxs : xs.length = 128) (hqs : qs.length = 128) (hb : xs.getD m 0 = (bit : Int)) (hb1 : bit ≤ 1)
 (c1 : callV E "ref02.Add" [.v (wv rh rl), .v (wv rh rl)] [] = some ([.v (wv ah al), rB t1], [na, na], []))
 (c2 : callV E "ref02.Of" [vk .u64 1] [] = some ([.v (.agg [.sc (.int .u64 0), .sc (.int .u64 1)])], [na], []))
 (c3 : if bit = 1 then callV E "ref02.Add" [.v (wv ah al), .v (.agg [.sc (.int .u64 0), .sc (.int .u64 1)])] [] = some ([.v (wv xh xl), rB t2], [na, na], []) else (ah = xh ∧ al = xl))
 (c4 : callV E "ref02.Of" [vk .u64 n] [] = some ([.v (.agg [.sc (.int .u64 0), .sc (.int .u64 n)])], [na], []))
 (c5 : callV E "ref02.Less" [.v (wv xh xl), .v (.agg [.sc (.int .u64 0), .sc (.int .u64 n)])] [] = some ([rB lt], [na, na], []))
 (c6 : callV E "ref02.Sub" [.v (wv xh xl), .v (.agg [.sc (.int .u64 0), .sc (.int .u64 n)])] [] = some ([.v (wv uh ul), rB t3], [na, na], []))
 (h : runV E (.loop [1, 4, 6, 7, 8, 9] ref02_Div_L0) (updT (updT (updT (updT (updT (updT botT 9 (ti .i64 (z - 1))) 8 (if lt = true then wb xh xl else wb uh ul)) 7 (.box (kc .i64 (if lt = true then qs else qs.set m 1)))) 6 (.box (kc .i64 xs))) 4 w0) 1 (ti .u64 n)) = R) :
 runV E (.loop [1, 4, 6, 7, 8, 9] ref02_Div_L0) (updT (updT (updT (updT (updT (updT botT 9 (ti .i64 z)) 8 (wb rh rl)) 7 (.box (kc .i64 qs))) 6 (.box (kc .i64 xs))) 4 w0) 1 (ti .u64 n)) = R := by
 subst h
 subst hz
 have hc : 0 ≤ (m : Int) := by omega
 have k1 : (m : Int) < 128 := by omega
 by_cases hv : bit = 1
 ·rw [if_pos hv] at c3
  subst hv
  have hb : xs.getD m 0 = 1 := hb
  cases lt
  ·refine loop_go (by simp (maxSteps := 1000000) (disch := first | omega | (simp only [lnS] <;> omega) | assumption | fail) [ref02_Div_L0, wwS, -List.getD_eq_getElem?_getD, -List.drop_drop, hc, k1, hxs, hqs, hb, c1, c2, c3, c4, c5, c6]; rfl) ?_
   rfl
  ·refine loop_go (by simp (maxSteps := 1000000) (disch := first | omega | (simp only [lnS] <;> omega) | assumption | fail) [ref02_Div_L0, wwS, -List.getD_eq_getElem?_getD, -List.drop_drop, hc, k1, hxs, hqs, hb, c1, c2, c3, c4, c5, c6]; rfl) ?_
   rfl
 ·rw [if_neg hv] at c3
  obtain ⟨rfl, rfl⟩ := c3
  have hv0 : bit = 0 := by omega
  subst hv0
  have hb : xs.getD m 0 = 0 := hb
  cases lt
  ·refine loop_go (by simp (maxSteps := 1000000) (disch := first | omega | (simp only [lnS] <;> omega) | assumption | fail) [ref02_Div_L0, wwS, -List.getD_eq_getElem?_getD, -List.drop_drop, hc, k1, hxs, hqs, hb, c1, c4, c5, c6]; rfl) ?_
   rfl
  ·refine loop_go (by simp (maxSteps := 1000000) (disch := first | omega | (simp only [lnS] <;> omega) | assumption | fail) [ref02_Div_L0, wwS, -List.getD_eq_getElem?_getD, -List.drop_drop, hc, k1, hxs, hqs, hb, c1, c4, c5, c6]; rfl) ?_
   rfl
theorem rdiv_arith {N n m : Nat} (hn : 0 < n) :
 (2 * (N / 2 ^ (m + 1) % n) + N / 2 ^ m % 2 < n → N / 2 ^ m % n = 2 * (N / 2 ^ (m + 1) % n) + N / 2 ^ m % 2 ∧ N / n / 2 ^ m % 2 = 0) ∧
 (¬ 2 * (N / 2 ^ (m + 1) % n) + N / 2 ^ m % 2 < n → N / 2 ^ m % n = 2 * (N / 2 ^ (m + 1) % n) + N / 2 ^ m % 2 - n ∧ N / n / 2 ^ m % 2 = 1) := by
 have hc : N / n / 2 ^ m = N / 2 ^ m / n := by rw [Nat.div_div_eq_div_mul, Nat.div_div_eq_div_mul, Nat.mul_comm]
 have hu : N / 2 ^ (m + 1) = N / 2 ^ m / 2 := by rw [Nat.pow_succ, Nat.div_div_eq_div_mul]
 rw [hc, hu]
 generalize N / 2 ^ m = v
 have hb : v % 2 ≤ 1 := by omega
 have hv : v = 2 * (v / 2) + v % 2 := by omega
 have hr := Nat.mod_lt (v / 2) hn
 have hd := Nat.div_add_mod (v / 2) n
 generalize v / 2 % n = r at *
 generalize v / 2 / n = q at *
 generalize v % 2 = b at *
 have hv2 : v = n * (2 * q) + (2 * r + b) := by
  rw [hv, ← hd, Nat.mul_add, ← Nat.mul_assoc, ← Nat.mul_assoc, Nat.mul_comm 2 n]
  omega
 constructor
 ·intro h
  rw [hv2, Nat.mul_add_mod, Nat.mod_eq_of_lt h, Nat.mul_add_div hn, Nat.div_eq_of_lt h]
  exact ⟨rfl, by omega⟩
 ·intro h
  have hv3 : v = n * (2 * q + 1) + (2 * r + b - n) := by rw [hv2, Nat.mul_add, Nat.mul_one]; omega
  rw [hv3, Nat.mul_add_mod, Nat.mod_eq_of_lt (by omega), Nat.mul_add_div hn, Nat.div_eq_of_lt (by omega)]
  exact ⟨rfl, by omega⟩
theorem zi_succ {m : Nat} {S : List Int} : zi (m + 1) 0 ++ S = zi m 0 ++ (0 :: S) := by
 unfold zi
 rw [List.replicate_succ', List.append_assoc]; rfl
include e in
theorem rDiv_loop (N n : Nat) (hn : 0 < n) (hn' : n < 18446744073709551616) (hN : N < 340282366920938463463374607431768211456) : ∀ (m k : Nat) (z : Int) (qs : List Int), z = (m : Int) - 1 → k + m = 128 → qs = zi m 0 ++ bl k (N / n / 2 ^ m) →
 runV E (.loop [1, 4, 6, 7, 8, 9] ref02_Div_L0) (updT (updT (updT (updT (updT (updT botT 9 (ti .i64 z)) 8 (wb 0 (N / 2 ^ m % n))) 7 (.box (kc .i64 qs))) 6 (.box (kc .i64 (bl 128 N)))) 4 w0) 1 (ti .u64 n)) =
  some (.exit 0, updT (updT (updT botT 8 (wb 0 (N % n))) 7 (.box (kc .i64 (bl 128 (N / n))))) 4 w0)
 | 0, k, z, qs, hz, hk, hq => by
   have hc : ¬ 0 ≤ z := by omega
   have hk' : k = 128 := by omega
   rw [Nat.pow_zero, Nat.div_one, hk'] at hq
   have hq : qs = bl 128 (N / n) := hq
   rw [Nat.pow_zero, Nat.div_one, hq]
   generalize bl 128 N = xs
   generalize bl 128 (N / n) = ys
   generalize N % n = r
   refine loop_out (by simp (maxSteps := 1000000) (disch := first | omega | (simp only [lnS] <;> omega) | assumption | fail) [ref02_Div_L0, wwS, -List.getD_eq_getElem?_getD, -List.drop_drop, hc]; first | exact ⟨rfl, rfl⟩ | exact rfl) ?_ (by simp)
   rfl
 | m + 1, k, z, qs, hz, hk, hq => by
   obtain ⟨ha1, ha2⟩ := rdiv_arith (N := N) (n := n) (m := m) hn
   have hr := Nat.mod_lt (N / 2 ^ (m + 1)) hn
   have hb1 : N / 2 ^ m % 2 ≤ 1 := by omega
   have hgb := bl_get (n := 128) (x := N) (i := m) (by omega)
   have hqs : qs.length = 128 := by rw [hq]; simp [bl_len]; omega
   have hS : bl (k + 1) (N / n / 2 ^ m) = ((N / n / 2 ^ m % 2 : Nat) : Int) :: bl k (N / n / 2 ^ (m + 1)) := by
    rw [bl, Nat.pow_succ, Nat.div_div_eq_div_mul (N / n)]
   obtain ⟨r, hrr⟩ : ∃ r, N / 2 ^ (m + 1) % n = r := ⟨_, rfl⟩
   obtain ⟨bit, hbit⟩ : ∃ b, N / 2 ^ m % 2 = b := ⟨_, rfl⟩
   rw [hrr] at ha1 ha2 hr ⊢
   rw [hbit] at ha1 ha2 hb1 hgb
   have n0 : ∀ x, nv 0 x = x := fun x => by simp [nv]
   have c1 := ref02_Add e 0 r 0 r (by omega) (by omega) (by omega) (by omega)
   rw [n0, Nat.mod_eq_of_lt (by omega : r + r < 340282366920938463463374607431768211456)] at c1
   have c2 := ref02_Of e 1
   have c3 := ref02_Add e (H (r + r)) (L (r + r)) 0 1 (H_lt (by omega)) (L_lt _) (by omega) (by omega)
   rw [nv_HL, n0, Nat.mod_eq_of_lt (by omega : r + r + 1 < 340282366920938463463374607431768211456)] at c3
   have c4 := ref02_Of e n
   have c5 := ref02_Less e (H (2 * r + bit)) (L (2 * r + bit)) 0 n (H_lt (by omega)) (L_lt _) (by omega) hn'
   rw [nv_HL, n0] at c5
   have c6 := ref02_Sub e (H (2 * r + bit)) (L (2 * r + bit)) 0 n (H_lt (by omega)) (L_lt _) (by omega) hn'
   rw [nv_HL, n0] at c6
   have c3' : ∃ t2, if bit = 1 then callV E "ref02.Add" [.v (wv (H (r + r)) (L (r + r))), .v (.agg [.sc (.int .u64 0), .sc (.int .u64 1)])] [] = some ([.v (wv (H (2 * r + bit)) (L (2 * r + bit))), rB t2], [na, na], []) else (H (r + r) = H (2 * r + bit) ∧ L (r + r) = L (2 * r + bit)) := by
    by_cases hb : bit = 1
    ·refine ⟨decide (340282366920938463463374607431768211456 ≤ r + r + 1), ?_⟩
     rw [if_pos hb]
     have : 2 * r + bit = r + r + 1 := by omega
     rw [this]
     exact c3
    ·refine ⟨true, ?_⟩
     rw [if_neg hb]
     have : 2 * r + bit = r + r := by omega
     rw [this]
     exact ⟨rfl, rfl⟩
   obtain ⟨t2, c3'⟩ := c3'
   by_cases hlt : 2 * r + bit < n
   ·obtain ⟨g1, g2⟩ := ha1 hlt
    rw [decide_eq_true hlt] at c5
    have ih := rDiv_loop N n hn hn' hN m (k + 1) (z - 1) qs (by omega) (by omega) (by rw [hq, zi_succ, hS, g2]; rfl)
    rw [← ih, g1]
    refine rDiv_step (m := m) (lt := true) (bit := bit) (by omega) (by omega) bl_len hqs hgb hb1 c1 c2 c3' c4 c5 c6 ?_
    rw [if_pos rfl, if_pos rfl]
    have e1 : H (2 * r + bit) = 0 := by unfold H; omega
    have e2 : L (2 * r + bit) = 2 * r + bit := by unfold L; omega
    rw [e1, e2]
   ·obtain ⟨g1, g2⟩ := ha2 hlt
    rw [decide_eq_false hlt] at c5
    have hset : qs.set m 1 = zi m 0 ++ bl (k + 1) (N / n / 2 ^ m) := by
     rw [hq, zi_succ, set_mid (by simp), hS, g2, List.append_assoc]; rfl
    have ih := rDiv_loop N n hn hn' hN m (k + 1) (z - 1) (qs.set m 1) (by omega) (by omega) hset
    have e0 : (2 * r + bit + 340282366920938463463374607431768211456 - n) % 340282366920938463463374607431768211456 = 2 * r + bit - n := by omega
    rw [e0] at c6
    rw [← ih, g1]
    refine rDiv_step (m := m) (lt := false) (bit := bit) (by omega) (by omega) bl_len hqs hgb hb1 c1 c2 c3' c4 c5 c6 ?_
    rw [if_neg (by simp), if_neg (by simp)]
    rw [Nat.div_eq_of_lt (by omega : 2 * r + bit - n < 18446744073709551616), Nat.mod_eq_of_lt (by omega : 2 * r + bit - n < 18446744073709551616)]
end
end Go.Wb.P02

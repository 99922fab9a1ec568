/- Chapter 2: products. -/
import Derived.Test.YtlbekhmgpfbgnaaWbvP02b
set_option maxRecDepth 100000
set_option linter.all false
namespace Go.Wb.P02
open Go Go.Wb Go.Wb.Code
def H (N : Nat) : Nat := N / 18446744073709551616
def L (N : Nat) : Nat := N % 18446744073709551616
theorem nv_HL (N : Nat) : nv (H N) (L N) = N := by unfold nv H L; omega
theorem L_lt (N : Nat) : L N < 18446744073709551616 := by unfold L; omega
theorem H_lt {N : Nat} (h : N < 340282366920938463463374607431768211456) : H N < 18446744073709551616 := by unfold H; omega
def addM (A B : Nat) : Nat := (A + B) % 340282366920938463463374607431768211456
theorem addM_lt (A B : Nat) : addM A B < 340282366920938463463374607431768211456 := Nat.mod_lt _ (by decide)
theorem mul_step (o x B : Nat) : addM (if B % 2 = 1 then addM o x else o) (addM x x * (B / 2)) = addM o (x * B) := by
 unfold addM
 have hB : x * B = x * (B % 2) + (x + x) * (B / 2) := by
  have : B = B % 2 + 2 * (B / 2) := by omega
  calc x * B = x * (B % 2 + 2 * (B / 2)) := by rw [← this]
   _ = _ := by rw [Nat.mul_add, ← Nat.mul_assoc, Nat.mul_two]
 rw [hB]
 have h1 : (if B % 2 = 1 then (o + x) % 340282366920938463463374607431768211456 else o) % 340282366920938463463374607431768211456 = (o + x * (B % 2)) % 340282366920938463463374607431768211456 := by
  rcases Nat.mod_two_eq_zero_or_one B with h | h
  ·rw [h, if_neg (by decide), Nat.mul_zero, Nat.add_zero]
  ·rw [h, if_pos rfl, Nat.mod_mod, Nat.mul_one]
 rw [Nat.add_mod, h1, ← Nat.add_assoc, Nat.add_mod (o + x * (B % 2))]
 congr 2
 rw [Nat.mul_mod, Nat.mod_mod, ← Nat.mul_mod]
section
variable {E : EnvW} (e : WbvC02Env E)
include e in
theorem ref02_AddV {a b c d : Nat} (ha : a < 18446744073709551616) (hb : b < 18446744073709551616) (hc : c < 18446744073709551616) (hd : d < 18446744073709551616) :
 ∃ (h l : Nat) (t : Bool), h < 18446744073709551616 ∧ l < 18446744073709551616 ∧ nv h l = addM (nv a b) (nv c d) ∧ callV E "ref02.Add" [.v (wv a b), .v (wv c d)] [] = some ([.v (wv h l), rB t], [na, na], []) :=
 ⟨H (addM (nv a b) (nv c d)), L (addM (nv a b) (nv c d)), _, H_lt (addM_lt _ _), L_lt _, nv_HL _, ref02_Add e a b c d ha hb hc hd⟩
include e in
theorem wide_AddV {a b c d : Nat} (ha : a < 18446744073709551616) (hb : b < 18446744073709551616) (hc : c < 18446744073709551616) (hd : d < 18446744073709551616) :
 ∃ (h l : Nat) (t : Bool), h < 18446744073709551616 ∧ l < 18446744073709551616 ∧ nv h l = addM (nv a b) (nv c d) ∧ t = decide (340282366920938463463374607431768211456 ≤ nv a b + nv c d) ∧ callV E "wide.Add" [.v (wv a b), .v (wv c d)] [] = some ([.v (wv h l), rB t], [na, na], []) :=
 ⟨H (addM (nv a b) (nv c d)), L (addM (nv a b) (nv c d)), _, H_lt (addM_lt _ _), L_lt _, nv_HL _, rfl, wide_Add e a b c d ha hb hc hd⟩
theorem Mul_step {xh xl oh ol ph pl rh rl k v : Nat} {t1 t2 : Bool} {ys : List Int} {R} (hc : (k : Int) < 64) (hy : ys.length = 128) (hv : ys.getD k 0 = (v : Int))
 (q1 : callV E "ref02.Add" [.v (wv oh ol), .v (wv xh xl)] [] = some ([.v (wv ph pl), rB t1], [na, na], [])) (q2 : callV E "ref02.Add" [.v (wv xh xl), .v (wv xh xl)] [] = some ([.v (wv rh rl), rB t2], [na, na], []))
 (h : runV E (.loop [4, 5, 6, 7, 8] ref02_Mul_L0) (updT (updT (updT (updT (updT botT 8 (ti .i64 ((k : Int) + 1))) 7 (wb rh rl)) 6 (.box (kc .i64 ys))) 5 (if v = 1 then wb ph pl else wb oh ol)) 4 w0) = R) :
 runV E (.loop [4, 5, 6, 7, 8] ref02_Mul_L0) (updT (updT (updT (updT (updT botT 8 (ti .i64 k)) 7 (wb xh xl)) 6 (.box (kc .i64 ys))) 5 (wb oh ol)) 4 w0) = R := by
 subst h
 have c1 : (k : Int) < 128 := by omega
 by_cases hv1 : v = 1
 ·subst hv1
  have hv : ys.getD k 0 = 1 := hv
  rw [if_pos rfl]
  refine loop_go (by simp (maxSteps := 1000000) (disch := first | omega | (simp only [lnS] <;> omega) | assumption | fail) [ref02_Mul_L0, wwS, -List.getD_eq_getElem?_getD, -List.drop_drop, hc, hy, hv, q1, q2, c1]; rfl) ?_
  rfl
 ·rw [if_neg hv1]
  have hv2 : ¬ (v : Int) = 1 := by omega
  refine loop_go (by simp (maxSteps := 1000000) (disch := first | omega | (simp only [lnS] <;> omega) | assumption | fail) [ref02_Mul_L0, wwS, -List.getD_eq_getElem?_getD, -List.drop_drop, hc, hy, hv, hv2, hv1, q2, c1]; rfl) ?_
  rfl
include e in
theorem Mul_loop (b : Nat) (ys : List Int) (hy : ys.length = 128) (gy : ∀ i, i < 64 → ys.getD i 0 = ((b / 2 ^ i % 2 : Nat) : Int)) : ∀ (m k xh xl oh ol : Nat), k + m = 64 → b / 2 ^ k < 2 ^ m → xh < 18446744073709551616 → xl < 18446744073709551616 → oh < 18446744073709551616 → ol < 18446744073709551616 →
 ∃ h l : Nat, h < 18446744073709551616 ∧ l < 18446744073709551616 ∧ nv h l = addM (nv oh ol) (nv xh xl * (b / 2 ^ k)) ∧
 runV E (.loop [4, 5, 6, 7, 8] ref02_Mul_L0) (updT (updT (updT (updT (updT botT 8 (ti .i64 (k : Int))) 7 (wb xh xl)) 6 (.box (kc .i64 ys))) 5 (wb oh ol)) 4 w0) = some (.exit 0, updT (updT botT 5 (wb h l)) 4 w0)
 | 0, k, xh, xl, oh, ol, hk, hb, h1, h2, h3, h4 => by
   have hb0 : b / 2 ^ k = 0 := by simpa using hb
   have hc : ¬ ((k : Int) < 64) := by omega
   refine ⟨oh, ol, h3, h4, ?_, ?_⟩
   ·rw [hb0, Nat.mul_zero]; unfold addM nv; omega
   ·refine loop_out (by simp (maxSteps := 1000000) (disch := first | omega | (simp only [lnS] <;> omega) | assumption | fail) [ref02_Mul_L0, wwS, -List.getD_eq_getElem?_getD, -List.drop_drop, hc]; first | exact ⟨rfl, rfl⟩ | exact rfl) ?_ (by simp)
    rfl
 | m + 1, k, xh, xl, oh, ol, hk, hb, h1, h2, h3, h4 => by
   obtain ⟨ph, pl, t1, p1, p2, p3, q1⟩ := ref02_AddV e h3 h4 h1 h2
   obtain ⟨rh, rl, t2, r1, r2, r3, q2⟩ := ref02_AddV e h1 h2 h1 h2
   have hd : b / 2 ^ (k + 1) = b / 2 ^ k / 2 := by rw [Nat.pow_succ, Nat.div_div_eq_div_mul]
   have hb' : b / 2 ^ (k + 1) < 2 ^ m := by
    rw [hd]; rw [Nat.pow_succ] at hb; omega
   have gk := gy k (by omega)
   by_cases hv : b / 2 ^ k % 2 = 1
   ·obtain ⟨h, l, s1, s2, s3, s4⟩ := Mul_loop b ys hy gy m (k + 1) rh rl ph pl (by omega) hb' r1 r2 p1 p2
    refine ⟨h, l, s1, s2, ?_, ?_⟩
    ·have := mul_step (nv oh ol) (nv xh xl) (b / 2 ^ k)
     rw [if_pos hv] at this
     rw [s3, p3, r3, hd, this]
    ·refine Mul_step (by omega) hy gk q1 q2 ?_
     rw [if_pos hv]
     exact s4
   ·obtain ⟨h, l, s1, s2, s3, s4⟩ := Mul_loop b ys hy gy m (k + 1) rh rl oh ol (by omega) hb' r1 r2 h3 h4
    refine ⟨h, l, s1, s2, ?_, ?_⟩
    ·have := mul_step (nv oh ol) (nv xh xl) (b / 2 ^ k)
     rw [if_neg hv] at this
     rw [s3, r3, hd, this]
    ·refine Mul_step (by omega) hy gk q1 q2 ?_
     rw [if_neg hv]
     exact s4
theorem prod_lt {a b : Nat} (ha : a < 18446744073709551616) (hb : b < 18446744073709551616) : a * b < 340282366920938463463374607431768211456 := by
 have h1 : a * b ≤ 18446744073709551615 * 18446744073709551615 := Nat.mul_le_mul (by omega) (by omega)
 have h2 : 18446744073709551615 * 18446744073709551615 < 340282366920938463463374607431768211456 := by decide
 exact Nat.lt_of_le_of_lt h1 h2
include e in
theorem refMul_run {a b h l : Nat} {ys : List Int} (hy : ys.length = 128) (q1 : callV E "ref02.Bits" [.v (wv 0 b)] [] = some ([.v (.agg (kp .i64 ys))], [na], []))
 (q2 : runV E (.loop [4, 5, 6, 7, 8] ref02_Mul_L0) (updT (updT (updT (updT (updT botT 8 (ti .i64 0)) 7 (wb 0 a)) 6 (.box (kc .i64 ys))) 5 (wb 0 0)) 4 w0) = some (.exit 0, updT (updT botT 5 (wb h l)) 4 w0)) :
 callV E "ref02.Mul" [vk .u64 a, vk .u64 b] [] = some ([.v (wv h l)], [na, na], []) := by
 have o1 := ref02_Of e a
 have o2 := ref02_Of e b
 have hz : (zi 128 0).length = 128 := zi_len
 have q1 : callV E "ref02.Bits" [.v (.agg [.sc (.int .u64 0), .sc (.int .u64 b)])] [] = some ([.v (.agg (kp .i64 ys))], [na], []) := q1
 have o1 : callV E "ref02.Of" [vk .u64 a] [] = some ([.v (.agg [.sc (.int .u64 0), .sc (.int .u64 a)])], [na], []) := o1
 have o2 : callV E "ref02.Of" [vk .u64 b] [] = some ([.v (.agg [.sc (.int .u64 0), .sc (.int .u64 b)])], [na], []) := o2
 have q2 : runV E (.loop [4, 5, 6, 7, 8] ref02_Mul_L0) (updT (updT (updT (updT (updT botT 8 (ti .i64 0)) 7 (.box [.v (.sc (.int .u64 0)), .v (.sc (.int .u64 a))])) 6 (.box (kc .i64 ys))) 5 (.box [.v (.sc (.int .u64 0)), .v (.sc (.int .u64 0))])) 4 w0) = some (.exit 0, updT (updT botT 5 (wb h l)) 4 w0) := q2
 refine callV_fn e.ref02_Mul fun nd hnd => ?_
 simp (maxSteps := 1000000) (disch := first | omega | (simp only [lnS] <;> omega) | assumption | fail) [ref02_Mul_B, wwS, -List.getD_eq_getElem?_getD, -List.drop_drop, q1, q2, o1, o2, hy, hz]
include e in
theorem ref02_Mul (a b : Nat) (ha : a < 18446744073709551616) (hb : b < 18446744073709551616) : ∃ h l : Nat, h < 18446744073709551616 ∧ l < 18446744073709551616 ∧ nv h l = a * b ∧ callV E "ref02.Mul" [vk .u64 a, vk .u64 b] [] = some ([.v (wv h l)], [na, na], []) := by
 have q1 := ref02_Bits e 0 b (by omega) hb
 have hn : nv 0 b = b := by unfold nv; omega
 have hn0 : nv 0 0 = 0 := by simp [nv]
 have hna : nv 0 a = a := by unfold nv; omega
 have hb64 : b / 2 ^ 0 < 2 ^ 64 := by
  rw [Nat.pow_zero, Nat.div_one, show (2 : Nat) ^ 64 = 18446744073709551616 by decide]; exact hb
 rw [hn] at q1
 obtain ⟨h, l, h1, h2, h3, h4⟩ := Mul_loop e b (bl 128 b) bl_len (fun i hi => bl_get (by omega)) 64 0 0 a 0 0 (by omega) hb64 (by omega) ha (by omega) (by omega)
 refine ⟨h, l, h1, h2, ?_, refMul_run e bl_len q1 h4⟩
 rw [h3, hn0, hna, Nat.pow_zero, Nat.div_one]
 unfold addM
 rw [Nat.zero_add, Nat.mod_eq_of_lt (prod_lt ha hb)]
include e in
theorem wide_low (n : Nat) (hn : n < 18446744073709551616) : callV E "wide.low" [vk .u64 n] [] = some ([rk .u64 (n % 4294967296 : Nat)], [na], []) := by
 refine callV_fn e.wide_low fun nd hnd => ?_
 simp (maxSteps := 1000000) (disch := first | omega | (simp only [lnS] <;> omega) | assumption | fail) [wide_low_B, wwS, -List.getD_eq_getElem?_getD, -List.drop_drop]
theorem Mul2 {p0 p1 p2 p3 g1 s1 g2 s2 ah al oh ol : Nat} {t1 t2 : Bool} (l1 : p1 < 18446744073709551616) (l2 : p2 < 18446744073709551616) (x1 : p1 / 4294967296 = g1) (x2 : p2 / 4294967296 = g2) (y1 : p1 % 4294967296 * 4294967296 = s1) (y2 : p2 % 4294967296 * 4294967296 = s2)
 (q1 : callV E "wide.Add" [.v (wv p3 p0), .v (wv g1 s1)] [] = some ([.v (wv ah al), rB t1], [na, na], [])) (q2 : callV E "wide.Add" [.v (wv ah al), .v (wv g2 s2)] [] = some ([.v (wv oh ol), rB t2], [na, na], [])) :
 runV E (.loop [4, 5, 6, 35, 36, 37] wide_Mul_L0) (updT (updT (updT (updT (updT (updT botT 37 (ti .i64 0)) 36 (ti .i64 2)) 35 (.slc 5 none 1 2 1)) 6 (wb p3 p0)) 5 (.box [.v (.sc (.int .u64 (p0 : Int))), .v (.sc (.int .u64 (p1 : Int))), .v (.sc (.int .u64 (p2 : Int))), .v (.sc (.int .u64 (p3 : Int)))])) 4 w0) =
  some (.exit 0, updT (updT botT 6 (wb oh ol)) 4 w0) := by
 have x1 : (p1 : Int) / 4294967296 = g1 := by omega
 have x2 : (p2 : Int) / 4294967296 = g2 := by omega
 have z1 : IntKind.u64.wrap ((p1 : Int) * 4294967296) = s1 := by rw [IntKind.wrap_u64]; omega
 have z2 : IntKind.u64.wrap ((p2 : Int) * 4294967296) = s2 := by rw [IntKind.wrap_u64]; omega
 clear y1 y2 l1 l2
 refine loop_go (by simp (maxSteps := 1000000) (disch := first | omega | (simp only [lnS] <;> omega) | assumption | fail) [wide_Mul_L0, wwS, -List.getD_eq_getElem?_getD, -List.drop_drop, x1, x2, z1, z2, q1, q2]; rfl) ?_
 refine loop_go (by simp (maxSteps := 1000000) (disch := first | omega | (simp only [lnS] <;> omega) | assumption | fail) [wide_Mul_L0, wwS, -List.getD_eq_getElem?_getD, -List.drop_drop, x1, x2, z1, z2, q1, q2]; rfl) ?_
 refine loop_out (by simp (maxSteps := 1000000) (disch := first | omega | (simp only [lnS] <;> omega) | assumption | fail) [wide_Mul_L0, wwS, -List.getD_eq_getElem?_getD, -List.drop_drop, x1]; first | exact ⟨rfl, rfl⟩ | exact rfl) ?_ (by simp)
 rfl
include e in
theorem wideMul_run {a b p0 p1 p2 p3 oh ol al ah bl' bh : Nat} (ha : a < 18446744073709551616) (hb : b < 18446744073709551616) (h1 : a % 4294967296 = al) (h2 : a / 4294967296 = ah) (h3 : b % 4294967296 = bl') (h4 : b / 4294967296 = bh)
 (m0 : al * bl' = p0) (m1 : ah * bl' = p1) (m2 : al * bh = p2) (m3 : ah * bh = p3) (r0 : p0 < 18446744073709551616) (r1 : p1 < 18446744073709551616) (r2 : p2 < 18446744073709551616) (r3 : p3 < 18446744073709551616)
 (q : runV E (.loop [4, 5, 6, 35, 36, 37] wide_Mul_L0) (updT (updT (updT (updT (updT (updT botT 37 (ti .i64 0)) 36 (ti .i64 2)) 35 (.slc 5 none 1 2 1)) 6 (wb p3 p0)) 5 (.box [.v (.sc (.int .u64 (p0 : Int))), .v (.sc (.int .u64 (p1 : Int))), .v (.sc (.int .u64 (p2 : Int))), .v (.sc (.int .u64 (p3 : Int)))])) 4 w0) =
  some (.exit 0, updT (updT botT 6 (wb oh ol)) 4 w0)) : callV E "wide.Mul" [vk .u64 a, vk .u64 b] [] = some ([.v (wv oh ol)], [na, na], []) := by
 have la := wide_low e a ha
 have lb := wide_low e b hb
 rw [h1] at la
 rw [h3] at lb
 have h2 : (a : Int) / 4294967296 = ah := by omega
 have h4 : (b : Int) / 4294967296 = bh := by omega
 have m0 : (al : Int) * bl' = p0 := by exact_mod_cast m0
 have m1 : (ah : Int) * bl' = p1 := by exact_mod_cast m1
 have m2 : (al : Int) * bh = p2 := by exact_mod_cast m2
 have m3 : (ah : Int) * bh = p3 := by exact_mod_cast m3
 refine callV_fn e.wide_Mul fun nd hnd => ?_
 simp (maxSteps := 1000000) (disch := first | omega | (simp only [lnS] <;> omega) | assumption | fail) [wide_Mul_B, wwS, -List.getD_eq_getElem?_getD, -List.drop_drop, la, lb, h2, h4, m0, m1, m2, m3, q]
theorem small_mul {x y : Nat} (hx : x < 4294967296) (hy : y < 4294967296) : x * y < 18446744073709551616 := by
 have h1 : x * y ≤ 4294967295 * 4294967295 := Nat.mul_le_mul (by omega) (by omega)
 have h2 : 4294967295 * 4294967295 < 18446744073709551616 := by decide
 exact Nat.lt_of_le_of_lt h1 h2
theorem mul_parts (al ah bl' bh : Nat) : (ah * 4294967296 + al) * (bh * 4294967296 + bl') = ah * bh * 18446744073709551616 + al * bl' + ah * bl' * 4294967296 + al * bh * 4294967296 := by
 rw [Nat.add_mul, Nat.mul_add, Nat.mul_add]
 have e1 : ah * 4294967296 * (bh * 4294967296) = ah * bh * 18446744073709551616 := by
  rw [Nat.mul_mul_mul_comm]
 have e2 : ah * 4294967296 * bl' = ah * bl' * 4294967296 := Nat.mul_right_comm _ _ _
 have e3 : al * (bh * 4294967296) = al * bh * 4294967296 := (Nat.mul_assoc _ _ _).symm
 rw [e1, e2, e3]
 generalize ah * bh = x
 generalize ah * bl' = y
 generalize al * bh = z
 generalize al * bl' = w
 omega
theorem half_nv {p g s : Nat} (x : p / 4294967296 = g) (y : p % 4294967296 * 4294967296 = s) : nv g s = p * 4294967296 := by
 have h := Nat.div_add_mod p 4294967296
 rw [x] at h
 unfold nv
 rw [← y, ← h, show 18446744073709551616 = 4294967296 * 4294967296 by decide, Nat.add_mul, ← Nat.mul_assoc, Nat.mul_comm 4294967296 g]
 rw [Nat.mul_comm g 4294967296, Nat.mul_add_mod, Nat.mod_mod]
theorem three_sum {x p1 p2 : Nat} (h : x + p1 * 4294967296 + p2 * 4294967296 < 340282366920938463463374607431768211456) : addM (addM x (p1 * 4294967296)) (p2 * 4294967296) = x + p1 * 4294967296 + p2 * 4294967296 := by
 unfold addM
 rw [Nat.mod_eq_of_lt (Nat.lt_of_le_of_lt (Nat.le_add_right _ _) h), Nat.mod_eq_of_lt h]
include e in
theorem wide_Mul (a b : Nat) (ha : a < 18446744073709551616) (hb : b < 18446744073709551616) : ∃ h l : Nat, h < 18446744073709551616 ∧ l < 18446744073709551616 ∧ nv h l = a * b ∧ callV E "wide.Mul" [vk .u64 a, vk .u64 b] [] = some ([.v (wv h l)], [na, na], []) := by
 have hab := prod_lt ha hb
 have hp := mul_parts (a % 4294967296) (a / 4294967296) (b % 4294967296) (b / 4294967296)
 rw [show a / 4294967296 * 4294967296 + a % 4294967296 = a by omega, show b / 4294967296 * 4294967296 + b % 4294967296 = b by omega] at hp
 rw [hp] at hab
 obtain ⟨p0, m0⟩ : ∃ p, a % 4294967296 * (b % 4294967296) = p := ⟨_, rfl⟩
 obtain ⟨p1, m1⟩ : ∃ p, a / 4294967296 * (b % 4294967296) = p := ⟨_, rfl⟩
 obtain ⟨p2, m2⟩ : ∃ p, a % 4294967296 * (b / 4294967296) = p := ⟨_, rfl⟩
 obtain ⟨p3, m3⟩ : ∃ p, a / 4294967296 * (b / 4294967296) = p := ⟨_, rfl⟩
 have r0 := small_mul (show a % 4294967296 < 4294967296 by omega) (show b % 4294967296 < 4294967296 by omega)
 have r1 := small_mul (show a / 4294967296 < 4294967296 by omega) (show b % 4294967296 < 4294967296 by omega)
 have r2 := small_mul (show a % 4294967296 < 4294967296 by omega) (show b / 4294967296 < 4294967296 by omega)
 have r3 := small_mul (show a / 4294967296 < 4294967296 by omega) (show b / 4294967296 < 4294967296 by omega)
 rw [m0] at r0
 rw [m1] at r1
 rw [m2] at r2
 rw [m3] at r3
 rw [m0, m1, m2, m3] at hp hab
 obtain ⟨g1, x1⟩ : ∃ g, p1 / 4294967296 = g := ⟨_, rfl⟩
 obtain ⟨g2, x2⟩ : ∃ g, p2 / 4294967296 = g := ⟨_, rfl⟩
 obtain ⟨s1, y1⟩ : ∃ g, p1 % 4294967296 * 4294967296 = g := ⟨_, rfl⟩
 obtain ⟨s2, y2⟩ : ∃ g, p2 % 4294967296 * 4294967296 = g := ⟨_, rfl⟩
 obtain ⟨uh, ul, t1, u1, u2, u3, _, u4⟩ := wide_AddV e (a := p3) (b := p0) (c := g1) (d := s1) r3 r0 (by omega) (by omega)
 obtain ⟨vh, vl, t2, v1, v2, v3, _, v4⟩ := wide_AddV e (a := uh) (b := ul) (c := g2) (d := s2) u1 u2 (by omega) (by omega)
 refine ⟨vh, vl, v1, v2, ?_, wideMul_run e ha hb rfl rfl rfl rfl m0 m1 m2 m3 r0 r1 r2 r3 (Mul2 (E := E) (ah := uh) (al := ul) (t1 := t1) (t2 := t2) r1 r2 x1 x2 y1 y2 u4 v4)⟩
 rw [v3, u3, half_nv x1 y1, half_nv x2 y2, hp]
 exact three_sum hab
include e in
theorem muls_run (hlive : callV E "law02.live" [] [] = some ([rB true], [], [])) {a b h l : Nat} (q1 : callV E "wide.Mul" [vk .u64 a, vk .u64 b] [] = some ([.v (wv h l)], [na, na], [])) (q2 : callV E "ref02.Mul" [vk .u64 a, vk .u64 b] [] = some ([.v (wv h l)], [na, na], [])) :
 callV E "law02.WideMuls" [vk .u64 a, vk .u64 b] [] = some ([rB true], [na, na], []) := by
 refine callV_fn e.law02_WideMuls fun nd hnd => ?_
 simp (maxSteps := 1000000) (disch := first | omega | (simp only [lnS] <;> omega) | assumption | fail) [law02_WideMuls_B, wwS, -List.getD_eq_getElem?_getD, -List.drop_drop, q1, q2, hlive]
theorem nv_inj {a b c d : Nat} (hb : b < 18446744073709551616) (hd : d < 18446744073709551616) (h : nv a b = nv c d) : a = c ∧ b = d := by
 unfold nv at h; omega
theorem pv_u64 {B : Nat} {p : PV} (hv : PVal B (.int .u64) p) : ∃ a : Nat, p = .sc (.int .u64 (a : Int)) ∧ a < 18446744073709551616 := by
 obtain ⟨n, rfl, hn⟩ := pv_int hv
 have hn := wf_u64 hn
 exact ⟨n.toNat, by rw [Int.toNat_of_nonneg hn.1], by omega⟩
include e in
theorem muls_law (hlive : callV E "law02.live" [] [] = some ([rB true], [], [])) (B : Nat) (avs : List PV) (ha : PArgs B [.int .u64, .int .u64] avs) : ∃ o ho, callV E "law02.WideMuls" (avs.map .v) [] = some ([rB true], o, ho) := by
 simp only [PArgs] at ha
 obtain ⟨v0, _, rfl, a0, v1, _, rfl, a1, rfl⟩ := ha
 obtain ⟨a, rfl, ha⟩ := pv_u64 a0
 obtain ⟨b, rfl, hb⟩ := pv_u64 a1
 obtain ⟨h, l, h1, h2, h3, q1⟩ := wide_Mul e a b ha hb
 obtain ⟨h', l', h1', h2', h3', q2⟩ := ref02_Mul e a b ha hb
 obtain ⟨rfl, rfl⟩ := nv_inj h2 h2' (h3.trans h3'.symm)
 exact ⟨[na, na], [], muls_run e hlive q1 q2⟩
end
end Go.Wb.P02

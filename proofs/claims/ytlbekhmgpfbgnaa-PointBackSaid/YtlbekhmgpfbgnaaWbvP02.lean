/- Chapter 2: wide numbers; bits. -/
import Derived.Test.YtlbekhmgpfbgnaaWbA6
import Derived.Test.YtlbekhmgpfbgnaaWbvC02
set_option maxRecDepth 100000
set_option linter.all false
namespace Go.Wb.P02
open Go Go.Wb Go.Wb.Code
def bl : Nat → Nat → List Int
 | 0, _ => []
 | n + 1, x => ((x % 2 : Nat) : Int) :: bl n (x / 2)
theorem bl_len : ∀ {n x : Nat}, (bl n x).length = n
 | 0, _ => rfl
 | n + 1, x => by simp [bl, bl_len]
theorem bl_app : ∀ (n m x : Nat), bl (n + m) x = bl n x ++ bl m (x / 2 ^ n)
 | 0, m, x => by simp [bl]
 | n + 1, m, x => by
   rw [show n + 1 + m = n + m + 1 by omega]
   simp only [bl, List.cons_append]
   rw [bl_app n m (x / 2), Nat.div_div_eq_div_mul, Nat.pow_succ, Nat.mul_comm 2]
theorem bl_mod : ∀ (n x : Nat), bl n (x % 2 ^ n) = bl n x
 | 0, x => rfl
 | n + 1, x => by
   simp only [bl]
   have h1 : x % 2 ^ (n + 1) % 2 = x % 2 := Nat.mod_mod_of_dvd x (by rw [Nat.pow_succ]; exact Nat.dvd_mul_left _ _)
   have h2 : x % 2 ^ (n + 1) / 2 = x / 2 % 2 ^ n := by
    rw [Nat.pow_succ, Nat.mul_comm, Nat.mod_mul_right_div_self]
   rw [h1, h2, bl_mod n]
theorem bl_get : ∀ {n x i : Nat}, i < n → (bl n x).getD i 0 = ((x / 2 ^ i % 2 : Nat) : Int)
 | 0, _, _, h => absurd h (Nat.not_lt_zero _)
 | n + 1, x, 0, _ => by simp [bl]
 | n + 1, x, i + 1, h => by
   have := bl_get (n := n) (x := x / 2) (i := i) (by omega)
   simp only [bl, List.getD_cons_succ, this, Nat.div_div_eq_div_mul, Nat.pow_succ, Nat.mul_comm 2]
def nv (a b : Nat) : Nat := a * 18446744073709551616 + b
theorem bl_nv {a b : Nat} (hb : b < 18446744073709551616) : bl 128 (nv a b) = bl 64 b ++ bl 64 a := by
 rw [bl_app 64 64, ← bl_mod 64 (nv a b)]
 unfold nv
 congr 2
 ·show _ % 18446744073709551616 = _
  omega
 ·show _ / 18446744073709551616 = _
  omega
section
variable {E : EnvW} (e : WbvC02Env E)
abbrev wv (a b : Nat) : PV := .agg [.sc (.int .u64 (a : Int)), .sc (.int .u64 (b : Int))]
abbrev wb (a b : Nat) : TV := .box [.v (.sc (.int .u64 (a : Int))), .v (.sc (.int .u64 (b : Int)))]
theorem Bits_loop : ∀ (m k : Nat) (p q z1 z2 l : List Int) (a b : Nat), k + m = 64 → l = p ++ (z1 ++ (q ++ z2)) → p.length = k → q.length = k → z1.length = m → z2.length = m → a < 18446744073709551616 → b < 18446744073709551616 →
 runV E (.loop [1, 2, 3, 4] ref02_Bits_L0) (updT (updT (updT (updT botT 4 (ti .i64 k)) 3 (.box (kc .i64 l))) 2 (.box (kc .i64 (zi 128 0)))) 1 (wb a b)) =
  some (.exit 0, updT (updT botT 3 (.box (kc .i64 (p ++ (bl m b ++ (q ++ bl m a)))))) 2 (.box (kc .i64 (zi 128 0))))
 | 0, k, p, q, z1, z2, l, a, b, hk, hl, hp, hq, h1, h2, ha, hb => by
   have hc : ¬ ((k : Int) < 64) := by omega
   have e1 : z1 = [] := List.length_eq_zero_iff.1 h1
   have e2 : z2 = [] := List.length_eq_zero_iff.1 h2
   subst e1 e2
   refine loop_out (by simp (maxSteps := 1000000) (disch := first | omega | (simp only [lnS] <;> omega) | assumption | fail) [ref02_Bits_L0, wwS, -List.getD_eq_getElem?_getD, -List.drop_drop, hc]; first | exact ⟨rfl, rfl⟩ | exact rfl) ?_ (by simp)
   rw [hl]; rfl
 | m + 1, k, p, q, z1, z2, l, a, b, hk, hl, hp, hq, h1, h2, ha, hb => by
   have hc : ((k : Int) < 64) := by omega
   match z1, z2, h1, h2 with
   | c :: z1, d :: z2, h1, h2 =>
   have hlen : l.length = 128 := by rw [hl]; simp at *; omega
   have i1 : (64 + (k : Int)).toNat = 64 + k := by omega
   have c1 : (k : Int) < 128 := by omega
   have c2 : 64 + (k : Int) < 128 := by omega
   have c3 : 0 ≤ 64 + (k : Int) := by omega
   have x1 : (b : Int) % 2 = ((b % 2 : Nat) : Int) := by omega
   have x2 : (a : Int) % 2 = ((a % 2 : Nat) : Int) := by omega
   have y1 : (b : Int) / 2 = ((b / 2 : Nat) : Int) := by omega
   have y2 : (a : Int) / 2 = ((a / 2 : Nat) : Int) := by omega
   refine loop_go (by simp (maxSteps := 1000000) (disch := first | omega | (simp only [lnS] <;> omega) | assumption | fail) [ref02_Bits_L0, wwS, -List.getD_eq_getElem?_getD, -List.drop_drop, hc, hlen, i1, c1, c2, c3]; rfl) ?_
   rw [x1, x2, y1, y2]
   have hset : (l.set k ((b % 2 : Nat) : Int)).set (64 + k) ((a % 2 : Nat) : Int) = (p ++ [((b % 2 : Nat) : Int)]) ++ (z1 ++ ((q ++ [((a % 2 : Nat) : Int)]) ++ z2)) := by
    have hz1 : z1.length = m := by simpa using h1
    rw [hl, List.set_append_right _ _ (by omega), hp, Nat.sub_self, List.cons_append, List.set_cons_zero, List.set_append_right _ _ (by omega), hp]
    rw [show 64 + k - k = 63 + 1 by omega, List.set_cons_succ, List.set_append_right _ _ (by omega), hz1, List.set_append_right _ _ (by omega), hq]
    rw [show 63 - m - k = 0 by omega, List.set_cons_zero]
    simp
   rw [hset]
   have ih := Bits_loop m (k + 1) (p ++ [((b % 2 : Nat) : Int)]) (q ++ [((a % 2 : Nat) : Int)]) z1 z2 _ (a / 2) (b / 2) (by omega) rfl (by simp [hp]) (by simp [hq]) (by simpa using h1) (by simpa using h2) (by omega) (by omega)
   rw [show (k : Int) + 1 = ((k + 1 : Nat) : Int) by omega, ih]
   simp only [bl, List.append_assoc, List.cons_append, List.nil_append]
include e in
theorem ref02_Bits (a b : Nat) (ha : a < 18446744073709551616) (hb : b < 18446744073709551616) : callV E "ref02.Bits" [.v (wv a b)] [] = some ([.v (.agg (kp .i64 (bl 128 (nv a b))))], [na], []) := by
 have h := Bits_loop (E := E) 64 0 [] [] (zi 64 0) (zi 64 0) (zi 128 0) a b (by omega) (by decide) rfl rfl (by simp) (by simp) ha hb
 rw [show ((0 : Nat) : Int) = 0 from rfl] at h
 simp only [List.nil_append] at h
 rw [← bl_nv hb] at h
 have hl : (bl 128 (nv a b)).length = 128 := bl_len
 have hz : (zi 128 0).length = 128 := zi_len
 generalize bl 128 (nv a b) = l at *
 refine callV_fn e.ref02_Bits fun nd hnd => ?_
 simp (maxSteps := 1000000) (disch := first | omega | (simp only [lnS] <;> omega) | assumption | fail) [ref02_Bits_B, wwS, -List.getD_eq_getElem?_getD, -List.drop_drop, h, hl, hz]
theorem whole_loop (l : List Int) (hl : l.length = 128) (hi lo : Nat) (hh : hi < 18446744073709551616) (hlo : lo < 18446744073709551616) (h1 : ∀ i, i < 64 → l.getD i 0 = ((lo / 2 ^ i % 2 : Nat) : Int)) (h2 : ∀ i, i < 64 → l.getD (64 + i) 0 = ((hi / 2 ^ i % 2 : Nat) : Int)) :
 ∀ (m : Nat) (z : Int), z = (m : Int) - 1 → m ≤ 64 →
 runV E (.loop [1, 2, 3, 4] ref02_whole_L0) (updT (updT (updT (updT botT 4 (ti .i64 z)) 3 (wb (hi / 2 ^ m) (lo / 2 ^ m))) 2 (wb 0 0)) 1 (.box (kc .i64 l))) = some (.exit 0, updT (updT botT 3 (wb hi lo)) 2 (wb 0 0))
 | 0, z, hz, hm => by
   have hc : ¬ (0 ≤ z) := by omega
   refine loop_out (by simp (maxSteps := 1000000) (disch := first | omega | (simp only [lnS] <;> omega) | assumption | fail) [ref02_whole_L0, wwS, -List.getD_eq_getElem?_getD, -List.drop_drop, hc]; first | exact ⟨rfl, rfl⟩ | exact rfl) ?_ (by simp)
   simp
 | m + 1, z, hz, hm => by
   have g1 := h1 m (by omega)
   have g2 := h2 m (by omega)
   have ih := whole_loop l hl hi lo hh hlo h1 h2 m (z - 1) (by omega) (by omega)
   have hz' : z = (m : Int) := by omega
   subst hz'
   have e1 : lo / 2 ^ (m + 1) = lo / 2 ^ m / 2 := by rw [Nat.pow_succ, Nat.div_div_eq_div_mul]
   have e2 : hi / 2 ^ (m + 1) = hi / 2 ^ m / 2 := by rw [Nat.pow_succ, Nat.div_div_eq_div_mul]
   rw [e1, e2]
   have r1 : lo / 2 ^ m < 18446744073709551616 := Nat.lt_of_le_of_lt (Nat.div_le_self _ _) hlo
   have r2 : hi / 2 ^ m < 18446744073709551616 := Nat.lt_of_le_of_lt (Nat.div_le_self _ _) hh
   generalize lo / 2 ^ m = x at *
   generalize hi / 2 ^ m = y at *
   have g1 : l.getD m 0 = (x : Int) % 2 := by rw [g1]; omega
   have g2 : l.getD (64 + m) 0 = (y : Int) % 2 := by rw [g2]; omega
   have hc : 0 ≤ (m : Int) := by omega
   have i1 : (64 + (m : Int)).toNat = 64 + m := by omega
   have c1 : (m : Int) < 128 := by omega
   have c2 : 64 + (m : Int) < 128 := by omega
   have c3 : 0 ≤ 64 + (m : Int) := by omega
   refine loop_go (by simp (maxSteps := 1000000) (disch := first | omega | (simp only [lnS] <;> omega) | assumption | fail) [ref02_whole_L0, wwS, -List.getD_eq_getElem?_getD, -List.drop_drop, hc, i1, c1, c2, c3, g1, g2, hl]; rfl) ?_
   rw [show (x : Int) / 2 * 2 + (x : Int) % 2 = x by omega, show (y : Int) / 2 * 2 + (y : Int) % 2 = y by omega]
   exact ih
include e in
theorem ref02_whole (N : Nat) (hN : N < 340282366920938463463374607431768211456) : callV E "ref02.whole" [.v (.agg (kp .i64 (bl 128 N)))] [] = some ([.v (wv (N / 18446744073709551616) (N % 18446744073709551616))], [na], []) := by
 have hl : (bl 128 N).length = 128 := bl_len
 have hb : bl 128 N = bl 64 (N % 18446744073709551616) ++ bl 64 (N / 18446744073709551616) := by
  rw [← bl_nv (by omega)]
  congr 1
  unfold nv
  omega
 have h1 : ∀ i, i < 64 → (bl 128 N).getD i 0 = ((N % 18446744073709551616 / 2 ^ i % 2 : Nat) : Int) := by
  intro i hi
  rw [hb, List.getD_eq_getElem?_getD, List.getElem?_append_left (by rw [bl_len]; exact hi), ← List.getD_eq_getElem?_getD, bl_get hi]
 have h2 : ∀ i, i < 64 → (bl 128 N).getD (64 + i) 0 = ((N / 18446744073709551616 / 2 ^ i % 2 : Nat) : Int) := by
  intro i hi
  rw [hb, List.getD_eq_getElem?_getD, List.getElem?_append_right (by rw [bl_len]; omega), bl_len, Nat.add_sub_cancel_left, ← List.getD_eq_getElem?_getD, bl_get hi]
 have h := whole_loop (E := E) (bl 128 N) hl (N / 18446744073709551616) (N % 18446744073709551616) (by omega) (by omega) h1 h2 64 63 (by omega) (by omega)
 rw [Nat.div_eq_of_lt (by omega : N / 18446744073709551616 < 2 ^ 64), Nat.div_eq_of_lt (by omega : N % 18446744073709551616 < 2 ^ 64)] at h
 generalize bl 128 N = l at *
 generalize N / 18446744073709551616 = a at *
 generalize N % 18446744073709551616 = b at *
 have h : runV E (.loop [1, 2, 3, 4] ref02_whole_L0) (updT (updT (updT (updT botT 4 (ti .i64 63)) 3 (.box [.v (.sc (.int .u64 0)), .v (.sc (.int .u64 0))])) 2 (.box [.v (.sc (.int .u64 0)), .v (.sc (.int .u64 0))])) 1 (.box (kc .i64 l))) = some (.exit 0, updT (updT botT 3 (wb a b)) 2 (.box [.v (.sc (.int .u64 0)), .v (.sc (.int .u64 0))])) := h
 refine callV_fn e.ref02_whole fun nd hnd => ?_
 simp (maxSteps := 1000000) (disch := first | omega | (simp only [lnS] <;> omega) | assumption | fail) [ref02_whole_B, wwS, -List.getD_eq_getElem?_getD, -List.drop_drop, h, hl]
end
end Go.Wb.P02

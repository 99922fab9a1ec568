/- Chapter 2: quotients. -/
import Derived.Test.YtlbekhmgpfbgnaaWbvP02c
set_option maxRecDepth 100000
set_option linter.all false
namespace Go.Wb.P02
open Go Go.Wb Go.Wb.Code
section
variable {E : EnvW} (e : WbvC02Env E)
include e in
theorem twice_run {h l o x y u v r s : Nat} (hx : h * 2 = x) (hy : l / 9223372036854775808 = y) (hu : l * 2 % 18446744073709551616 = u) (h63 : h < 9223372036854775808) (hl : l < 18446744073709551616) (ho : o ≤ 1) (hr : x + y = r) (hs : u + o = s) :
 callV E "wide.twice" [.v (wv h l), vk .u64 o] [] = some ([.v (wv r s)], [na, na], []) := by
 have w1 : IntKind.u64.wrap ((h : Int) * 2) = x := by rw [IntKind.wrap_u64]; omega
 have w2 : IntKind.u64.wrap ((l : Int) * 2) = u := by rw [IntKind.wrap_u64]; omega
 have w3 : (l : Int) / 9223372036854775808 = y := by omega
 have o1 : bits .or .u64 (x : Int) (y : Int) = r := by
  rw [or_u64 1 (by omega) (by omega) (by omega) (by omega) (by omega) (by omega)]; omega
 have o2 : bits .or .u64 (u : Int) (o : Int) = s := by
  rw [or_u64 1 (by omega) (by omega) (by omega) (by omega) (by omega) (by omega)]; omega
 clear hx hy hu hr hs
 refine callV_fn e.wide_twice fun nd hnd => ?_
 simp (maxSteps := 1000000) (disch := first | omega | (simp only [lnS] <;> omega) | assumption | fail) [wide_twice_B, wwS, -List.getD_eq_getElem?_getD, -List.drop_drop, w1, w2, w3, o1, o2]
theorem Div_step {n qh ah al ql rh rl th tl m bit ql2 uh ul q3 : Nat} {R} {lt t2 : Bool} {z : Int} (hz : z = m) (hm : m < 64) (hal : al < 18446744073709551616) (hbit : al / 2 ^ m % 2 = bit) (hq : ql * 2 = ql2) (hql : ql < 9223372036854775808) (hq3 : ql2 + 1 = q3)
 (c1 : callV E "wide.twice" [.v (wv rh rl), vk .u64 bit] [] = some ([.v (wv th tl)], [na, na], [])) (c2 : callV E "wide.Of" [vk .u64 n] [] = some ([.v (wv 0 n)], [na], [])) (c3 : callV E "wide.Less" [.v (wv th tl), .v (wv 0 n)] [] = some ([rB lt], [na, na], []))
 (c4 : callV E "wide.Sub" [.v (wv th tl), .v (wv 0 n)] [] = some ([.v (wv uh ul), rB t2], [na, na], []))
 (h : runV E (.loop [1, 2, 4, 6, 7, 8] wide_Div_L0) (updT (updT (updT (updT (updT (updT botT 8 (ti .i64 (z - 1))) 7 (if lt = true then wb th tl else wb uh ul)) 6 (wb qh (if lt = true then ql2 else q3))) 4 w0) 2 (wb ah al)) 1 (ti .u64 n)) = R) :
 runV E (.loop [1, 2, 4, 6, 7, 8] wide_Div_L0) (updT (updT (updT (updT (updT (updT botT 8 (ti .i64 z)) 7 (wb rh rl)) 6 (wb qh ql)) 4 w0) 2 (wb ah al)) 1 (ti .u64 n)) = R := by
 subst h
 subst hz
 have hc : 0 ≤ (m : Int) := by omega
 have w1 : IntKind.u64.wrap (m : Int) = m := by rw [IntKind.wrap_u64]; omega
 have w2 : IntKind.u64.wrap ((ql : Int) * 2) = ql2 := by rw [IntKind.wrap_u64]; omega
 have hd : (al : Int) / 2 ^ m = ((al / 2 ^ m : Nat) : Int) := by simp
 have hmin : min m 64 = m := by omega
 have hb2 : (((al / 2 ^ m : Nat) : Int) % 2) = bit := by omega
 have hlt : al / 2 ^ m < 18446744073709551616 := Nat.lt_of_le_of_lt (Nat.div_le_self _ _) hal
 have o1 : bits .or .u64 (ql2 : Int) 1 = q3 := by
  rw [or_u64 1 (by omega) (by omega) (by omega) (by omega) (by omega) (by omega)]; omega
 generalize al / 2 ^ m = sh at *
 clear hbit hq hq3
 cases lt
 ·refine loop_go (by simp (maxSteps := 1000000) (disch := first | omega | (simp only [lnS] <;> omega) | assumption | fail) [wide_Div_L0, wwS, -List.getD_eq_getElem?_getD, -List.drop_drop, hc, w1, w2, hd, hmin, hb2, o1, c1, c2, c3, c4]; rfl) ?_
  rfl
 ·refine loop_go (by simp (maxSteps := 1000000) (disch := first | omega | (simp only [lnS] <;> omega) | assumption | fail) [wide_Div_L0, wwS, -List.getD_eq_getElem?_getD, -List.drop_drop, hc, w1, w2, hd, hmin, hb2, o1, c1, c2, c3, c4]; rfl) ?_
  rfl
theorem div_arith {n rl al m c r1 : Nat} (hn : 0 < n) (hT : 2 * rl + al / 2 ^ m % 2 = r1 + c * n) :
 (rl * 2 ^ (m + 1) + al % 2 ^ (m + 1)) / n = (r1 * 2 ^ m + al % 2 ^ m) / n + c * 2 ^ m ∧ (rl * 2 ^ (m + 1) + al % 2 ^ (m + 1)) % n = (r1 * 2 ^ m + al % 2 ^ m) % n := by
 have h : rl * 2 ^ (m + 1) + al % 2 ^ (m + 1) = (r1 * 2 ^ m + al % 2 ^ m) + n * (c * 2 ^ m) := by
  have e1 : rl * 2 ^ (m + 1) + al % 2 ^ (m + 1) = (2 * rl + al / 2 ^ m % 2) * 2 ^ m + al % 2 ^ m := by
   rw [Nat.mod_pow_succ, Nat.pow_succ, Nat.add_mul, Nat.mul_comm (al / 2 ^ m % 2), Nat.mul_comm 2 rl, Nat.mul_assoc, Nat.mul_comm 2 (2 ^ m)]
   omega
  rw [e1, hT, Nat.add_mul, Nat.mul_comm c n, Nat.mul_assoc]
  omega
 rw [h]
 exact ⟨Nat.add_mul_div_left _ _ hn, Nat.add_mul_mod_self_left _ _ _⟩
include e in
theorem Div_loop (n qh ah al : Nat) (hn : 0 < n) (hn' : n < 18446744073709551616) (hal : al < 18446744073709551616) : ∀ (m k : Nat) (z : Int) (rl ql : Nat), z = (m : Int) - 1 → k + m = 64 → rl < n → ql < 2 ^ k →
 runV E (.loop [1, 2, 4, 6, 7, 8] wide_Div_L0) (updT (updT (updT (updT (updT (updT botT 8 (ti .i64 z)) 7 (wb 0 rl)) 6 (wb qh ql)) 4 w0) 2 (wb ah al)) 1 (ti .u64 n)) =
  some (.exit 0, updT (updT (updT botT 7 (wb 0 ((rl * 2 ^ m + al % 2 ^ m) % n))) 6 (wb qh (ql * 2 ^ m + (rl * 2 ^ m + al % 2 ^ m) / n))) 4 w0)
 | 0, k, z, rl, ql, hz, hk, hr, hq => by
   have hc : ¬ 0 ≤ z := by omega
   rw [Nat.pow_zero, Nat.mod_one, Nat.mul_one, Nat.add_zero, Nat.mul_one, Nat.div_eq_of_lt hr, Nat.mod_eq_of_lt hr, Nat.add_zero]
   refine loop_out (by simp (maxSteps := 1000000) (disch := first | omega | (simp only [lnS] <;> omega) | assumption | fail) [wide_Div_L0, wwS, -List.getD_eq_getElem?_getD, -List.drop_drop, hc]; first | exact ⟨rfl, rfl⟩ | exact rfl) ?_ (by simp)
   rfl
 | m + 1, k, z, rl, ql, hz, hk, hr, hq => by
   have hq63 : ql < 9223372036854775808 := Nat.lt_of_lt_of_le hq (by rw [show (9223372036854775808 : Nat) = 2 ^ 63 by decide]; exact Nat.pow_le_pow_right (by decide) (by omega))
   obtain ⟨bit, hbit⟩ : ∃ b, al / 2 ^ m % 2 = b := ⟨_, rfl⟩
   have hb1 : bit ≤ 1 := by omega
   obtain ⟨y, hy⟩ : ∃ y, rl / 9223372036854775808 = y := ⟨_, rfl⟩
   obtain ⟨u, hu⟩ : ∃ u, rl * 2 % 18446744073709551616 = u := ⟨_, rfl⟩
   obtain ⟨s, hs⟩ : ∃ s, u + bit = s := ⟨_, rfl⟩
   have c1 := twice_run e (h := 0) (l := rl) (o := bit) (x := 0) (y := y) (u := u) (v := 0) (r := y) (s := s) rfl hy hu (by omega) (by omega) hb1 (by omega) hs
   have hnv : nv y s = 2 * rl + bit := by unfold nv; omega
   have c2 := wide_Of e n
   have c3 := wide_Less e y s 0 n (by omega) (by omega) (by omega) hn'
   have n0 : nv 0 n = n := by simp [nv]
   rw [hnv, n0] at c3
   have c4 := wide_Sub e y s 0 n (by omega) (by omega) (by omega) hn'
   rw [hnv, n0] at c4
   by_cases hlt : 2 * rl + bit < n
   ·have har := div_arith (n := n) (rl := rl) (al := al) (m := m) (c := 0) (r1 := 2 * rl + bit) hn (by rw [hbit]; omega)
    rw [decide_eq_true hlt] at c3
    have ih := Div_loop n qh ah al hn hn' hal m (k + 1) (z - 1) (2 * rl + bit) (ql * 2) (by omega) (by omega) hlt (by rw [Nat.pow_succ]; omega)
    have hqe : ql * 2 ^ (m + 1) + (((2 * rl + bit) * 2 ^ m + al % 2 ^ m) / n + 0 * 2 ^ m) = ql * 2 * 2 ^ m + ((2 * rl + bit) * 2 ^ m + al % 2 ^ m) / n := by
     rw [Nat.pow_succ, Nat.mul_comm (2 ^ m) 2, ← Nat.mul_assoc, Nat.zero_mul]
     omega
    rw [har.1, har.2, hqe, ← ih]
    refine Div_step (n := n) (lt := true) (bit := bit) (ql2 := ql * 2) (q3 := ql * 2 + 1) (m := m) (by omega) (by omega) hal hbit rfl hq63 rfl c1 c2 c3 c4 ?_
    have e1 : y = 0 := by omega
    have e2 : s = 2 * rl + bit := by omega
    rw [if_pos rfl, if_pos rfl, e1, e2]
   ·have har := div_arith (n := n) (rl := rl) (al := al) (m := m) (c := 1) (r1 := 2 * rl + bit - n) hn (by rw [hbit]; omega)
    rw [decide_eq_false hlt] at c3
    have ih := Div_loop n qh ah al hn hn' hal m (k + 1) (z - 1) (2 * rl + bit - n) (ql * 2 + 1) (by omega) (by omega) (by omega) (by rw [Nat.pow_succ]; omega)
    have hqe : ql * 2 ^ (m + 1) + ((2 * rl + bit - n) * 2 ^ m + al % 2 ^ m) / n + 1 * 2 ^ m = (ql * 2 + 1) * 2 ^ m + ((2 * rl + bit - n) * 2 ^ m + al % 2 ^ m) / n := by
     rw [Nat.pow_succ, Nat.add_mul, Nat.mul_comm (2 ^ m) 2, ← Nat.mul_assoc]
     omega
    rw [har.1, har.2, ← Nat.add_assoc, hqe, ← ih]
    refine Div_step (n := n) (lt := false) (bit := bit) (ql2 := ql * 2) (q3 := ql * 2 + 1) (m := m) (by omega) (by omega) hal hbit rfl hq63 rfl c1 c2 c3 c4 ?_
    rw [if_neg (by simp), if_neg (by simp)]
    have e1 : (2 * rl + bit + 340282366920938463463374607431768211456 - n) % 340282366920938463463374607431768211456 = 2 * rl + bit - n := by omega
    rw [e1, Nat.div_eq_of_lt (by omega : 2 * rl + bit - n < 18446744073709551616), Nat.mod_eq_of_lt (by omega : 2 * rl + bit - n < 18446744073709551616)]
include e in
theorem Div_zero (a b : Nat) : callV E "wide.Div" [.v (wv a b), vk .u64 0] [] = some ([.v (.agg [.sc (.int .u64 0), .sc (.int .u64 0)]), rk .u64 0], [na, na], []) := by
 refine callV_fn e.wide_Div fun nd hnd => ?_
 simp (maxSteps := 1000000) (disch := first | omega | (simp only [lnS] <;> omega) | assumption | fail) [wide_Div_B, wwS, -List.getD_eq_getElem?_getD, -List.drop_drop]
include e in
theorem Div_run {n ah al qh r0 ql rl : Nat} (hn : 0 < n) (h1 : ah / n = qh) (h2 : ah % n = r0) (hah : ah < 18446744073709551616) (hqh : qh < 18446744073709551616)
 (h : runV E (.loop [1, 2, 4, 6, 7, 8] wide_Div_L0) (updT (updT (updT (updT (updT (updT botT 8 (ti .i64 63)) 7 (wb 0 r0)) 6 (wb qh 0)) 4 w0) 2 (wb ah al)) 1 (ti .u64 n)) = some (.exit 0, updT (updT (updT botT 7 (wb 0 rl)) 6 (wb qh ql)) 4 w0)) :
 callV E "wide.Div" [.v (wv ah al), vk .u64 n] [] = some ([.v (wv qh ql), rk .u64 rl], [na, na], []) := by
 have h1 : (ah : Int) / n = qh := by exact_mod_cast h1
 have h2 : (ah : Int) % n = r0 := by exact_mod_cast h2
 have hn0 : ¬ n = 0 := by omega
 have h : runV E (.loop [1, 2, 4, 6, 7, 8] wide_Div_L0) (updT (updT (updT (updT (updT (updT botT 8 (ti .i64 63)) 7 (.box [.v (.sc (.int .u64 0)), .v (.sc (.int .u64 r0))])) 6 (.box [.v (.sc (.int .u64 qh)), .v (.sc (.int .u64 0))])) 4 w0) 2 (wb ah al)) 1 (ti .u64 n)) = some (.exit 0, updT (updT (updT botT 7 (.box [.v (.sc (.int .u64 0)), .v (.sc (.int .u64 rl))])) 6 (wb qh ql)) 4 w0) := h
 refine callV_fn e.wide_Div fun nd hnd => ?_
 simp (maxSteps := 1000000) (disch := first | omega | (simp only [lnS] <;> omega) | assumption | fail) [wide_Div_B, wwS, -List.getD_eq_getElem?_getD, -List.drop_drop, h, h1, h2, hn0]
include e in
theorem wide_Div (n ah al : Nat) (hn : 0 < n) (hn' : n < 18446744073709551616) (hah : ah < 18446744073709551616) (hal : al < 18446744073709551616) :
 ∃ qh ql : Nat, qh < 18446744073709551616 ∧ ql < 18446744073709551616 ∧ nv qh ql = nv ah al / n ∧ callV E "wide.Div" [.v (wv ah al), vk .u64 n] [] = some ([.v (wv qh ql), rk .u64 (nv ah al % n : Nat)], [na, na], []) := by
 have hl := Div_loop e n (ah / n) ah al hn hn' hal 64 0 63 (ah % n) 0 (by omega) (by omega) (Nat.mod_lt _ hn) (by decide)
 rw [Nat.zero_mul, Nat.zero_add, show (2 : Nat) ^ 64 = 18446744073709551616 by decide, Nat.mod_eq_of_lt hal] at hl
 have hqh : ah / n < 18446744073709551616 := Nat.lt_of_le_of_lt (Nat.div_le_self _ _) hah
 have hN : nv ah al = (ah % n * 18446744073709551616 + al) + n * (ah / n * 18446744073709551616) := by
  have h := Nat.div_add_mod ah n
  unfold nv
  rw [← Nat.mul_assoc, show (ah % n * 18446744073709551616 + al) + n * (ah / n) * 18446744073709551616 = (n * (ah / n) + ah % n) * 18446744073709551616 + al by rw [Nat.add_mul]; omega, h]
 have hq : nv ah al / n = (ah % n * 18446744073709551616 + al) / n + ah / n * 18446744073709551616 := by rw [hN, Nat.add_mul_div_left _ _ hn]
 have hr : nv ah al % n = (ah % n * 18446744073709551616 + al) % n := by rw [hN, Nat.add_mul_mod_self_left]
 have hlt : (ah % n * 18446744073709551616 + al) / n < 18446744073709551616 := by
  rw [Nat.div_lt_iff_lt_mul hn]
  have h1 : (ah % n + 1) * 18446744073709551616 ≤ n * 18446744073709551616 := Nat.mul_le_mul_right _ (Nat.mod_lt _ hn)
  rw [Nat.mul_comm 18446744073709551616 n]
  rw [Nat.add_mul] at h1
  exact Nat.lt_of_lt_of_le (by rw [Nat.one_mul]; exact Nat.add_lt_add_left hal _) h1
 refine ⟨ah / n, (ah % n * 18446744073709551616 + al) / n, hqh, hlt, ?_, ?_⟩
 ·rw [hq]; unfold nv; exact Nat.add_comm _ _
 ·rw [hr]
  exact Div_run e hn rfl rfl hah hqh hl
end
end Go.Wb.P02

/- Chapter 2: quotients and rests; what is added is taken away. -/
import Derived.Test.YtlbekhmgpfbgnaaWbvP02e
set_option maxRecDepth 100000
set_option linter.all false
namespace Go.Wb.P02
open Go Go.Wb Go.Wb.Code
section
variable {E : EnvW} (e : WbvC02Env E)
include e in
theorem rDiv_zero (a b : Nat) : callV E "ref02.Div" [.v (wv a b), vk .u64 0] [] = some ([.v (.agg [.sc (.int .u64 0), .sc (.int .u64 0)]), rk .u64 0], [na, na], []) := by
 refine callV_fn e.ref02_Div fun nd hnd => ?_
 simp (maxSteps := 1000000) (disch := first | omega | (simp only [lnS] <;> omega) | assumption | fail) [ref02_Div_B, wwS, -List.getD_eq_getElem?_getD, -List.drop_drop]
include e in
theorem rDiv_run {n ah al qh ql rl : Nat} {xs ys : List Int} (hn : 0 < n) (hx : xs.length = 128) (hy : ys.length = 128)
 (c1 : callV E "ref02.Bits" [.v (wv ah al)] [] = some ([.v (.agg (kp .i64 xs))], [na], [])) (c2 : callV E "ref02.whole" [.v (.agg (kp .i64 ys))] [] = some ([.v (wv qh ql)], [na], []))
 (h : runV E (.loop [1, 4, 6, 7, 8, 9] ref02_Div_L0) (updT (updT (updT (updT (updT (updT botT 9 (ti .i64 127)) 8 w0) 7 (.box (kc .i64 (zi 128 0)))) 6 (.box (kc .i64 xs))) 4 w0) 1 (ti .u64 n)) =
  some (.exit 0, updT (updT (updT botT 8 (.box [.v (.sc (.int .u64 0)), .v (.sc (.int .u64 rl))])) 7 (.box (kc .i64 ys))) 4 w0)) :
 callV E "ref02.Div" [.v (wv ah al), vk .u64 n] [] = some ([.v (wv qh ql), rk .u64 rl], [na, na], []) := by
 have hn0 : ¬ n = 0 := by omega
 have hz : (zi 128 0).length = 128 := zi_len
 refine callV_fn e.ref02_Div fun nd hnd => ?_
 simp (maxSteps := 1000000) (disch := first | omega | (simp only [lnS] <;> omega) | assumption | fail) [ref02_Div_B, wwS, -List.getD_eq_getElem?_getD, -List.drop_drop, c1, c2, h, hx, hy, hz, hn0]
include e in
theorem ref02_Div (n ah al : Nat) (hn : 0 < n) (hn' : n < 18446744073709551616) (hah : ah < 18446744073709551616) (hal : al < 18446744073709551616) :
 ∃ qh ql : Nat, qh < 18446744073709551616 ∧ ql < 18446744073709551616 ∧ nv qh ql = nv ah al / n ∧ callV E "ref02.Div" [.v (wv ah al), vk .u64 n] [] = some ([.v (wv qh ql), rk .u64 (nv ah al % n : Nat)], [na, na], []) := by
 have hN := nv_lt hah hal
 rw [show (2 : Nat) ^ 128 = 340282366920938463463374607431768211456 by decide] at hN
 have hl := rDiv_loop e (nv ah al) n hn hn' hN 128 0 127 (zi 128 0) (by omega) (by omega) (by simp [bl])
 rw [show (2 : Nat) ^ 128 = 340282366920938463463374607431768211456 by decide, Nat.div_eq_of_lt hN, Nat.zero_mod] at hl
 have hq : nv ah al / n < 340282366920938463463374607431768211456 := Nat.lt_of_le_of_lt (Nat.div_le_self _ _) hN
 have c1 := ref02_Bits e ah al hah hal
 have c2 := ref02_whole e (nv ah al / n) hq
 exact ⟨H (nv ah al / n), L (nv ah al / n), H_lt hq, L_lt _, nv_HL _, rDiv_run e hn bl_len bl_len c1 c2 hl⟩
include e in
theorem divs_run (hlive : callV E "law02.live" [] [] = some ([rB true], [], [])) {a b n qh ql r : Nat} (q1 : callV E "wide.Div" [.v (wv a b), vk .u64 n] [] = some ([.v (wv qh ql), rk .u64 r], [na, na], []))
 (q2 : callV E "ref02.Div" [.v (wv a b), vk .u64 n] [] = some ([.v (wv qh ql), rk .u64 r], [na, na], [])) : callV E "law02.WideDivs" [.v (wv a b), vk .u64 n] [] = some ([rB true], [na, na], []) := by
 refine callV_fn e.law02_WideDivs fun nd hnd => ?_
 simp (maxSteps := 1000000) (disch := first | omega | (simp only [lnS] <;> omega) | assumption | fail) [law02_WideDivs_B, wwS, -List.getD_eq_getElem?_getD, -List.drop_drop, q1, q2, hlive]
include e in
theorem divs_run0 (hlive : callV E "law02.live" [] [] = some ([rB true], [], [])) {a b : Nat} : callV E "law02.WideDivs" [.v (wv a b), vk .u64 0] [] = some ([rB true], [na, na], []) := by
 have q1 := Div_zero e a b
 have q2 := rDiv_zero e a b
 refine callV_fn e.law02_WideDivs fun nd hnd => ?_
 simp (maxSteps := 1000000) (disch := first | omega | (simp only [lnS] <;> omega) | assumption | fail) [law02_WideDivs_B, wwS, -List.getD_eq_getElem?_getD, -List.drop_drop, q1, q2, hlive]
include e in
theorem divs_law (hlive : callV E "law02.live" [] [] = some ([rB true], [], [])) (B : Nat) (avs : List PV) (ha : PArgs B [.st [.int .u64, .int .u64], .int .u64] avs) : ∃ o ho, callV E "law02.WideDivs" (avs.map .v) [] = some ([rB true], o, ho) := by
 simp only [PArgs] at ha
 obtain ⟨v0, _, rfl, a0, v1, _, rfl, a1, rfl⟩ := ha
 obtain ⟨a, b, rfl, ha, hb⟩ := pv_wide a0
 obtain ⟨n, rfl, hn⟩ := pv_u64 a1
 by_cases h : n = 0
 ·subst h
  exact ⟨[na, na], [], divs_run0 e hlive⟩
 ·obtain ⟨qh, ql, h1, h2, h3, q1⟩ := wide_Div e n a b (by omega) hn ha hb
  obtain ⟨qh', ql', h1', h2', h3', q2⟩ := ref02_Div e n a b (by omega) hn ha hb
  obtain ⟨rfl, rfl⟩ := nv_inj h2 h2' (h3.trans h3'.symm)
  exact ⟨[na, na], [], divs_run e hlive q1 q2⟩
abbrev wl (x : Nat) : AV := .v (.agg [.sc (.int .u64 0), .sc (.int .u64 (x : Int))])
include e in
theorem back_run0 (hlive : callV E "law02.live" [] [] = some ([rB true], [], [])) {a1 a2 b1 b2 xh xl : Nat} {t1 t2 t3 : Bool}
 (q1 : callV E "wide.Add" [.v (wv a1 a2), .v (wv b1 b2)] [] = some ([.v (wv xh xl), rB t1], [na, na], []))
 (q2 : callV E "wide.Sub" [.v (wv xh xl), .v (wv b1 b2)] [] = some ([.v (wv a1 a2), rB t2], [na, na], []))
 (q3 : callV E "wide.Add" [.v (wv b1 b2), .v (wv a1 a2)] [] = some ([.v (wv xh xl), rB t3], [na, na], []))
 (q4 : ∃ mh ml : Nat, callV E "wide.Mul" [vk .u64 a2, vk .u64 0] [] = some ([.v (wv mh ml)], [na, na], []) ∧ callV E "wide.Mul" [vk .u64 0, vk .u64 a2] [] = some ([.v (wv mh ml)], [na, na], [])) :
 callV E "law02.WideBack" [.v (wv a1 a2), .v (wv b1 b2), vk .u64 0] [] = some ([rB true], [na, na, na], []) := by
 obtain ⟨mh, ml, q4, q5⟩ := q4
 refine callV_fn e.law02_WideBack fun nd hnd => ?_
 simp (maxSteps := 1000000) (disch := first | omega | (simp only [lnS] <;> omega) | assumption | fail) [law02_WideBack_B, wwS, -List.getD_eq_getElem?_getD, -List.drop_drop, q1, q2, q3, q4, q5, hlive]
include e in
theorem back_run (hlive : callV E "law02.live" [] [] = some ([rB true], [], [])) {a1 a2 b1 b2 n xh xl mh ml ph pl ov hl gh gl lh ll : Nat} {t1 t2 t3 t4 : Bool} (hn : ¬ n = 0) (hov : ov < n)
 (q1 : callV E "wide.Add" [.v (wv a1 a2), .v (wv b1 b2)] [] = some ([.v (wv xh xl), rB t1], [na, na], []))
 (q2 : callV E "wide.Sub" [.v (wv xh xl), .v (wv b1 b2)] [] = some ([.v (wv a1 a2), rB t2], [na, na], []))
 (q3 : callV E "wide.Add" [.v (wv b1 b2), .v (wv a1 a2)] [] = some ([.v (wv xh xl), rB t3], [na, na], []))
 (q4 : callV E "wide.Mul" [vk .u64 a2, vk .u64 n] [] = some ([.v (wv mh ml)], [na, na], [])) (q5 : callV E "wide.Mul" [vk .u64 n, vk .u64 a2] [] = some ([.v (wv mh ml)], [na, na], []))
 (q6 : callV E "wide.Div" [.v (wv mh ml), vk .u64 n] [] = some ([.v (.agg [.sc (.int .u64 0), .sc (.int .u64 (a2 : Int))]), rk .u64 0], [na, na], []))
 (q7 : callV E "wide.Div" [.v (wv a1 a2), vk .u64 n] [] = some ([.v (wv ph pl), rk .u64 ov], [na, na], []))
 (q8 : callV E "wide.Mul" [vk .u64 ph, vk .u64 n] [] = some ([.v (.agg [.sc (.int .u64 0), .sc (.int .u64 (hl : Int))])], [na, na], []))
 (q9 : callV E "wide.Mul" [vk .u64 pl, vk .u64 n] [] = some ([.v (wv gh gl)], [na, na], []))
 (q10 : callV E "wide.Add" [.v (wv gh gl), wl ov] [] = some ([.v (wv lh ll), rB t4], [na, na], []))
 (q11 : callV E "wide.Add" [.v (.agg [.sc (.int .u64 (hl : Int)), .sc (.int .u64 0)]), .v (wv lh ll)] [] = some ([.v (wv a1 a2), rB false], [na, na], [])) :
 callV E "law02.WideBack" [.v (wv a1 a2), .v (wv b1 b2), vk .u64 n] [] = some ([rB true], [na, na, na], []) := by
 have c1 : callV E "wide.Of" [vk .u64 a2] [] = some ([.v (.agg [.sc (.int .u64 0), .sc (.int .u64 (a2 : Int))])], [na], []) := wide_Of e a2
 have c2 : callV E "wide.Of" [vk .u64 ov] [] = some ([.v (.agg [.sc (.int .u64 0), .sc (.int .u64 (ov : Int))])], [na], []) := wide_Of e ov
 have h1 : ¬ (n : Int) ≤ ov := by omega
 have h2 : ¬ n ≤ ov := by omega
 refine callV_fn e.law02_WideBack fun nd hnd => ?_
 simp (maxSteps := 1000000) (disch := first | omega | (simp only [lnS] <;> omega) | assumption | fail) [law02_WideBack_B, wwS, -List.getD_eq_getElem?_getD, -List.drop_drop, q1, q2, q3, q4, q5, q6, q7, q8, q9, q10, q11, c1, c2, hn, h1, h2, hlive]
theorem add_sub {A B : Nat} (hA : A < 340282366920938463463374607431768211456) (hB : B < 340282366920938463463374607431768211456) : (addM A B + 340282366920938463463374607431768211456 - B) % 340282366920938463463374607431768211456 = A := by
 unfold addM; omega
include e in
theorem back_law (hlive : callV E "law02.live" [] [] = some ([rB true], [], [])) (B : Nat) (avs : List PV) (ha : PArgs B [.st [.int .u64, .int .u64], .st [.int .u64, .int .u64], .int .u64] avs) : ∃ o ho, callV E "law02.WideBack" (avs.map .v) [] = some ([rB true], o, ho) := by
 simp only [PArgs] at ha
 obtain ⟨v0, _, rfl, A0, v1, _, rfl, A1, v2, _, rfl, A2, rfl⟩ := ha
 obtain ⟨a1, a2, rfl, ha1, ha2⟩ := pv_wide A0
 obtain ⟨b1, b2, rfl, hb1, hb2⟩ := pv_wide A1
 obtain ⟨n, rfl, hn⟩ := pv_u64 A2
 have hp : (2 : Nat) ^ 128 = 340282366920938463463374607431768211456 := by decide
 have hA := nv_lt ha1 ha2
 have hB := nv_lt hb1 hb2
 rw [hp] at hA hB
 obtain ⟨xh, xl, t1, x1, x2, x3, _, q1⟩ := wide_AddV e ha1 ha2 hb1 hb2
 obtain ⟨yh, yl, t3, y1, y2, y3, _, q3⟩ := wide_AddV e hb1 hb2 ha1 ha2
 have hcomm : addM (nv b1 b2) (nv a1 a2) = addM (nv a1 a2) (nv b1 b2) := by unfold addM; rw [Nat.add_comm]
 obtain ⟨rfl, rfl⟩ := nv_inj x2 y2 (x3.trans (hcomm.symm.trans y3.symm))
 have q2 := wide_Sub e xh xl b1 b2 x1 x2 hb1 hb2
 rw [x3, add_sub hA hB] at q2
 have e1 : nv a1 a2 / 18446744073709551616 = a1 := by unfold nv; omega
 have e2 : nv a1 a2 % 18446744073709551616 = a2 := by unfold nv; omega
 unfold wM at q2
 rw [e1, e2] at q2
 obtain ⟨mh, ml, m1, m2, m3, q4⟩ := wide_Mul e a2 n ha2 hn
 obtain ⟨mh', ml', m1', m2', m3', q5⟩ := wide_Mul e n a2 hn ha2
 obtain ⟨rfl, rfl⟩ := nv_inj m2 m2' (m3.trans ((Nat.mul_comm _ _).trans m3'.symm))
 by_cases h0 : n = 0
 ·subst h0
  exact ⟨[na, na, na], [], back_run0 e hlive q1 q2 q3 ⟨mh, ml, q4, q5⟩⟩
 ·have hpos : 0 < n := by omega
  obtain ⟨qh, ql, d1, d2, d3, q6⟩ := wide_Div e n mh ml hpos hn m1 m2
  rw [m3, Nat.mul_div_cancel _ hpos] at d3
  rw [m3, Nat.mul_mod_left] at q6
  have hqh : qh = 0 := by unfold nv at d3; omega
  have hql : ql = a2 := by unfold nv at d3; omega
  rw [hqh, hql] at q6
  obtain ⟨ph, pl, p1, p2, p3, q7⟩ := wide_Div e n a1 a2 hpos hn ha1 ha2
  have hov := Nat.mod_lt (nv a1 a2) hpos
  have hdm := Nat.div_add_mod (nv a1 a2) n
  rw [← p3] at hdm
  obtain ⟨ov, hovd⟩ : ∃ ov, nv a1 a2 % n = ov := ⟨_, rfl⟩
  rw [hovd] at hov hdm q7
  obtain ⟨hh, hl, u1, u2, u3, q8⟩ := wide_Mul e ph n p1 hn
  obtain ⟨gh, gl, g1, g2, g3, q9⟩ := wide_Mul e pl n p2 hn
  have hsum : ph * n * 18446744073709551616 + pl * n + ov = nv a1 a2 := by
   rw [← hdm]
   unfold nv
   rw [Nat.mul_add, Nat.mul_comm n pl, ← Nat.mul_assoc, Nat.mul_comm n ph]
  have hph : ph * n < 18446744073709551616 := by
   generalize ph * n = w at *
   generalize pl * n = w2 at *
   omega
  have hhh : hh = 0 := by unfold nv at u3; omega
  have hhl : hl = ph * n := by unfold nv at u3; omega
  rw [hhh] at q8
  obtain ⟨lh, ll, t4, l1, l2, l3, _, q10⟩ := wide_AddV e (a := gh) (b := gl) (c := 0) (d := ov) g1 g2 (by omega) (by omega)
  have n0 : ∀ x, nv 0 x = x := fun x => by simp [nv]
  rw [g3, n0] at l3
  obtain ⟨kh, kl, t5, k1, k2, k3, k4, q11⟩ := wide_AddV e (a := hl) (b := 0) (c := lh) (d := ll) u2 (by omega) l1 l2
  have hl3 : addM (pl * n) ov = pl * n + ov := by
   unfold addM
   exact Nat.mod_eq_of_lt (by generalize ph * n = w at *; generalize pl * n = w2 at *; omega)
  rw [hl3] at l3
  have hn2 : nv hl 0 + nv lh ll = nv a1 a2 := by
   have h0 : nv hl 0 = hl * 18446744073709551616 := by simp [nv]
   rw [h0, l3, hhl, ← hsum, Nat.add_assoc]
  have hk3 : nv kh kl = nv a1 a2 := by
   rw [k3]; unfold addM; rw [hn2]; exact Nat.mod_eq_of_lt hA
  obtain ⟨rfl, rfl⟩ := nv_inj k2 ha2 hk3
  rw [hn2, decide_eq_false (by omega)] at k4
  rw [k4] at q11
  exact ⟨[na, na, na], [], back_run e hlive h0 hov q1 q2 q3 q4 q5 q6 q7 q8 q9 q10 q11⟩
end
end Go.Wb.P02

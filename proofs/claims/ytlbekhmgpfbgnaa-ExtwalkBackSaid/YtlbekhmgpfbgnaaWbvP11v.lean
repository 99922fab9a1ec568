/- Chapter 11: extension headers are gone over as they were written: the law. -/
import Derived.Test.YtlbekhmgpfbgnaaWbvP11u
set_option maxRecDepth 100000
set_option linter.all false
namespace Go.Wb.P11
open Go Go.Wb Go.Wb.Code Go.Wb.P01
section
variable {E : EnvW} (e : WbvC11Env E)
abbrev cS (C : List PV) (N : Nat) (pr : Int) (mm : Nat) (M : List PV) (nb : Nat) (B : List PV) (up sz i : Int) : TT :=
 updT (updT (updT (updT (updT (updT (updT botT 11 (ti .i64 i)) 10 (ti .i64 sz)) 9 (ti .i64 up)) 7 (.own nb 1 B)) 2 (.val (.sl mm M))) 1 (ti .i64 pr)) 0 (.val (.sl N C))
abbrev cO (C : List PV) (N : Nat) (pr : Int) (mm : Nat) (M : List PV) (nb : Nat) (B : List PV) (up sz : Int) : TT :=
 updT (updT (updT (updT (updT (updT botT 10 (ti .i64 sz)) 9 (ti .i64 up)) 7 (.own nb 1 B)) 2 (.val (.sl mm M))) 1 (ti .i64 pr)) 0 (.val (.sl N C))
variable {C M B b : List PV} {N mm nb i n : Nat} {pr up k c0 c1 : Int} {s : Nat}
theorem c_out : runV E (.loop [0, 1, 2, 7, 9, 10, 11] law11_ExtwalkBack_L0) (cS C N pr mm M nb B up s (N : Int)) = some (.exit 0, cO C N pr mm M nb B up s) := by
 have c1 : ¬ (N : Int) < N := by omega
 refine loop_out (by simp (maxSteps := 1000000) (disch := first | omega | (simp only [lnS] <;> omega) | assumption | fail) [law11_ExtwalkBack_L0, wwS, -List.getD_eq_getElem?_getD, -List.drop_drop, c1]; first | exact ⟨rfl, rfl⟩ | exact rfl) ?_ (by simp)
 rfl
theorem c_go (hC : C.length = N * 2) (hi : i < N) (hN : N ≤ 100) (h0 : cellP C (i * 2) = some (.sc (.int .i64 k))) (h1 : cellP C (i * 2 + 1) = some (.sl n b)) (h6 : 6 ≤ n) (hn : n ≤ 10000) (hs : s ≤ 1000000) (k4 : ¬ k = 44) {R}
 (hr : runV E (.loop [0, 1, 2, 7, 9, 10, 11] law11_ExtwalkBack_L0) (cS C N pr mm M nb B up ((s : Int) + ((n : Int) + 2)) ((i + 1 : Nat) : Int)) = R) :
 runV E (.loop [0, 1, 2, 7, 9, 10, 11] law11_ExtwalkBack_L0) (cS C N pr mm M nb B up s (i : Int)) = R := by
 have d1 : (i : Int) < N := by omega
 have d2 : i * 2 + 2 ≤ N * 2 := by omega
 have d3 : ¬ (n : Int) < 6 := by omega
 subst hr
 refine loop_go (by simp (maxSteps := 1000000) (disch := first | omega | (simp only [lnS] <;> omega) | assumption | fail) [law11_ExtwalkBack_L0, wwS, -List.getD_eq_getElem?_getD, -List.drop_drop, law11_ExtwalkBack_K2, law11_ExtwalkBack_K1, law11_ExtwalkBack_K0, hC, hi, d1, d2, h0, h1, d3, k4]; rfl) ?_
 rfl
theorem c_go44 (hC : C.length = N * 2) (hi : i < N) (hN : N ≤ 100) (h0 : cellP C (i * 2) = some (.sc (.int .i64 44))) (h1 : cellP C (i * 2 + 1) = some (.sl n b)) (h6 : 6 ≤ n) (hn : n ≤ 10000) (hs : s ≤ 1000000) (hb : b.length = n) (g0 : cellP b 0 = some (u8c c0)) (g1 : cellP b 1 = some (u8c c1)) (z0 : ¬ 0 < c0) (z1 : ¬ 8 ≤ c1) {R}
 (hr : runV E (.loop [0, 1, 2, 7, 9, 10, 11] law11_ExtwalkBack_L0) (cS C N pr mm M nb B up ((s : Int) + ((n : Int) + 2)) ((i + 1 : Nat) : Int)) = R) :
 runV E (.loop [0, 1, 2, 7, 9, 10, 11] law11_ExtwalkBack_L0) (cS C N pr mm M nb B up s (i : Int)) = R := by
 have d1 : (i : Int) < N := by omega
 have d2 : i * 2 + 2 ≤ N * 2 := by omega
 have d3 : ¬ (n : Int) < 6 := by omega
 have d4 : 0 < n := by omega
 have d5 : 1 < n := by omega
 subst hr
 refine loop_go (by simp (maxSteps := 1000000) (disch := first | omega | (simp only [lnS] <;> omega) | assumption | fail) [law11_ExtwalkBack_L0, wwS, -List.getD_eq_getElem?_getD, -List.drop_drop, law11_ExtwalkBack_K2, law11_ExtwalkBack_K1, law11_ExtwalkBack_K0, hC, hi, d1, d2, h0, h1, d3, d4, d5, hb, g0, g1, z0, z1]; rfl) ?_
 rfl
theorem c_stop1 (hC : C.length = N * 2) (hi : i < N) (hN : N ≤ 100) (h0 : cellP C (i * 2) = some (.sc (.int .i64 44))) (h1 : cellP C (i * 2 + 1) = some (.sl n b)) (h6 : 6 ≤ n) (hn : n ≤ 10000) (hs : s ≤ 1000000) (hb : b.length = n) (g0 : cellP b 0 = some (u8c c0)) (z0 : 0 < c0) :
 runV E (.loop [0, 1, 2, 7, 9, 10, 11] law11_ExtwalkBack_L0) (cS C N pr mm M nb B up s (i : Int)) = some (.exit 0, cO C N pr mm M nb B ((i : Int) + 1) ((s : Int) + ((n : Int) + 2))) := by
 have d1 : (i : Int) < N := by omega
 have d2 : i * 2 + 2 ≤ N * 2 := by omega
 have d3 : ¬ (n : Int) < 6 := by omega
 have d4 : 0 < n := by omega
 refine loop_out (by simp (maxSteps := 1000000) (disch := first | omega | (simp only [lnS] <;> omega) | assumption | fail) [law11_ExtwalkBack_L0, wwS, -List.getD_eq_getElem?_getD, -List.drop_drop, law11_ExtwalkBack_K2, law11_ExtwalkBack_K1, law11_ExtwalkBack_K0, hC, hi, d1, d2, h0, h1, d3, d4, hb, g0, z0]; first | exact ⟨rfl, rfl⟩ | exact rfl) ?_ (by simp)
 rfl
theorem c_stop2 (hC : C.length = N * 2) (hi : i < N) (hN : N ≤ 100) (h0 : cellP C (i * 2) = some (.sc (.int .i64 44))) (h1 : cellP C (i * 2 + 1) = some (.sl n b)) (h6 : 6 ≤ n) (hn : n ≤ 10000) (hs : s ≤ 1000000) (hb : b.length = n) (g0 : cellP b 0 = some (u8c c0)) (g1 : cellP b 1 = some (u8c c1)) (z0 : ¬ 0 < c0) (z1 : 8 ≤ c1) :
 runV E (.loop [0, 1, 2, 7, 9, 10, 11] law11_ExtwalkBack_L0) (cS C N pr mm M nb B up s (i : Int)) = some (.exit 0, cO C N pr mm M nb B ((i : Int) + 1) ((s : Int) + ((n : Int) + 2))) := by
 have d1 : (i : Int) < N := by omega
 have d2 : i * 2 + 2 ≤ N * 2 := by omega
 have d3 : ¬ (n : Int) < 6 := by omega
 have d4 : 0 < n := by omega
 have d5 : 1 < n := by omega
 refine loop_out (by simp (maxSteps := 1000000) (disch := first | omega | (simp only [lnS] <;> omega) | assumption | fail) [law11_ExtwalkBack_L0, wwS, -List.getD_eq_getElem?_getD, -List.drop_drop, law11_ExtwalkBack_K2, law11_ExtwalkBack_K1, law11_ExtwalkBack_K0, hC, hi, d1, d2, h0, h1, d3, d4, d5, hb, g0, g1, z0, z1]; first | exact ⟨rfl, rfl⟩ | exact rfl) ?_ (by simp)
 rfl
abbrev xS (nb : Nat) (B : List PV) (sz : Nat) (k : Int) (i : Int) : TT := updT (updT (updT (updT botT 16 (ti .i64 i)) 12 (ti .i64 k)) 10 (ti .i64 (sz : Int))) 7 (.own nb 1 B)
theorem x_out {sz : Nat} : runV E (.loop [7, 10, 12, 16] law11_ExtwalkBack_L1) (xS nb B sz k (sz : Int)) = some (.exit 2, botT) := by
 have c1 : ¬ (sz : Int) < sz := by omega
 refine loop_out (by simp (maxSteps := 1000000) (disch := first | omega | (simp only [lnS] <;> omega) | assumption | fail) [law11_ExtwalkBack_L1, wwS, -List.getD_eq_getElem?_getD, -List.drop_drop, c1]; first | exact ⟨rfl, rfl⟩ | exact rfl) ?_ (by simp)
 rfl
theorem x_step {sz : Nat} (hB : B.length = nb) (hi : i < sz) (hs : sz ≤ nb) (hn : nb ≤ 1000000) (q : callV E "extwalk.Go" [vi k, .v (.sl i (B.take i))] [] = some ([.v (.agg (ip [0, 0, 0, 0, 0])), .o 1 1 [.sc (.int .i64 10)]], [na, na], [])) {R}
 (hr : runV E (.loop [7, 10, 12, 16] law11_ExtwalkBack_L1) (xS nb B sz k ((i + 1 : Nat) : Int)) = R) :
 runV E (.loop [7, 10, 12, 16] law11_ExtwalkBack_L1) (xS nb B sz k (i : Int)) = R := by
 have d1 : (i : Int) < sz := by omega
 have d2 : ¬ (nb : Int) < i := by omega
 have d3 : (i : Int) ≤ nb := by omega
 have d4 : i ≤ nb := by omega
 subst hr
 refine loop_go (by simp (maxSteps := 1000000) (disch := first | omega | (simp only [lnS] <;> omega) | assumption | fail) [law11_ExtwalkBack_L1, wwS, -List.getD_eq_getElem?_getD, -List.drop_drop, law11_ExtwalkBack_K5, law11_ExtwalkBack_K4, hB, d1, d2, d3, d4, q]; rfl) ?_
 rfl
end
end Go.Wb.P11

/- Chapter 11: extension headers are written: a round of the program's. -/
import Derived.Test.YtlbekhmgpfbgnaaWbvP11l
set_option maxRecDepth 100000
set_option linter.all false
namespace Go.Wb.P11
open Go Go.Wb Go.Wb.Code Go.Wb.P01
abbrev fb (a b : Int) : TV := .box [.v (.sc (.int .i64 a)), .v (.sc (.int .i64 b))]
abbrev wS (f : TV) (M : Nat) (K : List PV) (n : Nat) (O : List PV) (N : Nat) (C : List PV) (i : Int) : TT :=
 updT (updT (updT (updT (updT (updT botT 52 (ti .i64 i)) 51 (ti .i64 (N : Int))) 50 (.val (.sl N C))) 9 (.own n 1 O)) 6 (.own M 1 K)) 5 f
abbrev wE (a b : Int) : TT := updT (updT botT 5 (fb a b)) 4 (.own 0 1 [])
abbrev u8c (z : Int) : PV := .sc (.int .u8 z)
section
variable {E : EnvW} (e : WbvC11Env E) {C K O b : List PV} {N M i n m : Nat} {k z y : Int}
theorem w_out {K O C : List PV} {N M n : Nat} : runV E (.loop [5, 6, 9, 50, 51, 52] extwalk_Write_L1) (wS (fb 0 0) M K n O N C (N : Int)) = some (.exit 2, updT (updT botT 9 (.own n 1 O)) 5 (fb 0 0)) := by
 have c1 : ¬ (N : Int) < N := by omega
 refine loop_out (by simp (maxSteps := 1000000) (disch := first | omega | (simp only [lnS] <;> omega) | assumption | fail) [extwalk_Write_L1, wwS, -List.getD_eq_getElem?_getD, -List.drop_drop, c1]; first | exact ⟨rfl, rfl⟩ | exact rfl) ?_ (by simp)
 rfl
theorem w_bad10 (hC : C.length = N * 2) (hi : i < N) (hd : List.take 2 (List.drop (i * 2) C) = [.sc (.int .i64 k), .sl n b]) (hn : n ≤ 140737488355000) {ok : Bool}
 (q1 : callV E "extwalk.Is" [vi k] [] = some ([rB false], [na], [])) (q2 : callV E "extwalk.length" [vi k, vi ((n : Int) + 2)] [] = some ([rk .u8 z, rB ok], [na, na], [])) :
 runV E (.loop [5, 6, 9, 50, 51, 52] extwalk_Write_L1) (wS (fb 0 0) M K m O N C (i : Int)) = some (.ret, wE 10 (i : Int)) := by
 have c1 : (i : Int) < N := by omega
 have c2 : i * 2 + 2 ≤ N * 2 := by omega
 refine loop_out (by simp (maxSteps := 1000000) (disch := first | omega | (simp only [lnS] <;> omega) | assumption | fail) [extwalk_Write_L1, wwS, -List.getD_eq_getElem?_getD, -List.drop_drop, hC, hi, c1, c2, hd, q1, q2]; first | exact ⟨rfl, rfl⟩ | exact rfl) ?_ (by simp)
 rfl
theorem w_bad3 (hC : C.length = N * 2) (hi : i < N) (hd : List.take 2 (List.drop (i * 2) C) = [.sc (.int .i64 k), .sl n b]) (hn : n ≤ 140737488355000)
 (q1 : callV E "extwalk.Is" [vi k] [] = some ([rB true], [na], [])) (q2 : callV E "extwalk.length" [vi k, vi ((n : Int) + 2)] [] = some ([rk .u8 z, rB false], [na, na], [])) :
 runV E (.loop [5, 6, 9, 50, 51, 52] extwalk_Write_L1) (wS (fb 0 0) M K m O N C (i : Int)) = some (.ret, wE 3 (i : Int)) := by
 have c1 : (i : Int) < N := by omega
 have c2 : i * 2 + 2 ≤ N * 2 := by omega
 refine loop_out (by simp (maxSteps := 1000000) (disch := first | omega | (simp only [lnS] <;> omega) | assumption | fail) [extwalk_Write_L1, wwS, -List.getD_eq_getElem?_getD, -List.drop_drop, hC, hi, c1, c2, hd, q1, q2]; first | exact ⟨rfl, rfl⟩ | exact rfl) ?_ (by simp)
 rfl
theorem w_bad6 (hC : C.length = N * 2) (hi : i < N) (hd : List.take 2 (List.drop (i * 2) C) = [.sc (.int .i64 0), .sl n b]) (hn : n ≤ 140737488355000) (hp : 0 < i)
 (q1 : callV E "extwalk.Is" [vi 0] [] = some ([rB true], [na], [])) (q2 : callV E "extwalk.length" [vi 0, vi ((n : Int) + 2)] [] = some ([rk .u8 z, rB true], [na, na], [])) :
 runV E (.loop [5, 6, 9, 50, 51, 52] extwalk_Write_L1) (wS (fb 0 0) M K m O N C (i : Int)) = some (.ret, wE 6 (i : Int)) := by
 have c1 : (i : Int) < N := by omega
 have c2 : i * 2 + 2 ≤ N * 2 := by omega
 refine loop_out (by simp (maxSteps := 1000000) (disch := first | omega | (simp only [lnS] <;> omega) | assumption | fail) [extwalk_Write_L1, wwS, -List.getD_eq_getElem?_getD, -List.drop_drop, hC, hi, c1, c2, hd, q1, q2, hp]; first | exact ⟨rfl, rfl⟩ | exact rfl) ?_ (by simp)
 rfl
theorem w_bad9 (hC : C.length = N * 2) (hi : i < N) (hd : List.take 2 (List.drop (i * 2) C) = [.sc (.int .i64 44), .sl n b]) (hn : n ≤ 140737488355000) (hK : K.length = M) (hM : i + 1 < M)
 (q1 : callV E "extwalk.Is" [vi 44] [] = some ([rB true], [na], [])) (q2 : callV E "extwalk.length" [vi 44, vi ((n : Int) + 2)] [] = some ([rk .u8 z, rB true], [na, na], []))
 (q3 : callV E "slices.Contains[[]int,int]" [.v (.sl i (K.take i)), vi 44] [] = some ([rB true], [na, na], [])) :
 runV E (.loop [5, 6, 9, 50, 51, 52] extwalk_Write_L1) (wS (fb 0 0) M K m O N C (i : Int)) = some (.ret, wE 9 (i : Int)) := by
 have c1 : (i : Int) < N := by omega
 have c2 : i * 2 + 2 ≤ N * 2 := by omega
 have c3 : (i : Int) ≤ M := by omega
 have c4 : i ≤ M := by omega
 refine loop_out (by simp (maxSteps := 1000000) (disch := first | omega | (simp only [lnS] <;> omega) | assumption | fail) [extwalk_Write_L1, wwS, -List.getD_eq_getElem?_getD, -List.drop_drop, hC, hi, c1, c2, hd, q1, q2, c3, c4, hK, q3]; first | exact ⟨rfl, rfl⟩ | exact rfl) ?_ (by simp)
 rfl
theorem w_ok (hC : C.length = N * 2) (hi : i < N) (hd : List.take 2 (List.drop (i * 2) C) = [.sc (.int .i64 k), .sl n b]) (hn : n ≤ 140737488355000) (hm : m ≤ 140737488350000) (hnm : m + n ≤ 140737488350000) (hb : b.length = n) (hO : O.length = m) (hK : K.length = M) (hM : i + 1 < M) (hMM : M ≤ 100)
 (hy : cellP K (i + 1) = some (.sc (.int .i64 y))) (k0 : ¬ k = 0) (k4 : ¬ k = 44)
 (q1 : callV E "extwalk.Is" [vi k] [] = some ([rB true], [na], [])) (q2 : callV E "extwalk.length" [vi k, vi ((n : Int) + 2)] [] = some ([rk .u8 z, rB true], [na, na], [])) {R}
 (hr : runV E (.loop [5, 6, 9, 50, 51, 52] extwalk_Write_L1) (wS (fb 0 0) M K (m + 2 + n) (O ++ u8c (y % 256) :: u8c z :: b) N C ((i + 1 : Nat) : Int)) = R) :
 runV E (.loop [5, 6, 9, 50, 51, 52] extwalk_Write_L1) (wS (fb 0 0) M K m O N C (i : Int)) = R := by
 have c1 : (i : Int) < N := by omega
 have c2 : i * 2 + 2 ≤ N * 2 := by omega
 have c3 : (i : Int) + 1 < M := by omega
 subst hr
 refine loop_go (by simp (maxSteps := 1000000) (disch := first | omega | (simp only [lnS] <;> omega) | assumption | fail) [extwalk_Write_L1, wwS, -List.getD_eq_getElem?_getD, -List.drop_drop, hC, hi, c1, c2, hd, q1, q2, c3, hM, hK, k0, k4, hy, hb, hO]; rfl) ?_
 rfl
theorem w_ok0 (hC : C.length = N * 2) (hi : i < N) (hd : List.take 2 (List.drop (i * 2) C) = [.sc (.int .i64 0), .sl n b]) (hn : n ≤ 140737488355000) (hm : m ≤ 140737488350000) (hnm : m + n ≤ 140737488350000) (hb : b.length = n) (hO : O.length = m) (hK : K.length = M) (hM : i + 1 < M) (hMM : M ≤ 100)
 (hy : cellP K (i + 1) = some (.sc (.int .i64 y))) (hp : (0 < i) = False)
 (q1 : callV E "extwalk.Is" [vi 0] [] = some ([rB true], [na], [])) (q2 : callV E "extwalk.length" [vi 0, vi ((n : Int) + 2)] [] = some ([rk .u8 z, rB true], [na, na], [])) {R}
 (hr : runV E (.loop [5, 6, 9, 50, 51, 52] extwalk_Write_L1) (wS (fb 0 0) M K (m + 2 + n) (O ++ u8c (y % 256) :: u8c z :: b) N C ((i + 1 : Nat) : Int)) = R) :
 runV E (.loop [5, 6, 9, 50, 51, 52] extwalk_Write_L1) (wS (fb 0 0) M K m O N C (i : Int)) = R := by
 have c1 : (i : Int) < N := by omega
 have c2 : i * 2 + 2 ≤ N * 2 := by omega
 have c3 : (i : Int) + 1 < M := by omega
 subst hr
 refine loop_go (by simp (maxSteps := 1000000) (disch := first | omega | (simp only [lnS] <;> omega) | assumption | fail) [extwalk_Write_L1, wwS, -List.getD_eq_getElem?_getD, -List.drop_drop, hC, hi, c1, c2, hd, q1, q2, c3, hM, hK, hp, hy, hb, hO]; rfl) ?_
 rfl
theorem w_ok44 (hC : C.length = N * 2) (hi : i < N) (hd : List.take 2 (List.drop (i * 2) C) = [.sc (.int .i64 44), .sl n b]) (hn : n ≤ 140737488355000) (hm : m ≤ 140737488350000) (hnm : m + n ≤ 140737488350000) (hb : b.length = n) (hO : O.length = m) (hK : K.length = M) (hM : i + 1 < M) (hMM : M ≤ 100)
 (hy : cellP K (i + 1) = some (.sc (.int .i64 y))) (q3 : callV E "slices.Contains[[]int,int]" [.v (.sl i (K.take i)), vi 44] [] = some ([rB false], [na, na], []))
 (q1 : callV E "extwalk.Is" [vi 44] [] = some ([rB true], [na], [])) (q2 : callV E "extwalk.length" [vi 44, vi ((n : Int) + 2)] [] = some ([rk .u8 z, rB true], [na, na], [])) {R}
 (hr : runV E (.loop [5, 6, 9, 50, 51, 52] extwalk_Write_L1) (wS (fb 0 0) M K (m + 2 + n) (O ++ u8c (y % 256) :: u8c z :: b) N C ((i + 1 : Nat) : Int)) = R) :
 runV E (.loop [5, 6, 9, 50, 51, 52] extwalk_Write_L1) (wS (fb 0 0) M K m O N C (i : Int)) = R := by
 have c1 : (i : Int) < N := by omega
 have c2 : i * 2 + 2 ≤ N * 2 := by omega
 have c3 : (i : Int) + 1 < M := by omega
 have c4 : (i : Int) ≤ M := by omega
 have c5 : i ≤ M := by omega
 subst hr
 refine loop_go (by simp (maxSteps := 1000000) (disch := first | omega | (simp only [lnS] <;> omega) | assumption | fail) [extwalk_Write_L1, wwS, -List.getD_eq_getElem?_getD, -List.drop_drop, hC, hi, c1, c2, hd, q1, q2, c3, hM, hK, c5, c4, q3, hy, hb, hO]; rfl) ?_
 rfl
end
end Go.Wb.P11

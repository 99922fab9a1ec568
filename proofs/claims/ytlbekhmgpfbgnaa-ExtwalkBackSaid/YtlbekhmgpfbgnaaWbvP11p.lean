/- Chapter 11: extension headers are written: the document's. -/
import Derived.Test.YtlbekhmgpfbgnaaWbvP11o
import Derived.Test.YtlbekhmgpfbgnaaWbvP11j
set_option maxRecDepth 100000
set_option linter.all false
namespace Go.Wb.P11
open Go Go.Wb Go.Wb.Code Go.Wb.P01
section
variable {E : EnvW} (e : WbvC11Env E) {C b : List PV} {N i n : Nat} {k : Int} {r : Int}
include e in
theorem r_bad10 (hC : C.length = N * 2) (hi : i < N) (hN : N ≤ 100000000000) (hd : List.take 2 (List.drop (i * 2) C) = [.sc (.int .i64 k), .sl n b]) (hn : n ≤ 140737488355000) (q1 : callV E "ref11.Is" [vi k] [] = some ([rB false], [na], [])) :
 callV E "ref11.wrong" [.v (.sl N C), vi (i : Int)] [] = some ([rk .i64 10], [na, na], []) := by
 have c1 : (i : Int) < N := by omega
 have c2 : i * 2 + 2 ≤ N * 2 := by omega
 refine callV_fn e.ref11_wrong fun nd hnd => ?_
 simp (maxSteps := 1000000) (disch := first | omega | (simp only [lnS] <;> omega) | assumption | fail) [ref11_wrong_B, wwS, -List.getD_eq_getElem?_getD, -List.drop_drop, hC, hi, c1, c2, hd, q1]
include e in
theorem r_bad3a (hC : C.length = N * 2) (hi : i < N) (hN : N ≤ 100000000000) (hd : List.take 2 (List.drop (i * 2) C) = [.sc (.int .i64 44), .sl n b]) (hn : n ≤ 140737488355000) (q1 : callV E "ref11.Is" [vi 44] [] = some ([rB true], [na], [])) (h : ¬ (n : Int) + 2 = 8) :
 callV E "ref11.wrong" [.v (.sl N C), vi (i : Int)] [] = some ([rk .i64 3], [na, na], []) := by
 have c1 : (i : Int) < N := by omega
 have c2 : i * 2 + 2 ≤ N * 2 := by omega
 refine callV_fn e.ref11_wrong fun nd hnd => ?_
 simp (maxSteps := 1000000) (disch := first | omega | (simp only [lnS] <;> omega) | assumption | fail) [ref11_wrong_B, wwS, -List.getD_eq_getElem?_getD, -List.drop_drop, hC, hi, c1, c2, hd, q1, h]
include e in
theorem r_bad3b (hC : C.length = N * 2) (hi : i < N) (hN : N ≤ 100000000000) (hd : List.take 2 (List.drop (i * 2) C) = [.sc (.int .i64 51), .sl n b]) (hn : n ≤ 140737488355000) (q1 : callV E "ref11.Is" [vi 51] [] = some ([rB true], [na], [])) (h : ¬ ((n : Int) + 2) % 4 = 0) :
 callV E "ref11.wrong" [.v (.sl N C), vi (i : Int)] [] = some ([rk .i64 3], [na, na], []) := by
 have c1 : (i : Int) < N := by omega
 have c2 : i * 2 + 2 ≤ N * 2 := by omega
 refine callV_fn e.ref11_wrong fun nd hnd => ?_
 simp (maxSteps := 1000000) (disch := first | omega | (simp only [lnS] <;> omega) | assumption | fail) [ref11_wrong_B, wwS, -List.getD_eq_getElem?_getD, -List.drop_drop, hC, hi, c1, c2, hd, q1, h]
include e in
theorem r_bad3c (hC : C.length = N * 2) (hi : i < N) (hN : N ≤ 100000000000) (hd : List.take 2 (List.drop (i * 2) C) = [.sc (.int .i64 51), .sl n b]) (hn : n ≤ 140737488355000) (q1 : callV E "ref11.Is" [vi 51] [] = some ([rB true], [na], [])) (h : ((n : Int) + 2) % 4 = 0) (h2 : (n : Int) + 2 < 8) :
 callV E "ref11.wrong" [.v (.sl N C), vi (i : Int)] [] = some ([rk .i64 3], [na, na], []) := by
 have c1 : (i : Int) < N := by omega
 have c2 : i * 2 + 2 ≤ N * 2 := by omega
 refine callV_fn e.ref11_wrong fun nd hnd => ?_
 simp (maxSteps := 1000000) (disch := first | omega | (simp only [lnS] <;> omega) | assumption | fail) [ref11_wrong_B, wwS, -List.getD_eq_getElem?_getD, -List.drop_drop, hC, hi, c1, c2, hd, q1, h, h2]
include e in
theorem r_bad3d (hC : C.length = N * 2) (hi : i < N) (hN : N ≤ 100000000000) (hd : List.take 2 (List.drop (i * 2) C) = [.sc (.int .i64 51), .sl n b]) (hn : n ≤ 140737488355000) (q1 : callV E "ref11.Is" [vi 51] [] = some ([rB true], [na], [])) (h : ((n : Int) + 2) % 4 = 0) (h2 : ¬ (n : Int) + 2 < 8) (h3 : 1028 < (n : Int) + 2) :
 callV E "ref11.wrong" [.v (.sl N C), vi (i : Int)] [] = some ([rk .i64 3], [na, na], []) := by
 have c1 : (i : Int) < N := by omega
 have c2 : i * 2 + 2 ≤ N * 2 := by omega
 refine callV_fn e.ref11_wrong fun nd hnd => ?_
 simp (maxSteps := 1000000) (disch := first | omega | (simp only [lnS] <;> omega) | assumption | fail) [ref11_wrong_B, wwS, -List.getD_eq_getElem?_getD, -List.drop_drop, hC, hi, c1, c2, hd, q1, h, h2, h3]
include e in
theorem r_bad3e (hC : C.length = N * 2) (hi : i < N) (hN : N ≤ 100000000000) (hd : List.take 2 (List.drop (i * 2) C) = [.sc (.int .i64 k), .sl n b]) (hn : n ≤ 140737488355000) (q1 : callV E "ref11.Is" [vi k] [] = some ([rB true], [na], [])) (k4 : ¬ k = 44) (k5 : ¬ k = 51) (h : ¬ ((n : Int) + 2) % 8 = 0) :
 callV E "ref11.wrong" [.v (.sl N C), vi (i : Int)] [] = some ([rk .i64 3], [na, na], []) := by
 have c1 : (i : Int) < N := by omega
 have c2 : i * 2 + 2 ≤ N * 2 := by omega
 refine callV_fn e.ref11_wrong fun nd hnd => ?_
 simp (maxSteps := 1000000) (disch := first | omega | (simp only [lnS] <;> omega) | assumption | fail) [ref11_wrong_B, wwS, -List.getD_eq_getElem?_getD, -List.drop_drop, hC, hi, c1, c2, hd, q1, k4, k5, h]
include e in
theorem r_bad3f (hC : C.length = N * 2) (hi : i < N) (hN : N ≤ 100000000000) (hd : List.take 2 (List.drop (i * 2) C) = [.sc (.int .i64 k), .sl n b]) (hn : n ≤ 140737488355000) (q1 : callV E "ref11.Is" [vi k] [] = some ([rB true], [na], [])) (k4 : ¬ k = 44) (k5 : ¬ k = 51) (h : ((n : Int) + 2) % 8 = 0) (h2 : 2048 < (n : Int) + 2) :
 callV E "ref11.wrong" [.v (.sl N C), vi (i : Int)] [] = some ([rk .i64 3], [na, na], []) := by
 have c1 : (i : Int) < N := by omega
 have c2 : i * 2 + 2 ≤ N * 2 := by omega
 refine callV_fn e.ref11_wrong fun nd hnd => ?_
 simp (maxSteps := 1000000) (disch := first | omega | (simp only [lnS] <;> omega) | assumption | fail) [ref11_wrong_B, wwS, -List.getD_eq_getElem?_getD, -List.drop_drop, hC, hi, c1, c2, hd, q1, k4, k5, h, h2]
include e in
theorem r_ok44 (hC : C.length = N * 2) (hi : i < N) (hN : N ≤ 100000000000) (hd : List.take 2 (List.drop (i * 2) C) = [.sc (.int .i64 44), .sl n b]) (hn : n ≤ 140737488355000) (q1 : callV E "ref11.Is" [vi 44] [] = some ([rB true], [na], [])) (h : (n : Int) + 2 = 8) (hl : runV E (.loop [0, 1, 5, 7] ref11_wrong_L0) (gS C N (exB 44 n b) i 0) = some (.exit 0, botT)) :
 callV E "ref11.wrong" [.v (.sl N C), vi (i : Int)] [] = some ([rk .i64 0], [na, na], []) := by
 have c1 : (i : Int) < N := by omega
 have c2 : i * 2 + 2 ≤ N * 2 := by omega
 refine callV_fn e.ref11_wrong fun nd hnd => ?_
 simp (maxSteps := 1000000) (disch := first | omega | (simp only [lnS] <;> omega) | assumption | fail) [ref11_wrong_B, wwS, -List.getD_eq_getElem?_getD, -List.drop_drop, hC, hi, c1, c2, hd, q1, hl, h]
include e in
theorem r_hit44 (hC : C.length = N * 2) (hi : i < N) (hN : N ≤ 100000000000) (hd : List.take 2 (List.drop (i * 2) C) = [.sc (.int .i64 44), .sl n b]) (hn : n ≤ 140737488355000) (q1 : callV E "ref11.Is" [vi 44] [] = some ([rB true], [na], [])) (h : (n : Int) + 2 = 8) (hl : runV E (.loop [0, 1, 5, 7] ref11_wrong_L0) (gS C N (exB 44 n b) i 0) = some (.ret, updT botT 4 (ti .i64 9))) :
 callV E "ref11.wrong" [.v (.sl N C), vi (i : Int)] [] = some ([rk .i64 9], [na, na], []) := by
 have c1 : (i : Int) < N := by omega
 have c2 : i * 2 + 2 ≤ N * 2 := by omega
 refine callV_fn e.ref11_wrong fun nd hnd => ?_
 simp (maxSteps := 1000000) (disch := first | omega | (simp only [lnS] <;> omega) | assumption | fail) [ref11_wrong_B, wwS, -List.getD_eq_getElem?_getD, -List.drop_drop, hC, hi, c1, c2, hd, q1, hl, h]
include e in
theorem r_ok51 (hC : C.length = N * 2) (hi : i < N) (hN : N ≤ 100000000000) (hd : List.take 2 (List.drop (i * 2) C) = [.sc (.int .i64 51), .sl n b]) (hn : n ≤ 140737488355000) (q1 : callV E "ref11.Is" [vi 51] [] = some ([rB true], [na], [])) (h : ((n : Int) + 2) % 4 = 0) (h2 : ¬ (n : Int) + 2 < 8) (h3 : ¬ 1028 < (n : Int) + 2) (hl : runV E (.loop [0, 1, 5, 7] ref11_wrong_L0) (gS C N (exB 51 n b) i 0) = some (.exit 0, botT)) :
 callV E "ref11.wrong" [.v (.sl N C), vi (i : Int)] [] = some ([rk .i64 0], [na, na], []) := by
 have c1 : (i : Int) < N := by omega
 have c2 : i * 2 + 2 ≤ N * 2 := by omega
 refine callV_fn e.ref11_wrong fun nd hnd => ?_
 simp (maxSteps := 1000000) (disch := first | omega | (simp only [lnS] <;> omega) | assumption | fail) [ref11_wrong_B, wwS, -List.getD_eq_getElem?_getD, -List.drop_drop, hC, hi, c1, c2, hd, q1, hl, h, h2, h3]
include e in
theorem r_ok8 (hC : C.length = N * 2) (hi : i < N) (hN : N ≤ 100000000000) (hd : List.take 2 (List.drop (i * 2) C) = [.sc (.int .i64 k), .sl n b]) (hn : n ≤ 140737488355000) (q1 : callV E "ref11.Is" [vi k] [] = some ([rB true], [na], [])) (k0 : ¬ k = 0) (k4 : ¬ k = 44) (k5 : ¬ k = 51) (h : ((n : Int) + 2) % 8 = 0) (h2 : ¬ 2048 < (n : Int) + 2) (hl : runV E (.loop [0, 1, 5, 7] ref11_wrong_L0) (gS C N (exB k n b) i 0) = some (.exit 0, botT)) :
 callV E "ref11.wrong" [.v (.sl N C), vi (i : Int)] [] = some ([rk .i64 0], [na, na], []) := by
 have c1 : (i : Int) < N := by omega
 have c2 : i * 2 + 2 ≤ N * 2 := by omega
 refine callV_fn e.ref11_wrong fun nd hnd => ?_
 simp (maxSteps := 1000000) (disch := first | omega | (simp only [lnS] <;> omega) | assumption | fail) [ref11_wrong_B, wwS, -List.getD_eq_getElem?_getD, -List.drop_drop, hC, hi, c1, c2, hd, q1, hl, k0, k4, k5, h, h2]
include e in
theorem r_ok0 (hC : C.length = N * 2) (hi : i < N) (hN : N ≤ 100000000000) (hd : List.take 2 (List.drop (i * 2) C) = [.sc (.int .i64 0), .sl n b]) (hn : n ≤ 140737488355000) (q1 : callV E "ref11.Is" [vi 0] [] = some ([rB true], [na], [])) (hp : (0 < i) = False) (h : ((n : Int) + 2) % 8 = 0) (h2 : ¬ 2048 < (n : Int) + 2) (hl : runV E (.loop [0, 1, 5, 7] ref11_wrong_L0) (gS C N (exB 0 n b) i 0) = some (.exit 0, botT)) :
 callV E "ref11.wrong" [.v (.sl N C), vi (i : Int)] [] = some ([rk .i64 0], [na, na], []) := by
 have c1 : (i : Int) < N := by omega
 have c2 : i * 2 + 2 ≤ N * 2 := by omega
 refine callV_fn e.ref11_wrong fun nd hnd => ?_
 simp (maxSteps := 1000000) (disch := first | omega | (simp only [lnS] <;> omega) | assumption | fail) [ref11_wrong_B, wwS, -List.getD_eq_getElem?_getD, -List.drop_drop, hC, hi, c1, c2, hd, q1, hl, hp, h, h2]
include e in
theorem r_bad6 (hC : C.length = N * 2) (hi : i < N) (hN : N ≤ 100000000000) (hd : List.take 2 (List.drop (i * 2) C) = [.sc (.int .i64 0), .sl n b]) (hn : n ≤ 140737488355000) (q1 : callV E "ref11.Is" [vi 0] [] = some ([rB true], [na], [])) (hp : 0 < i) (h : ((n : Int) + 2) % 8 = 0) (h2 : ¬ 2048 < (n : Int) + 2) :
 callV E "ref11.wrong" [.v (.sl N C), vi (i : Int)] [] = some ([rk .i64 6], [na, na], []) := by
 have c1 : (i : Int) < N := by omega
 have c2 : i * 2 + 2 ≤ N * 2 := by omega
 refine callV_fn e.ref11_wrong fun nd hnd => ?_
 simp (maxSteps := 1000000) (disch := first | omega | (simp only [lnS] <;> omega) | assumption | fail) [ref11_wrong_B, wwS, -List.getD_eq_getElem?_getD, -List.drop_drop, hC, hi, c1, c2, hd, q1, hp, h, h2]
end
end Go.Wb.P11

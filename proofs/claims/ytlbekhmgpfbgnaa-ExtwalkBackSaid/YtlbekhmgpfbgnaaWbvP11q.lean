/- Chapter 11: extension headers are written: the document's whole. -/
import Derived.Test.YtlbekhmgpfbgnaaWbvP11p
import Derived.Test.YtlbekhmgpfbgnaaWbvP11j
set_option maxRecDepth 100000
set_option linter.all false
namespace Go.Wb.P11
open Go Go.Wb Go.Wb.Code Go.Wb.P01
section
variable {E : EnvW} (e : WbvC11Env E) (e1 : WbvC01Env E)
include e1 in
theorem ref01_Join3 (a b c : List Nat) (hr : a.length + b.length + c.length ≤ room) : callV E "ref01.Join" [.v (.sl 3 [.sl a.length (bp a), .sl b.length (bp b), .sl c.length (bp c)])] [] = some ([ro (a ++ b ++ c)], [na], []) := by
 have h := ref01_Join e1 [a, b, c] (by simp; omega) (by unfold room; simp)
 have e2 : [a, b, c].flatten = a ++ b ++ c := by simp
 rw [e2] at h
 exact h
theorem form44 {n : Nat} : formX 44 n = decide (n = 8) := by unfold formX; rw [if_pos rfl]
theorem form51 {n : Nat} : formX 51 n = decide (n % 4 = 0 ∧ 8 ≤ n ∧ n ≤ 1028) := by unfold formX; rw [if_neg (by decide), if_pos rfl]
theorem form8 {k : Int} {n : Nat} (h4 : ¬ k = 44) (h5 : ¬ k = 51) : formX k n = decide (n % 8 = 0 ∧ 8 ≤ n ∧ n ≤ 2048) := by unfold formX; rw [if_neg h4, if_neg h5]
include e in
theorem ref11_wrong (X : List (Int × List Nat)) (i : Nat) (hi : i < X.length) (hN : X.length ≤ 1000) (hb : ∀ p ∈ X, p.2.length ≤ room) :
 callV E "ref11.wrong" [.v (.sl X.length (exC X)), vi (i : Int)] [] = some ([rk .i64 (errX X i)], [na, na], []) := by
 have hp : X[i]? = some X[i] := List.getElem?_eq_getElem hi
 have hd := ex_dr hp
 have hC := exC_len (l := X)
 have hbi := hb _ (List.getElem_mem hi)
 unfold room at hbi
 have q1 := ref11_Is e X[i].1
 have hl := g_loop (E := E) X (n := X[i].2.length) (k := X[i].1) (b := bp X[i].2) hi (by omega) i 0 (by omega)
 rw [show ((0 : Nat) : Int) = 0 from rfl, List.drop_zero] at hl
 have hE : errX X i = if isX X[i].1 = false then 10 else if formX X[i].1 (X[i].2.length + 2) = false then 3 else if X[i].1 = 0 ∧ 0 < i then 6 else if X[i].1 = 44 ∧ 44 ∈ (X.take i).map (·.1) then 9 else 0 := by
  unfold errX
  rw [hp]
 rw [hE]
 clear hE
 generalize ((X.take i).map (·.1)) = T at *
 generalize exC X = C at *
 generalize X[i] = p at *
 obtain ⟨k, b⟩ := p
 simp only at *
 have hb2 : (bp b).length = b.length := by simp [mp]
 generalize b.length = n at *
 generalize bp b = Y at *
 generalize X.length = N at *
 by_cases a1 : isX k = false
 ·rw [if_pos a1]
  rw [a1] at q1
  exact r_bad10 e hC hi (by omega) hd (by omega) q1
 ·have a1t : isX k = true := by simpa using a1
  rw [if_neg a1]
  rw [a1t] at q1
  by_cases k4 : k = 44
  ·subst k4
   rw [form44]
   by_cases h : n + 2 = 8
   ·rw [if_neg (by simp; omega), if_neg (by rintro ⟨h, _⟩; cases h)]
    by_cases hm : 44 ∈ T
    ·rw [if_pos ⟨rfl, hm⟩] at hl ⊢
     exact r_hit44 e hC hi (by omega) hd (by omega) q1 (by omega) hl
    ·rw [if_neg (fun h => hm h.2)] at hl ⊢
     exact r_ok44 e hC hi (by omega) hd (by omega) q1 (by omega) hl
   ·rw [if_pos (by simp; omega)]
    exact r_bad3a e hC hi (by omega) hd (by omega) q1 (by omega)
  ·rw [if_neg (fun h => k4 h.1)] at hl
   by_cases k5 : k = 51
   ·subst k5
    rw [form51]
    by_cases h : (n + 2) % 4 = 0
    ·by_cases h2 : n + 2 < 8
     ·rw [if_pos (by simp; omega)]
      exact r_bad3c e hC hi (by omega) hd (by omega) q1 (by omega) (by omega)
     ·by_cases h3 : 1028 < n + 2
      ·rw [if_pos (by simp; omega)]
       exact r_bad3d e hC hi (by omega) hd (by omega) q1 (by omega) (by omega) (by omega)
      ·rw [if_neg (by simp; omega), if_neg (by rintro ⟨h, _⟩; cases h), if_neg (by rintro ⟨h, _⟩; cases h)]
       exact r_ok51 e hC hi (by omega) hd (by omega) q1 (by omega) (by omega) (by omega) hl
    ·rw [if_pos (by simp; omega)]
     exact r_bad3b e hC hi (by omega) hd (by omega) q1 (by omega)
   ·rw [form8 k4 k5]
    by_cases h : (n + 2) % 8 = 0
    ·by_cases h2 : 2048 < n + 2
     ·rw [if_pos (by simp; omega)]
      exact r_bad3f e hC hi (by omega) hd (by omega) q1 k4 k5 (by omega) (by omega)
     ·rw [if_neg (by simp; omega)]
      by_cases k0 : k = 0
      ·subst k0
       by_cases h0 : 0 < i
       ·rw [if_pos ⟨rfl, h0⟩]
        exact r_bad6 e hC hi (by omega) hd (by omega) q1 h0 (by omega) (by omega)
       ·rw [if_neg (fun h => h0 h.2), if_neg (by rintro ⟨h, _⟩; cases h)]
        exact r_ok0 e hC hi (by omega) hd (by omega) q1 (by simp; omega) (by omega) (by omega) hl
      ·rw [if_neg (fun h => k0 h.1), if_neg (fun h => k4 h.1)]
       exact r_ok8 e hC hi (by omega) hd (by omega) q1 k0 k4 k5 (by omega) (by omega) hl
    ·rw [if_pos (by simp; omega)]
     exact r_bad3e e hC hi (by omega) hd (by omega) q1 k4 k5 (by omega)
abbrev yS (M : Nat) (O : List PV) (pr : Int) (N : Nat) (C : List PV) (i : Int) : TT :=
 updT (updT (updT (updT (updT botT 7 (ti .i64 i)) 6 (.own M 1 O)) 5 (fb 0 0)) 1 (ti .i64 pr)) 0 (.val (.sl N C))
variable {C O b : List PV} {P2 : List Nat} {N M M2 i n : Nat} {k pr y z er : Int}
theorem y_out : runV E (.loop [0, 1, 5, 6, 7] ref11_Write_L0) (yS M O pr N C (N : Int)) = some (.exit 0, updT (updT botT 6 (.own M 1 O)) 5 (fb 0 0)) := by
 have c1 : ¬ (N : Int) < N := by omega
 refine loop_out (by simp (maxSteps := 1000000) (disch := first | omega | (simp only [lnS] <;> omega) | assumption | fail) [ref11_Write_L0, wwS, -List.getD_eq_getElem?_getD, -List.drop_drop, c1]; first | exact ⟨rfl, rfl⟩ | exact rfl) ?_ (by simp)
 rfl
theorem y_bad (hi : i < N) (q : callV E "ref11.wrong" [.v (.sl N C), vi (i : Int)] [] = some ([rk .i64 er], [na, na], [])) (he : ¬ er = 0) :
 runV E (.loop [0, 1, 5, 6, 7] ref11_Write_L0) (yS M O pr N C (i : Int)) = some (.ret, wE er (i : Int)) := by
 have c1 : (i : Int) < N := by omega
 refine loop_out (by simp (maxSteps := 1000000) (disch := first | omega | (simp only [lnS] <;> omega) | assumption | fail) [ref11_Write_L0, wwS, -List.getD_eq_getElem?_getD, -List.drop_drop, c1, q, he]; first | exact ⟨rfl, rfl⟩ | exact rfl) ?_ (by simp)
 rfl
theorem y_44n (hC : C.length = N * 2) (hi : i < N) (hN : N ≤ 100) (hd : List.take 2 (List.drop (i * 2) C) = [.sc (.int .i64 44), .sl n b]) (h0 : cellP C (i * 2) = some (.sc (.int .i64 44))) (h1 : cellP C (i * 2 + 1) = some (.sl n b)) (hn : n ≤ 10000) (hO : O.length = M) (hb : b.length = n)
 (hy : cellP C ((i + 1) * 2) = some (.sc (.int .i64 y))) (hl : i + 1 < N)   (q : callV E "ref11.wrong" [.v (.sl N C), vi (i : Int)] [] = some ([rk .i64 0], [na, na], []))
 (qj : callV E "ref01.Join" [.v (.sl 3 [.sl M O, .sl 2 [u8c (y % 256), u8c 0], .sl n b])] [] = some ([.o M2 1 (bp P2)], [na], [])) {R}
 (hr : runV E (.loop [0, 1, 5, 6, 7] ref11_Write_L0) (yS M2 (bp P2) pr N C ((i + 1 : Nat) : Int)) = R) :
 runV E (.loop [0, 1, 5, 6, 7] ref11_Write_L0) (yS M O pr N C (i : Int)) = R := by
 have c1 : (i : Int) < N := by omega
 have c2 : i * 2 + 2 ≤ N * 2 := by omega
 have c3 : (i : Int) + 1 < N := by omega
 have c4 : ((i : Int) + 1).toNat = i + 1 := by omega
 have c5 : (i + 1) * 2 + 2 ≤ N * 2 := by omega
 have c6 : i + 1 < N := by omega
 subst hr
 refine loop_go (by simp (maxSteps := 1000000) (disch := first | omega | (simp only [lnS] <;> omega) | assumption | fail) [ref11_Write_L0, wwS, -List.getD_eq_getElem?_getD, -List.drop_drop, hC, hi, c1, c2, c3, c4, h0, h1, hO, hb, q, qj, hy, hn, c5, c6]; rfl) ?_
 rfl
theorem y_51n (hC : C.length = N * 2) (hi : i < N) (hN : N ≤ 100) (hd : List.take 2 (List.drop (i * 2) C) = [.sc (.int .i64 51), .sl n b]) (h0 : cellP C (i * 2) = some (.sc (.int .i64 51))) (h1 : cellP C (i * 2 + 1) = some (.sl n b)) (hn : n ≤ 10000) (hO : O.length = M) (hb : b.length = n)
 (hy : cellP C ((i + 1) * 2) = some (.sc (.int .i64 y))) (hl : i + 1 < N) (h8 : 6 ≤ n) (hz : (((n : Int) + 2) / 4 - 2) % 256 = z) (q : callV E "ref11.wrong" [.v (.sl N C), vi (i : Int)] [] = some ([rk .i64 0], [na, na], []))
 (qj : callV E "ref01.Join" [.v (.sl 3 [.sl M O, .sl 2 [u8c (y % 256), u8c z], .sl n b])] [] = some ([.o M2 1 (bp P2)], [na], [])) {R}
 (hr : runV E (.loop [0, 1, 5, 6, 7] ref11_Write_L0) (yS M2 (bp P2) pr N C ((i + 1 : Nat) : Int)) = R) :
 runV E (.loop [0, 1, 5, 6, 7] ref11_Write_L0) (yS M O pr N C (i : Int)) = R := by
 have c1 : (i : Int) < N := by omega
 have c2 : i * 2 + 2 ≤ N * 2 := by omega
 have c3 : (i : Int) + 1 < N := by omega
 have c4 : ((i : Int) + 1).toNat = i + 1 := by omega
 have c5 : (i + 1) * 2 + 2 ≤ N * 2 := by omega
 have c6 : i + 1 < N := by omega
 subst hr
 refine loop_go (by simp (maxSteps := 1000000) (disch := first | omega | (simp only [lnS] <;> omega) | assumption | fail) [ref11_Write_L0, wwS, -List.getD_eq_getElem?_getD, -List.drop_drop, hC, hi, c1, c2, c3, c4, h0, h1, hO, hb, q, qj, hz, hy, h8, c5, c6]; rfl) ?_
 rfl
theorem y_8n (hC : C.length = N * 2) (hi : i < N) (hN : N ≤ 100) (hd : List.take 2 (List.drop (i * 2) C) = [.sc (.int .i64 k), .sl n b]) (h0 : cellP C (i * 2) = some (.sc (.int .i64 k))) (h1 : cellP C (i * 2 + 1) = some (.sl n b)) (hn : n ≤ 10000) (hO : O.length = M) (hb : b.length = n)
 (hy : cellP C ((i + 1) * 2) = some (.sc (.int .i64 y))) (hl : i + 1 < N) (h8 : 6 ≤ n) (k4 : ¬ k = 44) (k5 : ¬ k = 51) (hz : (((n : Int) + 2) / 8 - 1) % 256 = z) (q : callV E "ref11.wrong" [.v (.sl N C), vi (i : Int)] [] = some ([rk .i64 0], [na, na], []))
 (qj : callV E "ref01.Join" [.v (.sl 3 [.sl M O, .sl 2 [u8c (y % 256), u8c z], .sl n b])] [] = some ([.o M2 1 (bp P2)], [na], [])) {R}
 (hr : runV E (.loop [0, 1, 5, 6, 7] ref11_Write_L0) (yS M2 (bp P2) pr N C ((i + 1 : Nat) : Int)) = R) :
 runV E (.loop [0, 1, 5, 6, 7] ref11_Write_L0) (yS M O pr N C (i : Int)) = R := by
 have c1 : (i : Int) < N := by omega
 have c2 : i * 2 + 2 ≤ N * 2 := by omega
 have c3 : (i : Int) + 1 < N := by omega
 have c4 : ((i : Int) + 1).toNat = i + 1 := by omega
 have c5 : (i + 1) * 2 + 2 ≤ N * 2 := by omega
 have c6 : i + 1 < N := by omega
 subst hr
 refine loop_go (by simp (maxSteps := 1000000) (disch := first | omega | (simp only [lnS] <;> omega) | assumption | fail) [ref11_Write_L0, wwS, -List.getD_eq_getElem?_getD, -List.drop_drop, hC, hi, c1, c2, c3, c4, h0, h1, hO, hb, q, qj, hz, hy, h8, k4, k5, c5, c6]; rfl) ?_
 rfl
theorem y_44l (hC : C.length = N * 2) (hi : i < N) (hN : N ≤ 100) (hd : List.take 2 (List.drop (i * 2) C) = [.sc (.int .i64 44), .sl n b]) (h0 : cellP C (i * 2) = some (.sc (.int .i64 44))) (h1 : cellP C (i * 2 + 1) = some (.sl n b)) (hn : n ≤ 10000) (hO : O.length = M) (hb : b.length = n)
 (hl : N ≤ i + 1)   (q : callV E "ref11.wrong" [.v (.sl N C), vi (i : Int)] [] = some ([rk .i64 0], [na, na], []))
 (qj : callV E "ref01.Join" [.v (.sl 3 [.sl M O, .sl 2 [u8c (pr % 256), u8c 0], .sl n b])] [] = some ([.o M2 1 (bp P2)], [na], [])) {R}
 (hr : runV E (.loop [0, 1, 5, 6, 7] ref11_Write_L0) (yS M2 (bp P2) pr N C ((i + 1 : Nat) : Int)) = R) :
 runV E (.loop [0, 1, 5, 6, 7] ref11_Write_L0) (yS M O pr N C (i : Int)) = R := by
 have c1 : (i : Int) < N := by omega
 have c2 : i * 2 + 2 ≤ N * 2 := by omega
 have c3 : ¬ (i : Int) + 1 < N := by omega
 have c4 : ((i : Int) + 1).toNat = i + 1 := by omega
 subst hr
 refine loop_go (by simp (maxSteps := 1000000) (disch := first | omega | (simp only [lnS] <;> omega) | assumption | fail) [ref11_Write_L0, wwS, -List.getD_eq_getElem?_getD, -List.drop_drop, hC, hi, c1, c2, c3, c4, h0, h1, hO, hb, q, qj, hn]; rfl) ?_
 rfl
theorem y_51l (hC : C.length = N * 2) (hi : i < N) (hN : N ≤ 100) (hd : List.take 2 (List.drop (i * 2) C) = [.sc (.int .i64 51), .sl n b]) (h0 : cellP C (i * 2) = some (.sc (.int .i64 51))) (h1 : cellP C (i * 2 + 1) = some (.sl n b)) (hn : n ≤ 10000) (hO : O.length = M) (hb : b.length = n)
 (hl : N ≤ i + 1) (h8 : 6 ≤ n) (hz : (((n : Int) + 2) / 4 - 2) % 256 = z) (q : callV E "ref11.wrong" [.v (.sl N C), vi (i : Int)] [] = some ([rk .i64 0], [na, na], []))
 (qj : callV E "ref01.Join" [.v (.sl 3 [.sl M O, .sl 2 [u8c (pr % 256), u8c z], .sl n b])] [] = some ([.o M2 1 (bp P2)], [na], [])) {R}
 (hr : runV E (.loop [0, 1, 5, 6, 7] ref11_Write_L0) (yS M2 (bp P2) pr N C ((i + 1 : Nat) : Int)) = R) :
 runV E (.loop [0, 1, 5, 6, 7] ref11_Write_L0) (yS M O pr N C (i : Int)) = R := by
 have c1 : (i : Int) < N := by omega
 have c2 : i * 2 + 2 ≤ N * 2 := by omega
 have c3 : ¬ (i : Int) + 1 < N := by omega
 have c4 : ((i : Int) + 1).toNat = i + 1 := by omega
 subst hr
 refine loop_go (by simp (maxSteps := 1000000) (disch := first | omega | (simp only [lnS] <;> omega) | assumption | fail) [ref11_Write_L0, wwS, -List.getD_eq_getElem?_getD, -List.drop_drop, hC, hi, c1, c2, c3, c4, h0, h1, hO, hb, q, qj, hz, h8]; rfl) ?_
 rfl
theorem y_8l (hC : C.length = N * 2) (hi : i < N) (hN : N ≤ 100) (hd : List.take 2 (List.drop (i * 2) C) = [.sc (.int .i64 k), .sl n b]) (h0 : cellP C (i * 2) = some (.sc (.int .i64 k))) (h1 : cellP C (i * 2 + 1) = some (.sl n b)) (hn : n ≤ 10000) (hO : O.length = M) (hb : b.length = n)
 (hl : N ≤ i + 1) (h8 : 6 ≤ n) (k4 : ¬ k = 44) (k5 : ¬ k = 51) (hz : (((n : Int) + 2) / 8 - 1) % 256 = z) (q : callV E "ref11.wrong" [.v (.sl N C), vi (i : Int)] [] = some ([rk .i64 0], [na, na], []))
 (qj : callV E "ref01.Join" [.v (.sl 3 [.sl M O, .sl 2 [u8c (pr % 256), u8c z], .sl n b])] [] = some ([.o M2 1 (bp P2)], [na], [])) {R}
 (hr : runV E (.loop [0, 1, 5, 6, 7] ref11_Write_L0) (yS M2 (bp P2) pr N C ((i + 1 : Nat) : Int)) = R) :
 runV E (.loop [0, 1, 5, 6, 7] ref11_Write_L0) (yS M O pr N C (i : Int)) = R := by
 have c1 : (i : Int) < N := by omega
 have c2 : i * 2 + 2 ≤ N * 2 := by omega
 have c3 : ¬ (i : Int) + 1 < N := by omega
 have c4 : ((i : Int) + 1).toNat = i + 1 := by omega
 subst hr
 refine loop_go (by simp (maxSteps := 1000000) (disch := first | omega | (simp only [lnS] <;> omega) | assumption | fail) [ref11_Write_L0, wwS, -List.getD_eq_getElem?_getD, -List.drop_drop, hC, hi, c1, c2, c3, c4, h0, h1, hO, hb, q, qj, hz, h8, k4, k5]; rfl) ?_
 rfl
end
end Go.Wb.P11

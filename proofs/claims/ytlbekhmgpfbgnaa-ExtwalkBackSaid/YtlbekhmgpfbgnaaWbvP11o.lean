/- Chapter 11: extension headers are written: what the program tells; the document's, what is wrong with one. -/
import Derived.Test.YtlbekhmgpfbgnaaWbvP11n
set_option maxRecDepth 100000
set_option linter.all false
namespace Go.Wb.P11
open Go Go.Wb Go.Wb.Code Go.Wb.P01
theorem wrX_bad (X : List (Int × List Nat)) (pr : Int) : ∀ (m i : Nat) (out : List Nat), (wrX X pr m i out).2.1 ≠ 0 → (wrX X pr m i out).1 = []
 | 0, i, out, h => absurd rfl h
 | m + 1, i, out, h => by
   unfold wrX at h ⊢
   split
   ·rename_i he
    rw [if_pos he] at h
    exact wrX_bad X pr m (i + 1) _ h
   ·rfl
theorem wrX_good (X : List (Int × List Nat)) (pr : Int) : ∀ (m i : Nat) (out : List Nat), (wrX X pr m i out).2.1 = 0 → (wrX X pr m i out).2.2 = 0
 | 0, i, out, h => rfl
 | m + 1, i, out, h => by
   unfold wrX at h ⊢
   split
   ·rename_i he
    rw [if_pos he] at h
    exact wrX_good X pr m (i + 1) _ h
   ·rename_i he
    rw [if_neg he] at h
    exact absurd h he
abbrev fB (a b : Int) : CV := .v (.agg [.sc (.int .i64 a), .sc (.int .i64 b)])
section
variable {E : EnvW} (e : WbvC11Env E) (es : WbvCslEnv E)
include e in
theorem write_neg {C : List PV} {pr : Int} {N : Nat} (h : pr < 0) : callV E "extwalk.Write" [.v (.sl N C), vi pr] [] = some ([.o 0 1 [], fB 1 0], [na, na], []) := by
 refine callV_fn e.extwalk_Write fun nd hnd => ?_
 simp (maxSteps := 1000000) (disch := first | omega | (simp only [lnS] <;> omega) | assumption | fail) [extwalk_Write_B, wwS, -List.getD_eq_getElem?_getD, -List.drop_drop, h]
include e in
theorem write_big {C : List PV} {pr : Int} {N : Nat} (h : 255 < pr) : callV E "extwalk.Write" [.v (.sl N C), vi pr] [] = some ([.o 0 1 [], fB 1 0], [na, na], []) := by
 have c : ¬ pr < 0 := by omega
 refine callV_fn e.extwalk_Write fun nd hnd => ?_
 simp (maxSteps := 1000000) (disch := first | omega | (simp only [lnS] <;> omega) | assumption | fail) [extwalk_Write_B, wwS, -List.getD_eq_getElem?_getD, -List.drop_drop, c, h]
include e in
theorem write_is {C : List PV} {pr : Int} {N : Nat} (h1 : ¬ pr < 0) (h2 : ¬ 255 < pr) (q : callV E "extwalk.Is" [vi pr] [] = some ([rB true], [na], [])) : callV E "extwalk.Write" [.v (.sl N C), vi pr] [] = some ([.o 0 1 [], fB 1 0], [na, na], []) := by
 refine callV_fn e.extwalk_Write fun nd hnd => ?_
 simp (maxSteps := 1000000) (disch := first | omega | (simp only [lnS] <;> omega) | assumption | fail) [extwalk_Write_B, wwS, -List.getD_eq_getElem?_getD, -List.drop_drop, h1, h2, q]
include e in
theorem write_many {C : List PV} {pr : Int} {N : Nat} (h1 : ¬ pr < 0) (h2 : ¬ 255 < pr) (q : callV E "extwalk.Is" [vi pr] [] = some ([rB false], [na], [])) (h : 8 < N) : callV E "extwalk.Write" [.v (.sl N C), vi pr] [] = some ([.o 0 1 [], fB 7 8], [na, na], []) := by
 have c : (8 : Int) < N := by omega
 refine callV_fn e.extwalk_Write fun nd hnd => ?_
 simp (maxSteps := 1000000) (disch := first | omega | (simp only [lnS] <;> omega) | assumption | fail) [extwalk_Write_B, wwS, -List.getD_eq_getElem?_getD, -List.drop_drop, h1, h2, q, c]
include e es in
theorem extwalk_Write (X : List (Int × List Nat)) (pr : Int) (hb : ∀ p ∈ X, p.2.length ≤ room) :
 callV E "extwalk.Write" [.v (.sl X.length (exC X)), vi pr] [] = some ([.o (writeX X pr).1.length 1 (bp (writeX X pr).1), fB (writeX X pr).2.1 (writeX X pr).2.2], [na, na], []) := by
 have q := extwalk_Is e pr
 unfold writeX
 by_cases h1 : pr < 0
 ·rw [if_pos (.inl h1)]
  exact write_neg e h1
 ·by_cases h2 : 255 < pr
  ·rw [if_pos (.inr (.inl h2))]
   exact write_big e h2
  ·by_cases h3 : isX pr = true
   ·rw [if_pos (.inr (.inr h3))]
    rw [h3] at q
    exact write_is e h1 h2 q
   ·have h3f : isX pr = false := by simpa using h3
    rw [if_neg (by rintro (h | h | h) <;> contradiction)]
    rw [h3f] at q
    by_cases h8 : 8 < X.length
    ·rw [if_pos h8]
     exact write_many e h1 h2 q h8
    ·rw [if_neg h8]
     have k1 := k_loop (E := E) X pr rfl (by omega) X.length 0 (by omega)
     have l1 := w_loop e es X pr rfl (by omega) hb X.length 0 [] (by omega) (by simp)
     rw [show ((0 : Nat) : Int) = 0 from rfl] at k1 l1
     have k1 : runV E (.loop [0, 1, 5, 6, 34, 35, 36] extwalk_Write_L0) (kS X.length (exC X) 0 [] pr 0) = _ := k1
     refine write_run e (r := wR (wrX X pr X.length 0 [])) (by omega) (by omega) (by omega) exC_len (K := ip (X.map (·.1))) (by simp [mp]) (K2 := ip (kindsX X pr)) (by simp [mp, kindsX]) q k1 l1 ?_
     have hbad := wrX_bad X pr X.length 0 []
     have hgood := wrX_good X pr X.length 0 []
     generalize wrX X pr X.length 0 [] = r at *
     obtain ⟨o, x, y⟩ := r
     simp only at hbad hgood ⊢
     by_cases hx : x = 0
     ·left
      subst hx
      rw [hgood rfl]
      exact ⟨rfl, rfl⟩
     ·right
      have := hbad hx
      subst this
      exact ⟨x, y, by unfold wR; rw [if_neg hx], rfl, rfl, rfl⟩
end
section
variable {E : EnvW} (e : WbvC11Env E)
abbrev gS (C : List PV) (N : Nat) (x : TV) (i : Nat) (j : Int) : TT := updT (updT (updT (updT botT 7 (ti .i64 j)) 5 x) 1 (ti .i64 (i : Int))) 0 (.val (.sl N C))
abbrev exB (k : Int) (n : Nat) (b : List PV) : TV := .box [.v (.sc (.int .i64 k)), .v (.sl n b)]
theorem g_out {C : List PV} {N i : Nat} {x : TV} : runV E (.loop [0, 1, 5, 7] ref11_wrong_L0) (gS C N x i (i : Int)) = some (.exit 0, botT) := by
 have c1 : ¬ (i : Int) < i := by omega
 refine loop_out (by simp (maxSteps := 1000000) (disch := first | omega | (simp only [lnS] <;> omega) | assumption | fail) [ref11_wrong_L0, wwS, -List.getD_eq_getElem?_getD, -List.drop_drop, c1]; first | exact ⟨rfl, rfl⟩ | exact rfl) ?_ (by simp)
 rfl
theorem g_step {C b : List PV} {N i n j : Nat} {k : Int} {R} (hj : j < i) (hN : i ≤ 1000) (hk : ¬ k = 44) (hr : runV E (.loop [0, 1, 5, 7] ref11_wrong_L0) (gS C N (exB k n b) i ((j + 1 : Nat) : Int)) = R) :
 runV E (.loop [0, 1, 5, 7] ref11_wrong_L0) (gS C N (exB k n b) i (j : Int)) = R := by
 have c1 : (j : Int) < i := by omega
 subst hr
 refine loop_go (by simp (maxSteps := 1000000) (disch := first | omega | (simp only [lnS] <;> omega) | assumption | fail) [ref11_wrong_L0, wwS, -List.getD_eq_getElem?_getD, -List.drop_drop, c1, hk]; rfl) ?_
 rfl
theorem g_step4 {C b : List PV} {N i n j : Nat} {k : Int} {R} (hC : C.length = N * 2) (hj : j < i) (hN : i ≤ 1000) (hi : i < N) (h0 : cellP C (j * 2) = some (.sc (.int .i64 k))) (hk : ¬ k = 44) (hr : runV E (.loop [0, 1, 5, 7] ref11_wrong_L0) (gS C N (exB 44 n b) i ((j + 1 : Nat) : Int)) = R) :
 runV E (.loop [0, 1, 5, 7] ref11_wrong_L0) (gS C N (exB 44 n b) i (j : Int)) = R := by
 have c1 : (j : Int) < i := by omega
 have c2 : j < N := by omega
 have c3 : j * 2 + 2 ≤ N * 2 := by omega
 subst hr
 refine loop_go (by simp (maxSteps := 1000000) (disch := first | omega | (simp only [lnS] <;> omega) | assumption | fail) [ref11_wrong_L0, wwS, -List.getD_eq_getElem?_getD, -List.drop_drop, c1, hk, hC, c2, c3, h0]; rfl) ?_
 rfl
theorem g_hit {C b : List PV} {N i n j : Nat} (hC : C.length = N * 2) (hj : j < i) (hN : i ≤ 1000) (hi : i < N) (h0 : cellP C (j * 2) = some (.sc (.int .i64 44))) :
 runV E (.loop [0, 1, 5, 7] ref11_wrong_L0) (gS C N (exB 44 n b) i (j : Int)) = some (.ret, updT botT 4 (ti .i64 9)) := by
 have c1 : (j : Int) < i := by omega
 have c2 : j < N := by omega
 have c3 : j * 2 + 2 ≤ N * 2 := by omega
 refine loop_out (by simp (maxSteps := 1000000) (disch := first | omega | (simp only [lnS] <;> omega) | assumption | fail) [ref11_wrong_L0, wwS, -List.getD_eq_getElem?_getD, -List.drop_drop, c1, hC, c2, c3, h0]; first | exact ⟨rfl, rfl⟩ | exact rfl) ?_ (by simp)
 rfl
theorem g_loop (X : List (Int × List Nat)) {i n : Nat} {k : Int} {b : List PV} (hi : i < X.length) (hi2 : i ≤ 1000) : ∀ (m j : Nat), j + m = i →
 runV E (.loop [0, 1, 5, 7] ref11_wrong_L0) (gS (exC X) X.length (exB k n b) i (j : Int)) = some (if k = 44 ∧ 44 ∈ ((X.take i).drop j).map (·.1) then (.ret, updT botT 4 (ti .i64 9)) else (.exit 0, botT))
 | 0, j, hm => by
   have hj : j = i := by omega
   subst hj
   rw [g_out, List.drop_of_length_le (by rw [List.length_take]; omega)]
   simp
 | m + 1, j, hm => by
   have hj : j < X.length := by omega
   have ih := g_loop X (n := n) (k := k) (b := b) hi hi2 m (j + 1) (by omega)
   have hd : (X.take i).drop j = X[j] :: (X.take i).drop (j + 1) := by
    rw [List.drop_eq_getElem_cons (by rw [List.length_take]; omega), List.getElem_take]
   obtain ⟨h0, _⟩ := ex_at (l := X) (List.getElem?_eq_getElem hj)
   rw [hd, List.map_cons]
   by_cases hk : k = 44
   ·subst hk
    by_cases hx : X[j].1 = 44
    ·rw [hx] at h0
     rw [g_hit exC_len (by omega) hi2 hi h0, hx, if_pos ⟨rfl, List.mem_cons_self ..⟩]
    ·have e1 : (44 ∈ X[j].1 :: ((X.take i).drop (j + 1)).map (·.1)) ↔ 44 ∈ ((X.take i).drop (j + 1)).map (·.1) := by
      rw [List.mem_cons]
      exact ⟨fun h => h.elim (fun h => absurd h.symm hx) id, .inr⟩
     rw [g_step4 exC_len (by omega) hi2 hi h0 hx ih]
     simp only [e1]
   ·rw [g_step (by omega) hi2 hk ih, if_neg (fun h => hk h.1), if_neg (fun h => hk h.1)]
end
end Go.Wb.P11

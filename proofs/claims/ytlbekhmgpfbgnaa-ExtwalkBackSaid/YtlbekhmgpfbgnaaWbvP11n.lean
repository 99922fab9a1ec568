/- Chapter 11: extension headers are written: the program's whole. -/
import Derived.Test.YtlbekhmgpfbgnaaWbvP11m
set_option maxRecDepth 100000
set_option linter.all false
namespace Go.Wb.P11
open Go Go.Wb Go.Wb.Code Go.Wb.P01
theorem ex_dr : ∀ {l : List (Int × List Nat)} {i : Nat} {p : Int × List Nat}, l[i]? = some p → List.take 2 (List.drop (i * 2) (exC l)) = [.sc (.int .i64 p.1), .sl p.2.length (bp p.2)]
 | [], i, p, h => by cases h
 | q :: l, 0, p, h => by
   simp at h
   subst h
   unfold exC
   simp
 | q :: l, i + 1, p, h => by
   have ih := ex_dr (l := l) (i := i) (p := p) (by simpa using h)
   have e : exC (q :: l) = exV q.1 q.2.length q.2 ++ exC l := by unfold exC; simp
   rw [e, show (i + 1) * 2 = 2 + i * 2 by omega, ← List.drop_drop]
   exact ih
theorem ip_take {L : List Int} {n : Nat} : List.take n (ip L) = ip (L.take n) := by
 induction L generalizing n with
 | nil => simp [mp]
 | cons x l ih =>
   cases n with
   | zero => simp [mp]
   | succ n => simpa [mp] using ih
theorem bp_add2 {O b : List Nat} {y z : Int} (hy : 0 ≤ y) (hz : 0 ≤ z) : bp (O ++ ([y.toNat, z.toNat] ++ b)) = bp O ++ u8c y :: u8c z :: bp b := by
 have e1 : (y.toNat : Int) = y := by omega
 have e2 : (z.toNat : Int) = z := by omega
 simp [mp, e1, e2]
theorem kinds_len {X : List (Int × List Nat)} {pr : Int} : (kindsX X pr).length = X.length + 1 := by simp [kindsX]
theorem form_le {k : Int} {n : Nat} (h : formX k n = true) : n ≤ 2048 := by
 unfold formX at h
 split at h
 ·simp at h; omega
 ·split at h <;> simp at h <;> omega
def wR (r : List Nat × Int × Int) : AExit × TT := if r.2.1 = 0 then (.exit 2, updT (updT botT 9 (.own r.1.length 1 (bp r.1))) 5 (fb 0 0)) else (.ret, wE r.2.1 r.2.2)
section
variable {E : EnvW} (e : WbvC11Env E) (es : WbvCslEnv E)
include e es in
theorem w_loop (X : List (Int × List Nat)) (pr : Int) {N : Nat} (hN : X.length = N) (h8 : N ≤ 8) (hb : ∀ p ∈ X, p.2.length ≤ room) : ∀ (m i : Nat) (out : List Nat), i + m = N → out.length ≤ i * 2050 →
 runV E (.loop [5, 6, 9, 50, 51, 52] extwalk_Write_L1) (wS (fb 0 0) (N + 1) (ip (kindsX X pr)) out.length (bp out) N (exC X) (i : Int)) = some (wR (wrX X pr m i out))
 | 0, i, out, hm, ho => by
   have hi : i = N := by omega
   subst hi
   rw [w_out]
   rfl
 | m + 1, i, out, hm, ho => by
   have hi : i < X.length := by omega
   have hp : X[i]? = some X[i] := List.getElem?_eq_getElem hi
   have hd := ex_dr hp
   have hC : (exC X).length = N * 2 := by rw [exC_len, hN]
   have hbi := hb _ (List.getElem_mem hi)
   unfold room at hbi
   have q1 := extwalk_Is e X[i].1
   have q2 := extwalk_length e X[i].1 (X[i].2.length + 2) (by omega)
   rw [Int.natCast_add, show (((2 : Nat) : Int)) = 2 from rfl] at q2
   have hK : (ip (kindsX X pr)).length = N + 1 := by simp [mp, kinds_len, hN]
   have ih : errX X i = 0 → _ := fun he => w_loop X pr hN h8 hb m (i + 1) (out ++ hdrX X pr i) (by omega)
   have hE : errX X i = if isX X[i].1 = false then 10 else if formX X[i].1 (X[i].2.length + 2) = false then 3 else if X[i].1 = 0 ∧ 0 < i then 6 else if X[i].1 = 44 ∧ 44 ∈ (X.take i).map (·.1) then 9 else 0 := by
    unfold errX
    rw [hp]
   have hH : hdrX X pr i = [(((kindsX X pr).getD (i + 1) 0) % 256).toNat, (lenI X[i].1 (X[i].2.length + 2) % 256).toNat] ++ X[i].2 := by
    unfold hdrX
    rw [hp]
   have hy : cellP (ip (kindsX X pr)) (i + 1) = some (.sc (.int .i64 ((kindsX X pr).getD (i + 1) 0))) := by
    have : i + 1 < (kindsX X pr).length := by rw [kinds_len]; omega
    simp [cellP, mp, List.getD, this]
   unfold wrX
   have bad : ∀ er : Int, errX X i = er → er ≠ 0 → some (wR (if errX X i = 0 then wrX X pr m (i + 1) (out ++ hdrX X pr i) else ([], errX X i, (i : Int)))) = some (.ret, wE er (i : Int)) := by
    intro er h1 h2
    rw [h1, if_neg h2]
    unfold wR
    rw [if_neg h2]
   by_cases a1 : isX X[i].1 = false
   ·rw [if_pos a1] at hE
    rw [bad 10 hE (by decide)]
    rw [a1] at q1
    exact w_bad10 hC (by omega) hd (by omega) q1 q2
   ·have a1t : isX X[i].1 = true := by simpa using a1
    rw [if_neg a1] at hE
    rw [a1t] at q1
    by_cases a2 : formX X[i].1 (X[i].2.length + 2) = false
    ·rw [if_pos a2] at hE
     rw [bad 3 hE (by decide)]
     rw [a2] at q2
     exact w_bad3 hC (by omega) hd (by omega) q1 q2
    ·have a2t : formX X[i].1 (X[i].2.length + 2) = true := by simpa using a2
     rw [if_neg a2] at hE
     rw [a2t] at q2
     have hln := form_le a2t
     by_cases a3 : X[i].1 = 0 ∧ 0 < i
     ·rw [if_pos a3] at hE
      rw [bad 6 hE (by decide)]
      rw [a3.1] at q1 q2 hd
      exact w_bad6 hC (by omega) hd (by omega) a3.2 q1 q2
     ·rw [if_neg a3] at hE
      have q3 := slices_Contains es ((kindsX X pr).take i) (by rw [List.length_take]; omega) 44
      have tk : (kindsX X pr).take i = (X.take i).map (·.1) := by
       unfold kindsX
       rw [List.take_append_of_le_length (by rw [List.length_map]; omega), List.map_take]
      have tl : ((kindsX X pr).take i).length = i := by rw [List.length_take, kinds_len]; omega
      rw [tl, ← ip_take, tk] at q3
      by_cases a4 : X[i].1 = 44 ∧ 44 ∈ (X.take i).map (·.1)
      ·rw [if_pos a4] at hE
       rw [bad 9 hE (by decide)]
       rw [decide_eq_true a4.2] at q3
       rw [a4.1] at q1 q2 hd
       exact w_bad9 hC (by omega) hd (by omega) hK (by omega) q1 q2 q3
      ·rw [if_neg a4] at hE
       rw [hE, if_pos rfl]
       have ih := ih hE (by rw [hH]; simp; omega)
       have hl : (out ++ hdrX X pr i).length = out.length + 2 + X[i].2.length := by rw [hH]; simp; omega
       rw [hl] at ih
       rw [← ih]
       rw [hH, bp_add2 (Int.emod_nonneg _ (by decide)) (Int.emod_nonneg _ (by decide))]
       by_cases k0 : X[i].1 = 0
       ·have hp0 : (0 < i) = False := by simp; by_cases h : i = 0; exact h; exact absurd ⟨k0, by omega⟩ a3
        rw [k0] at q1 q2 hd ⊢
        exact w_ok0 hC (by omega) hd (by omega) (by omega) (by omega) (by simp [mp]) (by simp [mp]) hK (by omega) (by omega) hy hp0 q1 q2 rfl
       ·by_cases k4 : X[i].1 = 44
        ·rw [decide_eq_false (fun h => a4 ⟨k4, h⟩)] at q3
         rw [k4] at q1 q2 hd ⊢
         exact w_ok44 hC (by omega) hd (by omega) (by omega) (by omega) (by simp [mp]) (by simp [mp]) hK (by omega) (by omega) hy q3 q1 q2 rfl
        ·exact w_ok hC (by omega) hd (by omega) (by omega) (by omega) (by simp [mp]) (by simp [mp]) hK (by omega) (by omega) hy k0 k4 q1 q2 rfl
abbrev kS (N : Nat) (C : List PV) (M : Nat) (K : List PV) (pr : Int) (i : Int) : TT :=
 updT (updT (updT (updT (updT (updT (updT botT 36 (ti .i64 i)) 35 (ti .i64 (N : Int))) 34 (.val (.sl N C))) 6 (.own M 1 K)) 5 (fb 0 0)) 1 (ti .i64 pr)) 0 (.val (.sl N C))
abbrev kO (N : Nat) (C : List PV) (M : Nat) (K : List PV) (pr : Int) : TT :=
 updT (updT (updT (updT botT 6 (.own M 1 K)) 5 (fb 0 0)) 1 (ti .i64 pr)) 0 (.val (.sl N C))
theorem k_step {C K b : List PV} {N M i n : Nat} {k pr : Int} {R} (hC : C.length = N * 2) (hi : i < N) (hd : List.take 2 (List.drop (i * 2) C) = [.sc (.int .i64 k), .sl n b]) (hK : K.length = M) (hM : M ≤ 100) (hN : N ≤ 100)
 (hr : runV E (.loop [0, 1, 5, 6, 34, 35, 36] extwalk_Write_L0) (kS N C (M + 1) (K ++ [.sc (.int .i64 k)]) pr ((i + 1 : Nat) : Int)) = R) :
 runV E (.loop [0, 1, 5, 6, 34, 35, 36] extwalk_Write_L0) (kS N C M K pr (i : Int)) = R := by
 have c1 : (i : Int) < N := by omega
 have c2 : i * 2 + 2 ≤ N * 2 := by omega
 subst hr
 refine loop_go (by simp (maxSteps := 1000000) (disch := first | omega | (simp only [lnS] <;> omega) | assumption | fail) [extwalk_Write_L0, wwS, -List.getD_eq_getElem?_getD, -List.drop_drop, hC, hi, c1, c2, hd, hK]; rfl) ?_
 rfl
theorem k_out {C K : List PV} {N M : Nat} {pr : Int} : runV E (.loop [0, 1, 5, 6, 34, 35, 36] extwalk_Write_L0) (kS N C M K pr (N : Int)) = some (.exit 0, kO N C M K pr) := by
 have c1 : ¬ (N : Int) < N := by omega
 refine loop_out (by simp (maxSteps := 1000000) (disch := first | omega | (simp only [lnS] <;> omega) | assumption | fail) [extwalk_Write_L0, wwS, -List.getD_eq_getElem?_getD, -List.drop_drop, c1]; first | exact ⟨rfl, rfl⟩ | exact rfl) ?_ (by simp)
 rfl
theorem k_loop (X : List (Int × List Nat)) (pr : Int) {N : Nat} (hN : X.length = N) (h8 : N ≤ 8) : ∀ (m i : Nat), i + m = N →
 runV E (.loop [0, 1, 5, 6, 34, 35, 36] extwalk_Write_L0) (kS N (exC X) i (ip ((X.take i).map (·.1))) pr (i : Int)) = some (.exit 0, kO N (exC X) N (ip (X.map (·.1))) pr)
 | 0, i, hm => by
   have hi : i = N := by omega
   subst hi
   rw [k_out, List.take_of_length_le (by omega)]
 | m + 1, i, hm => by
   have hi : i < X.length := by omega
   have hd := ex_dr (List.getElem?_eq_getElem hi)
   have ih := k_loop X pr hN h8 m (i + 1) (by omega)
   have e1 : ip ((X.take (i + 1)).map (·.1)) = ip ((X.take i).map (·.1)) ++ [.sc (.int .i64 X[i].1)] := by
    rw [List.take_succ_eq_append_getElem hi, List.map_append]
    simp only [mp, List.map_append, List.map_cons, List.map_nil]
   rw [e1] at ih
   exact k_step (by rw [exC_len, hN]) (by omega) hd (by simp [mp, List.length_take]; omega) (by omega) (by omega) ih
include e in
theorem write_run {pr : Int} {N : Nat} {C K K2 O : List PV} {r : AExit × TT} {F : List PV} {n : Nat} (hN : N ≤ 8) (hp : 0 ≤ pr) (hp2 : pr ≤ 255) (hC : C.length = N * 2) (hK : K.length = N) (hK2 : K ++ [.sc (.int .i64 pr)] = K2)
 (q : callV E "extwalk.Is" [vi pr] [] = some ([rB false], [na], []))
 (h1 : runV E (.loop [0, 1, 5, 6, 34, 35, 36] extwalk_Write_L0) (kS N C 0 [] pr 0) = some (.exit 0, kO N C N K pr))
 (h2 : runV E (.loop [5, 6, 9, 50, 51, 52] extwalk_Write_L1) (wS (fb 0 0) (N + 1) K2 0 [] N C 0) = some r)
 (hr : (r = (.exit 2, updT (updT botT 9 (.own n 1 O)) 5 (fb 0 0)) ∧ F = [.sc (.int .i64 0), .sc (.int .i64 0)]) ∨ (∃ x y, r = (.ret, wE x y) ∧ n = 0 ∧ O = [] ∧ F = [.sc (.int .i64 x), .sc (.int .i64 y)])) :
 callV E "extwalk.Write" [.v (.sl N C), vi pr] [] = some ([.o n 1 O, .v (.agg F)], [na, na], []) := by
 have c1 : ¬ pr < 0 := by omega
 have c2 : ¬ 255 < pr := by omega
 have c3 : ¬ (8 : Int) < N := by omega
 rcases hr with ⟨rfl, rfl⟩ | ⟨x, y, rfl, rfl, rfl, rfl⟩
 ·refine callV_fn e.extwalk_Write fun nd hnd => ?_
  simp (maxSteps := 1000000) (disch := first | omega | (simp only [lnS] <;> omega) | assumption | fail) [extwalk_Write_B, wwS, -List.getD_eq_getElem?_getD, -List.drop_drop, c1, c2, c3, q, h1, h2, hK, hK2]
 ·refine callV_fn e.extwalk_Write fun nd hnd => ?_
  simp (maxSteps := 1000000) (disch := first | omega | (simp only [lnS] <;> omega) | assumption | fail) [extwalk_Write_B, wwS, -List.getD_eq_getElem?_getD, -List.drop_drop, c1, c2, c3, q, h1, h2, hK, hK2]
end
end Go.Wb.P11

/- Chapter 11: extension headers are written: the program's parts. -/
import Derived.Test.YtlbekhmgpfbgnaaWbvP11k
set_option maxRecDepth 100000
set_option linter.all false
namespace Go.Wb.P11
open Go Go.Wb Go.Wb.Code Go.Wb.P01
def lenI (k : Int) (n : Nat) : Int := if k = 44 then 0 else if k = 51 then (n : Int) / 4 - 2 else (n : Int) / 8 - 1
def formX (k : Int) (n : Nat) : Bool := if k = 44 then decide (n = 8) else if k = 51 then decide (n % 4 = 0 ∧ 8 ≤ n ∧ n ≤ 1028) else decide (n % 8 = 0 ∧ 8 ≤ n ∧ n ≤ 2048)
def kindsX (X : List (Int × List Nat)) (proto : Int) : List Int := X.map (·.1) ++ [proto]
def errX (X : List (Int × List Nat)) (i : Nat) : Int :=
 match X[i]? with
 | none => 0
 | some p => if isX p.1 = false then 10 else if formX p.1 (p.2.length + 2) = false then 3 else if p.1 = 0 ∧ 0 < i then 6 else if p.1 = 44 ∧ 44 ∈ (X.take i).map (·.1) then 9 else 0
def hdrX (X : List (Int × List Nat)) (proto : Int) (i : Nat) : List Nat :=
 match X[i]? with
 | none => []
 | some p => [(((kindsX X proto).getD (i + 1) 0) % 256).toNat, (lenI p.1 (p.2.length + 2) % 256).toNat] ++ p.2
def wrX (X : List (Int × List Nat)) (proto : Int) : Nat → Nat → List Nat → List Nat × Int × Int
 | 0, _, out => (out, 0, 0)
 | m + 1, i, out => if errX X i = 0 then wrX X proto m (i + 1) (out ++ hdrX X proto i) else ([], errX X i, i)
def writeX (X : List (Int × List Nat)) (proto : Int) : List Nat × Int × Int :=
 if proto < 0 ∨ 255 < proto ∨ isX proto = true then ([], 1, 0) else if 8 < X.length then ([], 7, 8) else wrX X proto X.length 0 []
section
variable {E : EnvW} (e : WbvC11Env E) (es : WbvCslEnv E) (e1 : WbvC01Env E)
include e in
theorem length44 (n : Nat) (hn : n ≤ 140737488356000) : callV E "extwalk.length" [vi 44, vi n] [] = some ([rk .u8 0, rB (decide (n = 8))], [na, na], []) := by
 have h : decide ((n : Int) = 8) = decide (n = 8) := decide_eq_decide.2 (by omega)
 refine callV_fn e.extwalk_length fun nd hnd => ?_
 simp (maxSteps := 1000000) (disch := first | omega | (simp only [lnS] <;> omega) | assumption | fail) [extwalk_length_B, wwS, -List.getD_eq_getElem?_getD, -List.drop_drop, h]
include e in
theorem length51 (n : Nat) (hn : n ≤ 140737488356000) : callV E "extwalk.length" [vi 51, vi n] [] = some ([rk .u8 (((n : Int) / 4 - 2) % 256), rB (decide (n % 4 = 0 ∧ 8 ≤ n ∧ n ≤ 1028))], [na, na], []) := by
 by_cases h4 : n % 4 = 0
 ·have c2 : (n : Int) % 4 = 0 := by omega
  by_cases h8 : 8 ≤ n
  ·have c1 : (8 : Int) ≤ n := by omega
   have h : decide ((n : Int) / 4 - 2 ≤ 255) = decide (n % 4 = 0 ∧ 8 ≤ n ∧ n ≤ 1028) := decide_eq_decide.2 (by omega)
   refine callV_fn e.extwalk_length fun nd hnd => ?_
   simp (maxSteps := 1000000) (disch := first | omega | (simp only [lnS] <;> omega) | assumption | fail) [extwalk_length_B, wwS, -List.getD_eq_getElem?_getD, -List.drop_drop, c1, c2, h, h8]
  ·have c1 : ¬ (8 : Int) ≤ n := by omega
   rw [decide_eq_false (p := n % 4 = 0 ∧ 8 ≤ n ∧ n ≤ 1028) (by omega)]
   refine callV_fn e.extwalk_length fun nd hnd => ?_
   simp (maxSteps := 1000000) (disch := first | omega | (simp only [lnS] <;> omega) | assumption | fail) [extwalk_length_B, wwS, -List.getD_eq_getElem?_getD, -List.drop_drop, c1, c2]
 ·have c2 : ¬ (n : Int) % 4 = 0 := by omega
  rw [decide_eq_false (p := n % 4 = 0 ∧ 8 ≤ n ∧ n ≤ 1028) (by omega)]
  refine callV_fn e.extwalk_length fun nd hnd => ?_
  simp (maxSteps := 1000000) (disch := first | omega | (simp only [lnS] <;> omega) | assumption | fail) [extwalk_length_B, wwS, -List.getD_eq_getElem?_getD, -List.drop_drop, c2]
include e in
theorem length8 (k : Int) (n : Nat) (hn : n ≤ 140737488356000) (k4 : ¬ k = 44) (k5 : ¬ k = 51) : callV E "extwalk.length" [vi k, vi n] [] = some ([rk .u8 (((n : Int) / 8 - 1) % 256), rB (decide (n % 8 = 0 ∧ 8 ≤ n ∧ n ≤ 2048))], [na, na], []) := by
 by_cases h4 : n % 8 = 0
 ·have c2 : (n : Int) % 8 = 0 := by omega
  by_cases h8 : 8 ≤ n
  ·have c1 : (8 : Int) ≤ n := by omega
   have h : decide ((n : Int) / 8 - 1 ≤ 255) = decide (n % 8 = 0 ∧ 8 ≤ n ∧ n ≤ 2048) := decide_eq_decide.2 (by omega)
   refine callV_fn e.extwalk_length fun nd hnd => ?_
   simp (maxSteps := 1000000) (disch := first | omega | (simp only [lnS] <;> omega) | assumption | fail) [extwalk_length_B, wwS, -List.getD_eq_getElem?_getD, -List.drop_drop, c1, c2, h, h8, k4, k5]
  ·have c1 : ¬ (8 : Int) ≤ n := by omega
   rw [decide_eq_false (p := n % 8 = 0 ∧ 8 ≤ n ∧ n ≤ 2048) (by omega)]
   refine callV_fn e.extwalk_length fun nd hnd => ?_
   simp (maxSteps := 1000000) (disch := first | omega | (simp only [lnS] <;> omega) | assumption | fail) [extwalk_length_B, wwS, -List.getD_eq_getElem?_getD, -List.drop_drop, c1, c2, k4, k5]
 ·have c2 : ¬ (n : Int) % 8 = 0 := by omega
  rw [decide_eq_false (p := n % 8 = 0 ∧ 8 ≤ n ∧ n ≤ 2048) (by omega)]
  refine callV_fn e.extwalk_length fun nd hnd => ?_
  simp (maxSteps := 1000000) (disch := first | omega | (simp only [lnS] <;> omega) | assumption | fail) [extwalk_length_B, wwS, -List.getD_eq_getElem?_getD, -List.drop_drop, c2, k4, k5]
include e in
theorem extwalk_length (k : Int) (n : Nat) (hn : n ≤ 140737488356000) : callV E "extwalk.length" [vi k, vi n] [] = some ([rk .u8 (lenI k n % 256), rB (formX k n)], [na, na], []) := by
 unfold lenI formX
 by_cases k4 : k = 44
 ·subst k4
  exact length44 e n hn
 ·rw [if_neg k4, if_neg k4]
  by_cases k5 : k = 51
  ·subst k5
   exact length51 e n hn
  ·rw [if_neg k5, if_neg k5]
   exact length8 e k n hn k4 k5
def idxX (v : Int) : List Int → Int → Int
 | [], _ => -1
 | x :: l, i => if v = x then i else idxX v l (i + 1)
theorem idxX_mem {v : Int} : ∀ {l : List Int} {i : Int}, 0 ≤ i → decide (0 ≤ idxX v l i) = decide (v ∈ l)
 | [], i, h => by simp [idxX]
 | x :: l, i, h => by
   unfold idxX
   by_cases hx : v = x
   ·subst hx
    rw [if_pos rfl]
    simp [h]
   ·rw [if_neg hx, idxX_mem (by omega)]
    simp [hx]
theorem idx_loop (L : List Int) {N : Nat} (hN : L.length = N) (hl : N ≤ 1000) (v : Int) : ∀ (m i : Nat), i + m = N →
 runV E (.loop [0, 1, 7, 8] slices_Index_int_int_L0) (updT (updT (updT (updT botT 8 (ti .i64 (i : Int))) 7 (ti .i64 (N : Int))) 1 (ti .i64 v)) 0 (.val (.sl N (ip L)))) =
  if idxX v (L.drop i) i = -1 then some (.exit 0, botT) else some (.ret, updT botT 4 (ti .i64 (idxX v (L.drop i) i)))
 | 0, i, hm => by
   have hi : i = N := by omega
   rw [List.drop_of_length_le (by omega)]
   unfold idxX
   rw [if_pos rfl]
   subst hi
   have c1 : ¬ (i : Int) < i := by omega
   refine loop_out (by simp (maxSteps := 1000000) (disch := first | omega | (simp only [lnS] <;> omega) | assumption | fail) [slices_Index_int_int_L0, wwS, -List.getD_eq_getElem?_getD, -List.drop_drop, c1]; first | exact ⟨rfl, rfl⟩ | exact rfl) ?_ (by simp)
   rfl
 | m + 1, i, hm => by
   have hi : i < L.length := by omega
   have ih := idx_loop L hN hl v m (i + 1) (by omega)
   have c1 : (i : Int) < N := by omega
   have c3 : i < N := by omega
   have h0 : cellP (ip L) i = some (.sc (.int .i64 L[i])) := by simp [cellP, mp, hi]
   rw [List.drop_eq_getElem_cons hi]
   unfold idxX
   have hl2 : (ip L).length = N := by simp [mp, hN]
   generalize ip L = Y at *
   generalize L.drop (i + 1) = D at *
   generalize L[i] = x at *
   by_cases hx : v = x
   ·subst hx
    have c2 : ¬ (i : Int) = -1 := by omega
    rw [if_pos rfl, if_neg c2]
    refine loop_out (by simp (maxSteps := 1000000) (disch := first | omega | (simp only [lnS] <;> omega) | assumption | fail) [slices_Index_int_int_L0, wwS, -List.getD_eq_getElem?_getD, -List.drop_drop, c1, c3, h0, hl2]; first | exact ⟨rfl, rfl⟩ | exact rfl) ?_ (by simp)
    rfl
   ·rw [if_neg hx]
    rw [Int.natCast_add] at ih
    rw [show ((i : Int) + 1) = (i : Int) + ((1 : Nat) : Int) from rfl]
    rw [← ih]
    refine loop_go (by simp (maxSteps := 1000000) (disch := first | omega | (simp only [lnS] <;> omega) | assumption | fail) [slices_Index_int_int_L0, wwS, -List.getD_eq_getElem?_getD, -List.drop_drop, c1, c3, h0, hx, hl2]; rfl) ?_
    rfl
end
section
variable {E : EnvW} (e : WbvCslEnv E)
include e in
theorem slices_Index (L : List Int) (hl : L.length ≤ 1000) (v : Int) : callV E "slices.Index[[]int,int]" [.v (.sl L.length (ip L)), vi v] [] = some ([rk .i64 (idxX v L 0)], [na, na], []) := by
 have h := idx_loop (E := E) L rfl hl v L.length 0 (by omega)
 rw [show ((0 : Nat) : Int) = 0 from rfl, List.drop_zero] at h
 generalize ip L = Y at *
 split at h
 ·rename_i hi
  rw [hi]
  refine callV_fn e.slices_Index_int_int fun nd hnd => ?_
  simp (maxSteps := 1000000) (disch := first | omega | (simp only [lnS] <;> omega) | assumption | fail) [slices_Index_int_int_B, wwS, -List.getD_eq_getElem?_getD, -List.drop_drop, h]
 ·rename_i hi
  refine callV_fn e.slices_Index_int_int fun nd hnd => ?_
  simp (maxSteps := 1000000) (disch := first | omega | (simp only [lnS] <;> omega) | assumption | fail) [slices_Index_int_int_B, wwS, -List.getD_eq_getElem?_getD, -List.drop_drop, h]
include e in
theorem slices_Contains (L : List Int) (hl : L.length ≤ 1000) (v : Int) : callV E "slices.Contains[[]int,int]" [.v (.sl L.length (ip L)), vi v] [] = some ([rB (decide (v ∈ L))], [na, na], []) := by
 have h := slices_Index e L hl v
 rw [← idxX_mem (l := L) (i := 0) (by omega)]
 generalize ip L = Y at *
 refine callV_fn e.slices_Contains_int_int fun nd hnd => ?_
 simp (maxSteps := 1000000) (disch := first | omega | (simp only [lnS] <;> omega) | assumption | fail) [slices_Contains_int_int_B, wwS, -List.getD_eq_getElem?_getD, -List.drop_drop, h]
end
end Go.Wb.P11

/- Chapter 2: a number but at most another one, and its digits, one by one. -/
import Derived.Test.YtlbekhmgpfbgnaaWbvP02i
set_option maxRecDepth 100000
set_option linter.all false
namespace Go.Wb.P02
open Go Go.Wb Go.Wb.Code
section
variable {E : EnvW} (e : WbvC02Env E)
include e in
theorem rCap_run {a b m : Nat} {t : Bool} (q : callV E "ref02.Less" [.v (wv a b), .v (wA 0 m)] [] = some ([rB t], [na, na], [])) : callV E "ref02.Cap" [.v (wv a b), vk .u64 m] [] = some ([rk .u64 (if t = true then b else m : Nat)], [na, na], []) := by
 have o : callV E "ref02.Of" [vk .u64 m] [] = some ([.v (wA 0 m)], [na], []) := ref02_Of e m
 cases t
 ·refine callV_fn e.ref02_Cap fun nd hnd => ?_
  simp (maxSteps := 1000000) (disch := first | omega | (simp only [lnS] <;> omega) | assumption | fail) [ref02_Cap_B, wwS, -List.getD_eq_getElem?_getD, -List.drop_drop, q, o]
 ·refine callV_fn e.ref02_Cap fun nd hnd => ?_
  simp (maxSteps := 1000000) (disch := first | omega | (simp only [lnS] <;> omega) | assumption | fail) [ref02_Cap_B, wwS, -List.getD_eq_getElem?_getD, -List.drop_drop, q, o]
include e in
theorem ref02_Cap (a b m : Nat) (ha : a < 18446744073709551616) (hb : b < 18446744073709551616) (hm : m < 18446744073709551616) : callV E "ref02.Cap" [.v (wv a b), vk .u64 m] [] = some ([rk .u64 (min (nv a b) m : Nat)], [na, na], []) := by
 have q := ref02_Less e a b 0 m ha hb (by decide) hm
 have n0 : nv 0 m = m := by simp [nv]
 rw [n0] at q
 have h := rCap_run e q
 have hv : (if decide (nv a b < m) = true then b else m) = min (nv a b) m := by
  by_cases hc : nv a b < m
  ·rw [decide_eq_true hc, if_pos rfl, Nat.min_eq_left (Nat.le_of_lt hc)]
   unfold nv at *; omega
  ·rw [decide_eq_false hc, if_neg (by simp), Nat.min_eq_right (Nat.le_of_not_lt hc)]
 rw [hv] at h
 exact h
end
end Go.Wb.P02

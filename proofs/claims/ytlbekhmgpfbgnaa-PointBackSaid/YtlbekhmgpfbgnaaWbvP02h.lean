/- Chapter 2: what must be whatever is asked. -/
import Derived.Test.YtlbekhmgpfbgnaaWbvP02g
set_option maxRecDepth 100000
set_option linter.all false
namespace Go.Wb.P02
open Go Go.Wb Go.Wb.Code
section
variable {E : EnvW} (e : WbvC02Env E)
abbrev wA (h l : Int) : PV := .agg [.sc (.int .u64 h), .sc (.int .u64 l)]
include e in
theorem live (ht : sb (txt 2 18446744073709551616).reverse = ⟨#[49, 56, 52, 52, 54, 55, 52, 52, 48, 55, 51, 55, 48, 57, 53, 53, 49, 54, 49, 54]⟩) : callV E "law02.live" [] [] = some ([rB true], [], []) := by
 have o1 : callV E "wide.Of" [vk .u64 1] [] = some ([.v (wA 0 1)], [na], []) := wide_Of e 1
 have o5 : callV E "wide.Of" [vk .u64 5] [] = some ([.v (wA 0 5)], [na], []) := wide_Of e 5
 have o3 : callV E "wide.Of" [vk .u64 3] [] = some ([.v (wA 0 3)], [na], []) := wide_Of e 3
 have o4 : callV E "wide.Of" [vk .u64 4] [] = some ([.v (wA 0 4)], [na], []) := wide_Of e 4
 have a1 : callV E "wide.Add" [.v (wA 18446744073709551615 18446744073709551615), .v (wA 0 1)] [] = some ([.v (wA 0 0), rB true], [na, na], []) := wide_Add e 18446744073709551615 18446744073709551615 0 1 (by decide) (by decide) (by decide) (by decide)
 have s1 : callV E "wide.Sub" [.v (wA 0 0), .v (wA 0 1)] [] = some ([.v (wA 18446744073709551615 18446744073709551615), rB true], [na, na], []) := wide_Sub e 0 0 0 1 (by decide) (by decide) (by decide) (by decide)
 have l1 : callV E "wide.Less" [.v (wA 0 3), .v (wA 0 4)] [] = some ([rB true], [na, na], []) := wide_Less e 0 3 0 4 (by decide) (by decide) (by decide) (by decide)
 have k1 : callV E "wide.Cap" [.v (wA 1 0), vk .u64 7] [] = some ([rk .u64 7], [na, na], []) := wide_Cap e 1 0 7 (by decide) (by decide)
 have k2 : callV E "wide.Cap" [.v (wA 0 5), vk .u64 7] [] = some ([rk .u64 5], [na, na], []) := wide_Cap e 0 5 7 (by decide) (by decide)
 have d1 : callV E "wide.Div" [.v (wA 1 0), vk .u64 10] [] = some ([.v (wA 0 1844674407370955161), rk .u64 6], [na, na], []) := by
  obtain ⟨h, l, h1, h2, h3, q⟩ := wide_Div e 10 1 0 (by decide) (by decide) (by decide) (by decide)
  obtain ⟨rfl, rfl⟩ := nv_inj h2 (show 1844674407370955161 < 18446744073709551616 by decide) (h3.trans (show nv 1 0 / 10 = nv 0 1844674407370955161 by decide))
  exact q
 have m1 : callV E "wide.Mul" [vk .u64 18446744073709551615, vk .u64 18446744073709551615] [] = some ([.v (wA 18446744073709551614 1)], [na, na], []) := by
  obtain ⟨h, l, h1, h2, h3, q⟩ := wide_Mul e 18446744073709551615 18446744073709551615 (by decide) (by decide)
  obtain ⟨rfl, rfl⟩ := nv_inj h2 (show 1 < 18446744073709551616 by decide) (h3.trans (show 18446744073709551615 * 18446744073709551615 = nv 18446744073709551614 1 by decide))
  exact q
 have t1 : callV E "wide.Text" [.v (wA 1 0)] [] = some ([rs ⟨#[49, 56, 52, 52, 54, 55, 52, 52, 48, 55, 51, 55, 48, 57, 53, 53, 49, 54, 49, 54]⟩], [na], []) := by
  have h := wide_Text e 1 0 (by decide) (by decide)
  rw [show nv 1 0 = 18446744073709551616 by decide, ht] at h
  exact h
 clear ht
 refine callV_fn e.law02_live fun nd hnd => ?_
 simp (maxSteps := 1000000) (disch := first | omega | (simp only [lnS] <;> omega) | assumption | fail) [law02_live_B, wwS, -List.getD_eq_getElem?_getD, -List.drop_drop, o1, o5, o3, o4, a1, s1, l1, k1, k2, d1, m1, t1]
end
end Go.Wb.P02

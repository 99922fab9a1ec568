/- Chapter 11: extension headers: what its functions come to. -/
import Derived.Test.YtlbekhmgpfbgnaaWbA6
import Derived.Test.YtlbekhmgpfbgnaaWbvP00
import Derived.Test.YtlbekhmgpfbgnaaWbvC11
set_option maxRecDepth 100000
set_option linter.all false
namespace Go.Wb.P11
open Go Go.Wb Go.Wb.Code Go.Wb.P01
def isX (k : Int) : Bool := decide (k = 0 ∨ k = 43 ∨ k = 44 ∨ k = 51 ∨ k = 60 ∨ k = 135 ∨ k = 139 ∨ k = 140)
def wantX (k : Int) (b : List Nat) : Nat := if k = 44 then 8 else if k = 51 then 4 * b.getD 1 0 + 8 else 8 * b.getD 1 0 + 8
def sizeX (k : Int) (b : List Nat) : Option Nat := if isX k = false ∨ b.length < 8 then none else if b.length < wantX k b then none else some (wantX k b)
def offX (b : List Nat) : Nat := b.getD 2 0 * 256 + b.getD 3 0
section
variable {E : EnvW} (e : WbvC11Env E)
include e in
theorem extwalk_Is (k : Int) : callV E "extwalk.Is" [vi k] [] = some ([rB (isX k)], [na], []) := by
 unfold isX
 by_cases h1 : k = 0
 ·subst h1
  refine callV_fn e.extwalk_Is fun nd hnd => ?_
  simp (maxSteps := 1000000) (disch := first | omega | (simp only [lnS] <;> omega) | assumption | fail) [extwalk_Is_B, wwS, -List.getD_eq_getElem?_getD, -List.drop_drop]
 by_cases h2 : k = 43
 ·subst h2
  refine callV_fn e.extwalk_Is fun nd hnd => ?_
  simp (maxSteps := 1000000) (disch := first | omega | (simp only [lnS] <;> omega) | assumption | fail) [extwalk_Is_B, wwS, -List.getD_eq_getElem?_getD, -List.drop_drop]
 by_cases h3 : k = 44
 ·subst h3
  refine callV_fn e.extwalk_Is fun nd hnd => ?_
  simp (maxSteps := 1000000) (disch := first | omega | (simp only [lnS] <;> omega) | assumption | fail) [extwalk_Is_B, wwS, -List.getD_eq_getElem?_getD, -List.drop_drop]
 by_cases h4 : k = 51
 ·subst h4
  refine callV_fn e.extwalk_Is fun nd hnd => ?_
  simp (maxSteps := 1000000) (disch := first | omega | (simp only [lnS] <;> omega) | assumption | fail) [extwalk_Is_B, wwS, -List.getD_eq_getElem?_getD, -List.drop_drop]
 by_cases h5 : k = 60
 ·subst h5
  refine callV_fn e.extwalk_Is fun nd hnd => ?_
  simp (maxSteps := 1000000) (disch := first | omega | (simp only [lnS] <;> omega) | assumption | fail) [extwalk_Is_B, wwS, -List.getD_eq_getElem?_getD, -List.drop_drop]
 by_cases h6 : k = 135
 ·subst h6
  refine callV_fn e.extwalk_Is fun nd hnd => ?_
  simp (maxSteps := 1000000) (disch := first | omega | (simp only [lnS] <;> omega) | assumption | fail) [extwalk_Is_B, wwS, -List.getD_eq_getElem?_getD, -List.drop_drop]
 by_cases h7 : k = 139
 ·subst h7
  refine callV_fn e.extwalk_Is fun nd hnd => ?_
  simp (maxSteps := 1000000) (disch := first | omega | (simp only [lnS] <;> omega) | assumption | fail) [extwalk_Is_B, wwS, -List.getD_eq_getElem?_getD, -List.drop_drop]
 by_cases h8 : k = 140
 ·subst h8
  refine callV_fn e.extwalk_Is fun nd hnd => ?_
  simp (maxSteps := 1000000) (disch := first | omega | (simp only [lnS] <;> omega) | assumption | fail) [extwalk_Is_B, wwS, -List.getD_eq_getElem?_getD, -List.drop_drop]
 refine callV_fn e.extwalk_Is fun nd hnd => ?_
 simp (maxSteps := 1000000) (disch := first | omega | (simp only [lnS] <;> omega) | assumption | fail) [extwalk_Is_B, wwS, -List.getD_eq_getElem?_getD, -List.drop_drop, h1, h2, h3, h4, h5, h6, h7, h8]
include e in
theorem ref11_Is (k : Int) : callV E "ref11.Is" [vi k] [] = some ([rB (isX k)], [na], []) := by
 unfold isX
 by_cases h1 : k = 0
 ·subst h1
  refine callV_fn e.ref11_Is fun nd hnd => ?_
  simp (maxSteps := 1000000) (disch := first | omega | (simp only [lnS] <;> omega) | assumption | fail) [ref11_Is_B, wwS, -List.getD_eq_getElem?_getD, -List.drop_drop]
 by_cases h2 : k = 43
 ·subst h2
  refine callV_fn e.ref11_Is fun nd hnd => ?_
  simp (maxSteps := 1000000) (disch := first | omega | (simp only [lnS] <;> omega) | assumption | fail) [ref11_Is_B, wwS, -List.getD_eq_getElem?_getD, -List.drop_drop]
 by_cases h3 : k = 44
 ·subst h3
  refine callV_fn e.ref11_Is fun nd hnd => ?_
  simp (maxSteps := 1000000) (disch := first | omega | (simp only [lnS] <;> omega) | assumption | fail) [ref11_Is_B, wwS, -List.getD_eq_getElem?_getD, -List.drop_drop]
 by_cases h4 : k = 51
 ·subst h4
  refine callV_fn e.ref11_Is fun nd hnd => ?_
  simp (maxSteps := 1000000) (disch := first | omega | (simp only [lnS] <;> omega) | assumption | fail) [ref11_Is_B, wwS, -List.getD_eq_getElem?_getD, -List.drop_drop]
 by_cases h5 : k = 60
 ·subst h5
  refine callV_fn e.ref11_Is fun nd hnd => ?_
  simp (maxSteps := 1000000) (disch := first | omega | (simp only [lnS] <;> omega) | assumption | fail) [ref11_Is_B, wwS, -List.getD_eq_getElem?_getD, -List.drop_drop]
 by_cases h6 : k = 135
 ·subst h6
  refine callV_fn e.ref11_Is fun nd hnd => ?_
  simp (maxSteps := 1000000) (disch := first | omega | (simp only [lnS] <;> omega) | assumption | fail) [ref11_Is_B, wwS, -List.getD_eq_getElem?_getD, -List.drop_drop]
 by_cases h7 : k = 139
 ·subst h7
  refine callV_fn e.ref11_Is fun nd hnd => ?_
  simp (maxSteps := 1000000) (disch := first | omega | (simp only [lnS] <;> omega) | assumption | fail) [ref11_Is_B, wwS, -List.getD_eq_getElem?_getD, -List.drop_drop]
 by_cases h8 : k = 140
 ·subst h8
  refine callV_fn e.ref11_Is fun nd hnd => ?_
  simp (maxSteps := 1000000) (disch := first | omega | (simp only [lnS] <;> omega) | assumption | fail) [ref11_Is_B, wwS, -List.getD_eq_getElem?_getD, -List.drop_drop]
 refine callV_fn e.ref11_Is fun nd hnd => ?_
 simp (maxSteps := 1000000) (disch := first | omega | (simp only [lnS] <;> omega) | assumption | fail) [ref11_Is_B, wwS, -List.getD_eq_getElem?_getD, -List.drop_drop, h1, h2, h3, h4, h5, h6, h7, h8]
include e in
theorem extwalk_Size (k : Int) (b : List Nat) (hb : b.length ≤ room) (h256 : ∀ x ∈ b, x < 256) : callV E "extwalk.Size" [vi k, vb b] [] = some ([ri ((sizeX k b).getD 0 : Nat), rB (sizeX k b).isSome], [na, na], []) := by
 have q := extwalk_Is e k
 unfold room at hb
 by_cases h1 : isX k = true
 ·rw [h1] at q
  by_cases h2 : b.length < 8
  ·have hs : sizeX k b = none := by unfold sizeX; rw [if_pos (.inr h2)]
   rw [hs]
   have c1 : (b.length : Int) < 8 := by omega
   refine callV_fn e.extwalk_Size fun nd hnd => ?_
   simp (maxSteps := 1000000) (disch := first | omega | (simp only [lnS] <;> omega) | assumption | fail) [extwalk_Size_B, wwS, -List.getD_eq_getElem?_getD, -List.drop_drop, q, h2, c1]
  ·have c1 : ¬ (b.length : Int) < 8 := by omega
   have hx := h256 _ (getD_mem (show 1 < b.length by omega))
   have hs : sizeX k b = if b.length < wantX k b then none else some (wantX k b) := by unfold sizeX; rw [if_neg (by rw [h1]; simp; omega)]
   rw [hs]
   unfold wantX
   generalize hxe : b.getD 1 0 = x at *
   by_cases h3 : k = 44
   ·subst h3
    have c2 : ¬ (b.length : Int) < 8 := by omega
    rw [if_pos rfl, if_neg h2]
    refine callV_fn e.extwalk_Size fun nd hnd => ?_
    simp (maxSteps := 1000000) (disch := first | omega | (simp only [lnS] <;> omega) | assumption | fail) [extwalk_Size_B, wwS, -List.getD_eq_getElem?_getD, -List.drop_drop, q, h2, c1, hxe]
   ·by_cases h4 : k = 51
    ·subst h4
     have hw : (if (51 : Int) = 44 then 8 else if (51 : Int) = 51 then 4 * x + 8 else 8 * x + 8) = 4 * x + 8 := by simp
     rw [hw]
     by_cases h5 : b.length < 4 * x + 8
     ·rw [if_pos h5]
      have c2 : (b.length : Int) < 4 * (x : Int) + 8 := by omega
      have c3 : (b.length : Int) < (x : Int) * 4 + 8 := by omega
      have c4 : (b.length : Int) < 4 * ((x : Int) + 2) := by omega
      refine callV_fn e.extwalk_Size fun nd hnd => ?_
      simp (maxSteps := 1000000) (disch := first | omega | (simp only [lnS] <;> omega) | assumption | fail) [extwalk_Size_B, wwS, -List.getD_eq_getElem?_getD, -List.drop_drop, q, h2, c1, hxe, c2, c3, c4]
     ·rw [if_neg h5]
      have c2 : ¬ (b.length : Int) < 4 * (x : Int) + 8 := by omega
      have c3 : ¬ (b.length : Int) < (x : Int) * 4 + 8 := by omega
      have c4 : ¬ (b.length : Int) < 4 * ((x : Int) + 2) := by omega
      refine callV_fn e.extwalk_Size fun nd hnd => ?_
      simp (maxSteps := 1000000) (disch := first | omega | (simp only [lnS] <;> omega) | assumption | fail) [extwalk_Size_B, wwS, -List.getD_eq_getElem?_getD, -List.drop_drop, q, h2, c1, hxe, c2, c3, c4]
      try omega
    ·rw [if_neg h3, if_neg h4]
     by_cases h5 : b.length < 8 * x + 8
     ·rw [if_pos h5]
      have c2 : (b.length : Int) < 8 + (x : Int) * 8 := by omega
      have c4 : (b.length : Int) < 8 * ((x : Int) + 1) := by omega
      refine callV_fn e.extwalk_Size fun nd hnd => ?_
      simp (maxSteps := 1000000) (disch := first | omega | (simp only [lnS] <;> omega) | assumption | fail) [extwalk_Size_B, wwS, -List.getD_eq_getElem?_getD, -List.drop_drop, q, h2, c1, hxe, c2, c4, h3, h4]
     ·rw [if_neg h5]
      have c2 : ¬ (b.length : Int) < 8 + (x : Int) * 8 := by omega
      have c4 : ¬ (b.length : Int) < 8 * ((x : Int) + 1) := by omega
      refine callV_fn e.extwalk_Size fun nd hnd => ?_
      simp (maxSteps := 1000000) (disch := first | omega | (simp only [lnS] <;> omega) | assumption | fail) [extwalk_Size_B, wwS, -List.getD_eq_getElem?_getD, -List.drop_drop, q, h2, c1, hxe, c2, c4, h3, h4]
      try omega
 ·have h1 : isX k = false := by simpa using h1
  have hs : sizeX k b = none := by unfold sizeX; rw [if_pos (.inl h1)]
  rw [h1] at q
  rw [hs]
  refine callV_fn e.extwalk_Size fun nd hnd => ?_
  simp (maxSteps := 1000000) (disch := first | omega | (simp only [lnS] <;> omega) | assumption | fail) [extwalk_Size_B, wwS, -List.getD_eq_getElem?_getD, -List.drop_drop, q]
include e in
theorem ref11_Size (k : Int) (b : List Nat) (hb : b.length ≤ room) (h256 : ∀ x ∈ b, x < 256) : callV E "ref11.Size" [vi k, vb b] [] = some ([ri ((sizeX k b).getD 0 : Nat), rB (sizeX k b).isSome], [na, na], []) := by
 have q := ref11_Is e k
 unfold room at hb
 by_cases h1 : isX k = true
 ·rw [h1] at q
  by_cases h2 : b.length < 8
  ·have hs : sizeX k b = none := by unfold sizeX; rw [if_pos (.inr h2)]
   rw [hs]
   have c1 : (b.length : Int) < 8 := by omega
   refine callV_fn e.ref11_Size fun nd hnd => ?_
   simp (maxSteps := 1000000) (disch := first | omega | (simp only [lnS] <;> omega) | assumption | fail) [ref11_Size_B, wwS, -List.getD_eq_getElem?_getD, -List.drop_drop, q, h2, c1]
  ·have c1 : ¬ (b.length : Int) < 8 := by omega
   have hx := h256 _ (getD_mem (show 1 < b.length by omega))
   have hs : sizeX k b = if b.length < wantX k b then none else some (wantX k b) := by unfold sizeX; rw [if_neg (by rw [h1]; simp; omega)]
   rw [hs]
   unfold wantX
   generalize hxe : b.getD 1 0 = x at *
   by_cases h3 : k = 44
   ·subst h3
    have c2 : ¬ (b.length : Int) < 8 := by omega
    rw [if_pos rfl, if_neg h2]
    refine callV_fn e.ref11_Size fun nd hnd => ?_
    simp (maxSteps := 1000000) (disch := first | omega | (simp only [lnS] <;> omega) | assumption | fail) [ref11_Size_B, wwS, -List.getD_eq_getElem?_getD, -List.drop_drop, q, h2, c1, hxe]
   ·by_cases h4 : k = 51
    ·subst h4
     have hw : (if (51 : Int) = 44 then 8 else if (51 : Int) = 51 then 4 * x + 8 else 8 * x + 8) = 4 * x + 8 := by simp
     rw [hw]
     by_cases h5 : b.length < 4 * x + 8
     ·rw [if_pos h5]
      have c2 : (b.length : Int) < 4 * (x : Int) + 8 := by omega
      have c3 : (b.length : Int) < (x : Int) * 4 + 8 := by omega
      have c4 : (b.length : Int) < 4 * ((x : Int) + 2) := by omega
      refine callV_fn e.ref11_Size fun nd hnd => ?_
      simp (maxSteps := 1000000) (disch := first | omega | (simp only [lnS] <;> omega) | assumption | fail) [ref11_Size_B, wwS, -List.getD_eq_getElem?_getD, -List.drop_drop, q, h2, c1, hxe, c2, c3, c4]
     ·rw [if_neg h5]
      have c2 : ¬ (b.length : Int) < 4 * (x : Int) + 8 := by omega
      have c3 : ¬ (b.length : Int) < (x : Int) * 4 + 8 := by omega
      have c4 : ¬ (b.length : Int) < 4 * ((x : Int) + 2) := by omega
      refine callV_fn e.ref11_Size fun nd hnd => ?_
      simp (maxSteps := 1000000) (disch := first | omega | (simp only [lnS] <;> omega) | assumption | fail) [ref11_Size_B, wwS, -List.getD_eq_getElem?_getD, -List.drop_drop, q, h2, c1, hxe, c2, c3, c4]
      try omega
    ·rw [if_neg h3, if_neg h4]
     by_cases h5 : b.length < 8 * x + 8
     ·rw [if_pos h5]
      have c2 : (b.length : Int) < 8 + (x : Int) * 8 := by omega
      have c4 : (b.length : Int) < 8 * ((x : Int) + 1) := by omega
      refine callV_fn e.ref11_Size fun nd hnd => ?_
      simp (maxSteps := 1000000) (disch := first | omega | (simp only [lnS] <;> omega) | assumption | fail) [ref11_Size_B, wwS, -List.getD_eq_getElem?_getD, -List.drop_drop, q, h2, c1, hxe, c2, c4, h3, h4]
     ·rw [if_neg h5]
      have c2 : ¬ (b.length : Int) < 8 + (x : Int) * 8 := by omega
      have c4 : ¬ (b.length : Int) < 8 * ((x : Int) + 1) := by omega
      refine callV_fn e.ref11_Size fun nd hnd => ?_
      simp (maxSteps := 1000000) (disch := first | omega | (simp only [lnS] <;> omega) | assumption | fail) [ref11_Size_B, wwS, -List.getD_eq_getElem?_getD, -List.drop_drop, q, h2, c1, hxe, c2, c4, h3, h4]
      try omega
 ·have h1 : isX k = false := by simpa using h1
  have hs : sizeX k b = none := by unfold sizeX; rw [if_pos (.inl h1)]
  rw [h1] at q
  rw [hs]
  refine callV_fn e.ref11_Size fun nd hnd => ?_
  simp (maxSteps := 1000000) (disch := first | omega | (simp only [lnS] <;> omega) | assumption | fail) [ref11_Size_B, wwS, -List.getD_eq_getElem?_getD, -List.drop_drop, q]
include e in
theorem part_offset (k a : Int) (n : Nat) (b : List Nat) (hb : b.length ≤ room) (h256 : ∀ x ∈ b, x < 256) (h4 : 4 ≤ b.length) : callV E "(extwalk.part).offset" [.v (.agg [.sc (.int .i64 k), .sc (.int .i64 a), .sl b.length (bp b)])] [] = some ([ri (offX b : Nat)], [na], []) := by
 unfold room at hb
 have h2 := h256 _ (getD_mem (show 2 < b.length by omega))
 have h3 := h256 _ (getD_mem (show 3 < b.length by omega))
 unfold offX
 generalize hx : b.getD 2 0 = x at *
 generalize hy : b.getD 3 0 = y at *
 have hor : bits .or .i64 ((x : Int) * 256) (y : Int) = (x : Int) * 256 + y := or_i64 8 (by omega) (by omega) (by omega) (by omega) (by omega) (by omega)
 refine callV_fn e.extwalk_part_offset fun nd hnd => ?_
 simp (maxSteps := 1000000) (disch := first | omega | (simp only [lnS] <;> omega) | assumption | fail) [extwalk_part_offset_B, wwS, -List.getD_eq_getElem?_getD, -List.drop_drop, hx, hy, hor]
end
end Go.Wb.P11

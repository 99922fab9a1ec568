/- Chapter 9: points: what its functions come to. -/
import Derived.Test.YtlbekhmgpfbgnaaWbvP02k
import Derived.Test.YtlbekhmgpfbgnaaWbvC09
set_option maxRecDepth 100000
set_option linter.all false
namespace Go.Wb.P09
open Go Go.Wb Go.Wb.Code Go.Wb.P02
def prec (d : Nat) : Nat := if d % 2 = 0 ∧ 8 ≤ d ∧ d < 40 then d % 8 / 2 else 0
def nameB (d : Nat) : List Nat :=
 if d % 8 = 0 then [99, 115, 48 + d / 8] else if 0 < prec d then [97, 102, 48 + d / 8, 48 + prec d] else
 if d = 46 then [101, 102] else if d = 44 then [118, 97] else if d = 1 then [108, 101] else (txt 2 d).reverse
def sortB (d : Nat) : List Nat :=
 if d % 8 = 0 then [99, 108, 97, 115, 115] else if 0 < prec d then [97, 115, 115, 117, 114, 101, 100] else
 if d = 46 then [101, 120, 112, 101, 100, 105, 116, 101, 100] else if d = 44 then [118, 111, 105, 99, 101] else if d = 1 then [108, 111, 119, 101, 114] else [111, 116, 104, 101, 114]
section
variable {E : EnvW} (e : WbvC09Env E) (e2 : WbvC02Env E)
include e in
theorem point_is (d : Int) : callV E "point.is" [vi d] [] = some ([rB (decide (0 ≤ d ∧ d < 64))], [na], []) := by
 refine callV_fn e.point_is fun nd hnd => ?_
 simp (maxSteps := 1000000) (disch := first | omega | (simp only [lnS] <;> omega) | assumption | fail) [point_is_B, wwS, -List.getD_eq_getElem?_getD, -List.drop_drop]
 iterate 3 (all_goals (try (refine iteV_split (fun h => ?_) (fun h => ?_) <;> (try rw [later_eq]) <;> (try rw [laterD_eq]) <;> (try simp only [decide_eq_true_eq, decide_eq_false_iff_not, Bool.not_eq_true', Bool.not_eq_false'] at h) <;> first | (exfalso; omega) | simp (maxSteps := 1000000) (disch := first | omega | (simp only [lnS] <;> omega) | assumption | fail) [h, wwS, -List.getD_eq_getElem?_getD, -List.drop_drop])))
 all_goals (first | rfl | omega | (intros; omega) | (rw [Bool.eq_iff_iff]; simp [-List.getD_eq_getElem?_getD]; omega) | (rw [Bool.eq_iff_iff]; simp; done) | (split <;> first | (simp; done) | (exfalso; omega) | (simp_all; done) | (simp_all; omega)))
include e in
theorem ref09_Is (d : Int) : callV E "ref09.Is" [vi d] [] = some ([rB (decide (0 ≤ d ∧ d < 64))], [na], []) := by
 refine callV_fn e.ref09_Is fun nd hnd => ?_
 simp (maxSteps := 1000000) (disch := first | omega | (simp only [lnS] <;> omega) | assumption | fail) [ref09_Is_B, wwS, -List.getD_eq_getElem?_getD, -List.drop_drop]
 iterate 3 (all_goals (try (refine iteV_split (fun h => ?_) (fun h => ?_) <;> (try rw [later_eq]) <;> (try rw [laterD_eq]) <;> (try simp only [decide_eq_true_eq, decide_eq_false_iff_not, Bool.not_eq_true', Bool.not_eq_false'] at h) <;> first | (exfalso; omega) | simp (maxSteps := 1000000) (disch := first | omega | (simp only [lnS] <;> omega) | assumption | fail) [h, wwS, -List.getD_eq_getElem?_getD, -List.drop_drop])))
 all_goals (first | rfl | omega | (intros; omega) | (rw [Bool.eq_iff_iff]; simp [-List.getD_eq_getElem?_getD]; omega) | (rw [Bool.eq_iff_iff]; simp; done) | (split <;> first | (simp; done) | (exfalso; omega) | (simp_all; done) | (simp_all; omega)))
include e in
theorem point_Split (b : Nat) (hb : b < 256) : callV E "point.Split" [vk .u8 b] [] = some ([ri (b / 4 : Nat), ri (b % 4 : Nat)], [na], []) := by
 refine callV_fn e.point_Split fun nd hnd => ?_
 simp (maxSteps := 1000000) (disch := first | omega | (simp only [lnS] <;> omega) | assumption | fail) [point_Split_B, wwS, -List.getD_eq_getElem?_getD, -List.drop_drop]
include e in
theorem ref09_Split (b : Nat) (hb : b < 256) : callV E "ref09.Split" [vk .u8 b] [] = some ([ri (b / 4 : Nat), ri (b % 4 : Nat)], [na], []) := by
 refine callV_fn e.ref09_Split fun nd hnd => ?_
 simp (maxSteps := 1000000) (disch := first | omega | (simp only [lnS] <;> omega) | assumption | fail) [ref09_Split_B, wwS, -List.getD_eq_getElem?_getD, -List.drop_drop]
include e in
theorem point_Prec (d : Nat) (hd : d < 64) : callV E "point.Prec" [vi d] [] = some ([ri (prec d : Nat)], [na], []) := by
 unfold prec
 refine callV_fn e.point_Prec fun nd hnd => ?_
 simp (maxSteps := 1000000) (disch := first | omega | (simp only [lnS] <;> omega) | assumption | fail) [point_Prec_B, wwS, -List.getD_eq_getElem?_getD, -List.drop_drop]
 iterate 5 (all_goals (try (refine iteV_split (fun h => ?_) (fun h => ?_) <;> (try rw [later_eq]) <;> (try rw [laterD_eq]) <;> (try simp only [decide_eq_true_eq, decide_eq_false_iff_not, Bool.not_eq_true', Bool.not_eq_false'] at h) <;> first | (exfalso; omega) | simp (maxSteps := 1000000) (disch := first | omega | (simp only [lnS] <;> omega) | assumption | fail) [h, wwS, -List.getD_eq_getElem?_getD, -List.drop_drop])))
 all_goals ((repeat' split) <;> first | rfl | omega)
include e in
theorem point_Prec0 (d : Int) (hd : ¬ (0 ≤ d ∧ d < 64)) : callV E "point.Prec" [vi d] [] = some ([ri 0], [na], []) := by
 refine callV_fn e.point_Prec fun nd hnd => ?_
 simp (maxSteps := 1000000) (disch := first | omega | (simp only [lnS] <;> omega) | assumption | fail) [point_Prec_B, wwS, -List.getD_eq_getElem?_getD, -List.drop_drop]
 iterate 5 (all_goals (try (refine iteV_split (fun h => ?_) (fun h => ?_) <;> (try rw [later_eq]) <;> (try rw [laterD_eq]) <;> (try simp only [decide_eq_true_eq, decide_eq_false_iff_not, Bool.not_eq_true', Bool.not_eq_false'] at h) <;> first | (exfalso; omega) | simp (maxSteps := 1000000) (disch := first | omega | (simp only [lnS] <;> omega) | assumption | fail) [h, wwS, -List.getD_eq_getElem?_getD, -List.drop_drop])))
 all_goals ((repeat' split) <;> first | rfl | omega)
def joinS (d x : Int) : Int × Int := if 0 ≤ d ∧ d < 64 then (if 0 ≤ x ∧ x < 4 then (d * 4 + x, 0) else (0, 1)) else (0, 14)
include e in
theorem point_Join (d x : Int) (hd : I64 d) (hx : I64 x) : callV E "point.Join" [vi d, vi x] [] = some ([rk .u8 (joinS d x).1, ri (joinS d x).2], [na, na], []) := by
 unfold I64 at hd hx
 have q := point_is e d
 unfold joinS
 by_cases h1 : 0 ≤ d ∧ d < 64
 ·rw [if_pos h1]
  rw [decide_eq_true h1] at q
  by_cases h2 : 0 ≤ x ∧ x < 4
  ·rw [if_pos h2]
   have c1 : ¬ x < 0 := by omega
   have c2 : ¬ 3 < x := by omega
   have hor : bits .or .i64 (d * 4) x = d * 4 + x := or_i64 2 (by omega) (by omega) (by omega) (by omega) (by omega) (by omega)
   refine callV_fn e.point_Join fun nd hnd => ?_
   simp (maxSteps := 1000000) (disch := first | omega | (simp only [lnS] <;> omega) | assumption | fail) [point_Join_B, wwS, -List.getD_eq_getElem?_getD, -List.drop_drop, q, c1, c2, hor]
  ·rw [if_neg h2]
   refine callV_fn e.point_Join fun nd hnd => ?_
   simp (maxSteps := 1000000) (disch := first | omega | (simp only [lnS] <;> omega) | assumption | fail) [point_Join_B, wwS, -List.getD_eq_getElem?_getD, -List.drop_drop, q]
   iterate 3 (all_goals (try (refine iteV_split (fun h => ?_) (fun h => ?_) <;> (try rw [later_eq]) <;> (try rw [laterD_eq]) <;> (try simp only [decide_eq_true_eq, decide_eq_false_iff_not, Bool.not_eq_true', Bool.not_eq_false'] at h) <;> first | (exfalso; omega) | simp (maxSteps := 1000000) (disch := first | omega | (simp only [lnS] <;> omega) | assumption | fail) [h, wwS, -List.getD_eq_getElem?_getD, -List.drop_drop])))
 ·rw [if_neg h1]
  rw [decide_eq_false h1] at q
  refine callV_fn e.point_Join fun nd hnd => ?_
  simp (maxSteps := 1000000) (disch := first | omega | (simp only [lnS] <;> omega) | assumption | fail) [point_Join_B, wwS, -List.getD_eq_getElem?_getD, -List.drop_drop, q]
include e in
theorem ref09_Join (d x : Int) (hd : I64 d) (hx : I64 x) : callV E "ref09.Join" [vi d, vi x] [] = some ([rk .u8 (joinS d x).1, ri (joinS d x).2], [na, na], []) := by
 unfold I64 at hd hx
 have q := ref09_Is e d
 unfold joinS
 by_cases h1 : 0 ≤ d ∧ d < 64
 ·rw [if_pos h1]
  rw [decide_eq_true h1] at q
  by_cases h2 : 0 ≤ x ∧ x < 4
  ·rw [if_pos h2]
   have c1 : ¬ x < 0 := by omega
   have c2 : ¬ 3 < x := by omega
   have hor : bits .or .i64 (d * 4) x = d * 4 + x := or_i64 2 (by omega) (by omega) (by omega) (by omega) (by omega) (by omega)
   refine callV_fn e.ref09_Join fun nd hnd => ?_
   simp (maxSteps := 1000000) (disch := first | omega | (simp only [lnS] <;> omega) | assumption | fail) [ref09_Join_B, wwS, -List.getD_eq_getElem?_getD, -List.drop_drop, q, c1, c2, hor]
  ·rw [if_neg h2]
   refine callV_fn e.ref09_Join fun nd hnd => ?_
   simp (maxSteps := 1000000) (disch := first | omega | (simp only [lnS] <;> omega) | assumption | fail) [ref09_Join_B, wwS, -List.getD_eq_getElem?_getD, -List.drop_drop, q]
   iterate 3 (all_goals (try (refine iteV_split (fun h => ?_) (fun h => ?_) <;> (try rw [later_eq]) <;> (try rw [laterD_eq]) <;> (try simp only [decide_eq_true_eq, decide_eq_false_iff_not, Bool.not_eq_true', Bool.not_eq_false'] at h) <;> first | (exfalso; omega) | simp (maxSteps := 1000000) (disch := first | omega | (simp only [lnS] <;> omega) | assumption | fail) [h, wwS, -List.getD_eq_getElem?_getD, -List.drop_drop])))
 ·rw [if_neg h1]
  rw [decide_eq_false h1] at q
  refine callV_fn e.ref09_Join fun nd hnd => ?_
  simp (maxSteps := 1000000) (disch := first | omega | (simp only [lnS] <;> omega) | assumption | fail) [ref09_Join_B, wwS, -List.getD_eq_getElem?_getD, -List.drop_drop, q]
def afS (c p : Int) : Int × Int := if 1 ≤ c ∧ c ≤ 4 ∧ 1 ≤ p ∧ p ≤ 3 then (8 * c + 2 * p, 0) else (0, 1)
include e in
theorem point_Af (c p : Int) (hc : I64 c) (hp : I64 p) : callV E "point.Af" [vi c, vi p] [] = some ([ri (afS c p).1, ri (afS c p).2], [na, na], []) := by
 unfold I64 at hc hp
 unfold afS
 by_cases h1 : 1 ≤ c ∧ c ≤ 4 ∧ 1 ≤ p ∧ p ≤ 3
 ·rw [if_pos h1]
  have c1 : ¬ c < 1 := by omega
  have c2 : ¬ 4 < c := by omega
  have c3 : ¬ p < 1 := by omega
  have c4 : ¬ 3 < p := by omega
  have hor : bits .or .i64 (c * 8) (p * 2) = 8 * c + 2 * p := by rw [or_i64 3 (by omega) (by omega) (by omega) (by omega) (by omega) (by omega)]; omega
  refine callV_fn e.point_Af fun nd hnd => ?_
  simp (maxSteps := 1000000) (disch := first | omega | (simp only [lnS] <;> omega) | assumption | fail) [point_Af_B, wwS, -List.getD_eq_getElem?_getD, -List.drop_drop, c1, c2, c3, c4, hor]
 ·rw [if_neg h1]
  refine callV_fn e.point_Af fun nd hnd => ?_
  simp (maxSteps := 1000000) (disch := first | omega | (simp only [lnS] <;> omega) | assumption | fail) [point_Af_B, wwS, -List.getD_eq_getElem?_getD, -List.drop_drop]
  iterate 8 (all_goals (try (refine iteV_split (fun h => ?_) (fun h => ?_) <;> (try rw [later_eq]) <;> (try rw [laterD_eq]) <;> (try simp only [decide_eq_true_eq, decide_eq_false_iff_not, Bool.not_eq_true', Bool.not_eq_false'] at h) <;> first | (exfalso; omega) | simp (maxSteps := 1000000) (disch := first | omega | (simp only [lnS] <;> omega) | assumption | fail) [h, wwS, -List.getD_eq_getElem?_getD, -List.drop_drop])))
include e in
theorem ref09_Af (c p : Int) (hc : I64 c) (hp : I64 p) : callV E "ref09.Af" [vi c, vi p] [] = some ([ri (afS c p).1, ri (afS c p).2], [na, na], []) := by
 unfold I64 at hc hp
 unfold afS
 by_cases h1 : 1 ≤ c ∧ c ≤ 4 ∧ 1 ≤ p ∧ p ≤ 3
 ·rw [if_pos h1]
  have c1 : ¬ c < 1 := by omega
  have c2 : ¬ 4 < c := by omega
  have c3 : ¬ p < 1 := by omega
  have c4 : ¬ 3 < p := by omega
  refine callV_fn e.ref09_Af fun nd hnd => ?_
  simp (maxSteps := 1000000) (disch := first | omega | (simp only [lnS] <;> omega) | assumption | fail) [ref09_Af_B, wwS, -List.getD_eq_getElem?_getD, -List.drop_drop, c1, c2, c3, c4]
 ·rw [if_neg h1]
  refine callV_fn e.ref09_Af fun nd hnd => ?_
  simp (maxSteps := 1000000) (disch := first | omega | (simp only [lnS] <;> omega) | assumption | fail) [ref09_Af_B, wwS, -List.getD_eq_getElem?_getD, -List.drop_drop]
  iterate 8 (all_goals (try (refine iteV_split (fun h => ?_) (fun h => ?_) <;> (try rw [later_eq]) <;> (try rw [laterD_eq]) <;> (try simp only [decide_eq_true_eq, decide_eq_false_iff_not, Bool.not_eq_true', Bool.not_eq_false'] at h) <;> first | (exfalso; omega) | simp (maxSteps := 1000000) (disch := first | omega | (simp only [lnS] <;> omega) | assumption | fail) [h, wwS, -List.getD_eq_getElem?_getD, -List.drop_drop])))
end
end Go.Wb.P09

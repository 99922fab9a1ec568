/- Chapter 13: sums of payloads: what its functions come to. -/
import Derived.Test.YtlbekhmgpfbgnaaWbvP13
import Derived.Test.YtlbekhmgpfbgnaaWbvP03b
import Derived.Test.YtlbekhmgpfbgnaaWbvC13b
set_option maxRecDepth 100000
set_option linter.all false
namespace Go.Wb.P13
open Go Go.Wb Go.Wb.Code Go.Wb.P01 Go.Wb.P03
structure KeyOk (KP : List PV) (V P : Int) (s d : List Nat) : Prop where
 len : KP.length = 38
 v : KP[0]? = some (.sc (.int .i64 V))
 p : KP[33]? = some (.sc (.int .i64 P))
 ks : (KP.drop 1).take 16 = bp s
 kd : (KP.drop 17).take 16 = bp d
 hv : I64 V
 hp : I64 P
 s16 : s.length = 16
 d16 : d.length = 16
 s256 : ∀ x ∈ s, x < 256
 d256 : ∀ x ∈ d, x < 256
structure BoxOk (K : List CV) (KP : List PV) (V P : Int) (s d : List Nat) : Prop where
 len : K.length = 38
 v : cellC K 0 = some (.v (.sc (.int .i64 V)))
 p : cellC K 33 = some (.v (.sc (.int .i64 P)))
 all : K.all isV = true
 unv : unv K = some KP
 tk : List.take 38 K = K
 s4 : Wb.unv (List.take 4 K.tail) = some (bp (s.take 4))
 s16 : Wb.unv (List.take 16 K.tail) = some (bp s)
 d4 : Wb.unv (List.take 4 (List.drop 17 K)) = some (bp (d.take 4))
 d16 : Wb.unv (List.take 16 (List.drop 17 K)) = some (bp d)
theorem unv_of (l : List PV) : unv (l.map .v) = some l := by
 induction l with
 | nil => rfl
 | cons a l ih => rw [List.map_cons, unv, ih]; rfl
theorem KeyOk.box {KP : List PV} {V P : Int} {s d : List Nat} (k : KeyOk KP V P s d) {K : List CV} (hK : List.map CV.v KP = K) : BoxOk K KP V P s d := by
 subst hK
 have t4 : ∀ (n : Nat) (l : List Nat), (KP.drop n).take 16 = bp l → unv (List.take 4 (List.drop n (List.map CV.v KP))) = some (bp (l.take 4)) ∧ unv (List.take 16 (List.drop n (List.map CV.v KP))) = some (bp l) := by
  intro n l h
  rw [← List.map_drop, ← List.map_take, ← List.map_take, unv_of, unv_of, h]
  refine ⟨?_, rfl⟩
  have : (KP.drop n).take 4 = ((KP.drop n).take 16).take 4 := by rw [List.take_take]; rfl
  rw [this, h]
  simp [mp, List.map_take]
 refine ⟨by simp [k.len], ?_, ?_, by simp [List.all_map, Function.comp_def, isV], unv_of _, by rw [List.take_of_length_le (by simp [k.len])], (by rw [← List.drop_one]; exact (t4 1 s k.ks).1), (by rw [← List.drop_one]; exact (t4 1 s k.ks).2), (t4 17 d k.kd).1, (t4 17 d k.kd).2⟩
 ·simp [cellC, k.v]
 ·simp [cellC, k.p]
def wrongS (V P : Int) (n : Nat) : Int :=
 if V ≠ 4 ∧ V ≠ 6 then 4 else if P ≠ 6 ∧ P ≠ 17 then 10 else if (n : Int) < leastS P then 2 else if 65535 < n then 18 else 0
section
variable {E : EnvW} (e : WbvC13bEnv E) (e0 : WbvC13Env E) (e1 : WbvC01Env E) (e3 : WbvC03Env E) (ef : WbvC03fEnv E)
include e e0 in
theorem ports_check {KP : List PV} {V P : Int} {s d : List Nat} (k : KeyOk KP V P s d) (b : List Nat) (hb : b.length ≤ room) : callV E "ports.check" [.v (.agg KP), vb b] [] = some ([ri (wrongS V P b.length)], [na, na], []) := by
 obtain ⟨K, hK⟩ : ∃ K, List.map CV.v KP = K := ⟨_, rfl⟩
 have B := k.box hK
 have q := ports_Least e0 P k.hp
 have b1 := B.len
 have b2 := B.v
 have b3 := B.p
 unfold room at hb
 have hl : 0 ≤ leastS P := by unfold leastS; repeat' split <;> omega
 unfold wrongS
 generalize leastS P = L at *
 clear B k
 by_cases hV : V ≠ 4 ∧ V ≠ 6
 ·rw [if_pos hV]
  have c1 := hV.1
  have c2 := hV.2
  refine callV_fn e.ports_check fun nd hnd => ?_
  simp (maxSteps := 1000000) (disch := first | omega | (simp only [lnS] <;> omega) | assumption | fail) [ports_check_B, wwS, -List.getD_eq_getElem?_getD, -List.drop_drop, hK, b1, b2, b3, q, c1, c2]
 ·rw [if_neg hV]
  have hV : V = 4 ∨ V = 6 := by omega
  rcases hV with rfl | rfl
  all_goals
   by_cases hP : P ≠ 6 ∧ P ≠ 17
   ·rw [if_pos hP]
    have c1 := hP.1
    have c2 := hP.2
    refine callV_fn e.ports_check fun nd hnd => ?_
    simp (maxSteps := 1000000) (disch := first | omega | (simp only [lnS] <;> omega) | assumption | fail) [ports_check_B, wwS, -List.getD_eq_getElem?_getD, -List.drop_drop, hK, b1, b2, b3, q, c1, c2]
   ·rw [if_neg hP]
    have hP : P = 6 ∨ P = 17 := by omega
    rcases hP with rfl | rfl
    all_goals
     by_cases hL : (b.length : Int) < L
     ·rw [if_pos hL]
      refine callV_fn e.ports_check fun nd hnd => ?_
      simp (maxSteps := 1000000) (disch := first | omega | (simp only [lnS] <;> omega) | assumption | fail) [ports_check_B, wwS, -List.getD_eq_getElem?_getD, -List.drop_drop, hK, b1, b2, b3, q, hL]
     ·rw [if_neg hL]
      by_cases hM : 65535 < b.length
      ·rw [if_pos hM]
       have c1 : 65535 < (b.length : Int) := by omega
       refine callV_fn e.ports_check fun nd hnd => ?_
       simp (maxSteps := 1000000) (disch := first | omega | (simp only [lnS] <;> omega) | assumption | fail) [ports_check_B, wwS, -List.getD_eq_getElem?_getD, -List.drop_drop, hK, b1, b2, b3, q, hL, hM, c1]
      ·rw [if_neg hM]
       have c1 : ¬ 65535 < (b.length : Int) := by omega
       refine callV_fn e.ports_check fun nd hnd => ?_
       simp (maxSteps := 1000000) (disch := first | omega | (simp only [lnS] <;> omega) | assumption | fail) [ports_check_B, wwS, -List.getD_eq_getElem?_getD, -List.drop_drop, hK, b1, b2, b3, q, hL, hM, c1]
include e e0 in
theorem ref13_wrong {KP : List PV} {V P : Int} {s d : List Nat} (k : KeyOk KP V P s d) (b : List Nat) (hb : b.length ≤ room) : callV E "ref13.wrong" [.v (.agg KP), vb b] [] = some ([ri (wrongS V P b.length)], [na, na], []) := by
 obtain ⟨K, hK⟩ : ∃ K, List.map CV.v KP = K := ⟨_, rfl⟩
 have B := k.box hK
 have q := ref13_Least e0 P k.hp
 have b1 := B.len
 have b2 := B.v
 have b3 := B.p
 unfold room at hb
 have hl : 0 ≤ leastS P := by unfold leastS; repeat' split <;> omega
 unfold wrongS
 generalize leastS P = L at *
 clear B k
 by_cases hV : V ≠ 4 ∧ V ≠ 6
 ·rw [if_pos hV]
  have c1 := hV.1
  have c2 := hV.2
  refine callV_fn e.ref13_wrong fun nd hnd => ?_
  simp (maxSteps := 1000000) (disch := first | omega | (simp only [lnS] <;> omega) | assumption | fail) [ref13_wrong_B, wwS, -List.getD_eq_getElem?_getD, -List.drop_drop, hK, b1, b2, b3, q, c1, c2]
 ·rw [if_neg hV]
  have hV : V = 4 ∨ V = 6 := by omega
  rcases hV with rfl | rfl
  all_goals
   by_cases hP : P ≠ 6 ∧ P ≠ 17
   ·rw [if_pos hP]
    have c1 := hP.1
    have c2 := hP.2
    refine callV_fn e.ref13_wrong fun nd hnd => ?_
    simp (maxSteps := 1000000) (disch := first | omega | (simp only [lnS] <;> omega) | assumption | fail) [ref13_wrong_B, wwS, -List.getD_eq_getElem?_getD, -List.drop_drop, hK, b1, b2, b3, q, c1, c2]
   ·rw [if_neg hP]
    have hP : P = 6 ∨ P = 17 := by omega
    rcases hP with rfl | rfl
    all_goals
     by_cases hL : (b.length : Int) < L
     ·rw [if_pos hL]
      refine callV_fn e.ref13_wrong fun nd hnd => ?_
      simp (maxSteps := 1000000) (disch := first | omega | (simp only [lnS] <;> omega) | assumption | fail) [ref13_wrong_B, wwS, -List.getD_eq_getElem?_getD, -List.drop_drop, hK, b1, b2, b3, q, hL]
     ·rw [if_neg hL]
      by_cases hM : 65535 < b.length
      ·rw [if_pos hM]
       have c1 : 65535 < (b.length : Int) := by omega
       refine callV_fn e.ref13_wrong fun nd hnd => ?_
       simp (maxSteps := 1000000) (disch := first | omega | (simp only [lnS] <;> omega) | assumption | fail) [ref13_wrong_B, wwS, -List.getD_eq_getElem?_getD, -List.drop_drop, hK, b1, b2, b3, q, hL, hM, c1]
      ·rw [if_neg hM]
       have c1 : ¬ 65535 < (b.length : Int) := by omega
       refine callV_fn e.ref13_wrong fun nd hnd => ?_
       simp (maxSteps := 1000000) (disch := first | omega | (simp only [lnS] <;> omega) | assumption | fail) [ref13_wrong_B, wwS, -List.getD_eq_getElem?_getD, -List.drop_drop, hK, b1, b2, b3, q, hL, hM, c1]
end
end Go.Wb.P13

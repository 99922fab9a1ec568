/- Chapter 9: which point a text names. -/
import Derived.Test.YtlbekhmgpfbgnaaWbvP09e
set_option maxRecDepth 100000
set_option linter.all false
namespace Go.Wb.P09
open Go Go.Wb Go.Wb.Code Go.Wb.P02
section
variable {E : EnvW} (e : WbvC09Env E) (e2 : WbvC02Env E)
theorem par_next {L : List Nat} {k a y : Nat} {R} (hl : L.length ≤ 18) (hk : k < L.length) (ha : a < 100000000000000000) (hy : y ≤ 9) (hx : isT (ts (sb L)) (ti .i64 (k : Int)) = some (ti .u8 ((y + 48 : Nat) : Int)))
 (h : runV E (.loop [0, 5, 34, 35] point_Parse_L1) (updT (updT (updT (updT botT 35 (ti .i64 (k + 1 : Nat))) 34 (ti .i64 L.length)) 5 (ti .i64 (a * 10 + y : Nat))) 0 (ts (sb L))) = R) :
 runV E (.loop [0, 5, 34, 35] point_Parse_L1) (updT (updT (updT (updT botT 35 (ti .i64 (k : Int))) 34 (ti .i64 L.length)) 5 (ti .i64 (a : Int))) 0 (ts (sb L))) = R := by
 have hx : isT (ts (sb L)) (ti .i64 (k : Int)) = some (ti .u8 ((y : Int) + 48)) := hx
 have c1 : (k : Int) < L.length := by omega
 have c2 : ¬ (y : Int) + 48 < 48 := by omega
 have c3 : ¬ 57 < (y : Int) + 48 := by omega
 rw [show a * 10 + y = 10 * a + y by omega] at h
 subst h
 refine loop_go (by simp (maxSteps := 1000000) (disch := first | omega | (simp only [lnS] <;> omega) | assumption | fail) [point_Parse_L1, wwS, -List.getD_eq_getElem?_getD, -List.drop_drop, hx, c1, c2, c3, hk]; rfl) ?_
 rfl
theorem par_stop {L : List Nat} {k a x : Nat} (hl : L.length ≤ 18) (hk : k < L.length) (hb : x < 256) (hn : ¬ (48 ≤ x ∧ x ≤ 57)) (hx : isT (ts (sb L)) (ti .i64 (k : Int)) = some (ti .u8 (x : Int))) :
 runV E (.loop [0, 5, 34, 35] point_Parse_L1) (updT (updT (updT (updT botT 35 (ti .i64 (k : Int))) 34 (ti .i64 L.length)) 5 (ti .i64 (a : Int))) 0 (ts (sb L))) = some (.ret, updT (updT botT 3 (ti .i64 3)) 2 (ti .i64 0)) := by
 have c1 : (k : Int) < L.length := by omega
 by_cases h : x < 48
 ·have c2 : (x : Int) < 48 := by omega
  refine loop_out (by simp (maxSteps := 1000000) (disch := first | omega | (simp only [lnS] <;> omega) | assumption | fail) [point_Parse_L1, wwS, -List.getD_eq_getElem?_getD, -List.drop_drop, hx, c1, c2, h, hk]; first | exact ⟨rfl, rfl⟩ | exact rfl) ?_ (by simp)
  rfl
 ·have c2 : ¬ (x : Int) < 48 := by omega
  have c3 : 57 < (x : Int) := by omega
  have h3 : 57 < x := by omega
  refine loop_out (by simp (maxSteps := 1000000) (disch := first | omega | (simp only [lnS] <;> omega) | assumption | fail) [point_Parse_L1, wwS, -List.getD_eq_getElem?_getD, -List.drop_drop, hx, c1, c2, c3, h3, h, hk]; first | exact ⟨rfl, rfl⟩ | exact rfl) ?_ (by simp)
  rfl
theorem par_loop (L : List Nat) (h256 : All256 L) (hl : L.length ≤ 18) : ∀ (m k a : Nat), k + m = L.length → a < 10 ^ k →
 runV E (.loop [0, 5, 34, 35] point_Parse_L1) (updT (updT (updT (updT botT 35 (ti .i64 (k : Int))) 34 (ti .i64 L.length)) 5 (ti .i64 (a : Int))) 0 (ts (sb L))) =
  match dnum (L.drop k) a with
  | some n => some (.exit 2, updT botT 5 (ti .i64 (n : Int)))
  | none => some (.ret, updT (updT botT 3 (ti .i64 3)) 2 (ti .i64 0))
 | 0, k, a, h1, h2 => by
   rw [List.drop_eq_nil_of_le (by omega), dnum]
   have c1 : ¬ (k : Int) < L.length := by omega
   have c2 : ¬ k < L.length := by omega
   refine loop_out (by simp (maxSteps := 1000000) (disch := first | omega | (simp only [lnS] <;> omega) | assumption | fail) [point_Parse_L1, wwS, -List.getD_eq_getElem?_getD, -List.drop_drop, c1, c2]; first | exact ⟨rfl, rfl⟩ | exact rfl) ?_ (by simp)
   rfl
 | m + 1, k, a, h1, h2 => by
   obtain ⟨x, hx1, hx2, _, hx⟩ := at_of h256 (show k < L.length by omega)
   rw [hx2, dnum]
   have hp := pow17 (show k ≤ 17 by omega)
   by_cases hn : 48 ≤ x ∧ x ≤ 57
   ·rw [if_pos hn]
    have ih := par_loop L h256 hl m (k + 1) (a * 10 + (x - 48)) (by omega) (by rw [Nat.pow_succ]; omega)
    refine par_next hl (by omega) (by omega) (y := x - 48) (by omega) ?_ ih
    rw [show x - 48 + 48 = x by omega]
    exact hx
   ·rw [if_neg hn]
    exact par_stop hl (by omega) hx1 hn hx
theorem sb_nil {s : List Nat} : (sb s).toList.isEmpty = decide (s = []) := by
 rw [ByteArray.toList_eq, sb_list]
 cases s <;> rfl
def endS (o : Option Nat) : Nat × Int :=
 match o with
 | none => (0, 3)
 | some n => if n < 64 then (n, 0) else (0, 14)
theorem parseS_some {s : List Nat} {g : Nat} (h : findN 64 0 s = some g) : parseS s = (g, 0) := by unfold parseS; rw [h]
theorem parseS_none {s : List Nat} (h : findN 64 0 s = none) : parseS s = endS (numG 2 s) := by unfold parseS endS; rw [h]; rfl
include e e2 in
theorem ref09_Parse (s : List Nat) (hs : All256 s) (hl : s.length ≤ room) : callV E "ref09.Parse" [vs (sb s)] [] = some ([ri ((parseS s).1 : Int), ri (parseS s).2], [na], []) := by
 cases hf : findN 64 0 s with
 | some g =>
   have h := rparse_hit e e2 hs 64 0 g (by omega) hf
   rw [show ((0 : Nat) : Int) = 0 from rfl] at h
   rw [parseS_some hf]
   refine callV_fn e.ref09_Parse fun nd hnd => ?_
   simp (maxSteps := 1000000) (disch := first | omega | (simp only [lnS] <;> omega) | assumption | fail) [ref09_Parse_B, wwS, -List.getD_eq_getElem?_getD, -List.drop_drop, h]
 | none =>
   have h := rparse_miss e e2 hs 64 0 (by omega) hf
   rw [show ((0 : Nat) : Int) = 0 from rfl] at h
   rw [parseS_none hf]
   have q := Number e 2 (by decide) s hs hl
   cases hn : numG 2 s with
   | none =>
     rw [hn] at q
     have q : callV E "ref05.Number" [vs (sb s), vi 2] [] = some ([ri (-1)], [na, na], []) := q
     unfold endS
     refine callV_fn e.ref09_Parse fun nd hnd => ?_
     simp (maxSteps := 1000000) (disch := first | omega | (simp only [lnS] <;> omega) | assumption | fail) [ref09_Parse_B, wwS, -List.getD_eq_getElem?_getD, -List.drop_drop, h, q]
   | some n =>
     rw [hn] at q
     have q : callV E "ref05.Number" [vs (sb s), vi 2] [] = some ([ri (n : Int)], [na, na], []) := q
     have c1 : ¬ (n : Int) < 0 := by omega
     have q2 := ref09_Is e n
     unfold endS
     by_cases h64 : n < 64
     ·rw [decide_eq_true (by omega)] at q2
      simp only [if_pos h64]
      refine callV_fn e.ref09_Parse fun nd hnd => ?_
      simp (maxSteps := 1000000) (disch := first | omega | (simp only [lnS] <;> omega) | assumption | fail) [ref09_Parse_B, wwS, -List.getD_eq_getElem?_getD, -List.drop_drop, h, q, q2, c1]
     ·rw [decide_eq_false (by omega)] at q2
      simp only [if_neg h64]
      refine callV_fn e.ref09_Parse fun nd hnd => ?_
      simp (maxSteps := 1000000) (disch := first | omega | (simp only [lnS] <;> omega) | assumption | fail) [ref09_Parse_B, wwS, -List.getD_eq_getElem?_getD, -List.drop_drop, h, q, q2, c1]
include e in
theorem parse_run {s : List Nat} {n : Nat} (h0 : ¬ s = []) (hlen : s.length ≤ 2) (hs : All256 s) (hz : ¬ (1 < s.length ∧ s.getD 0 0 = 48)) (hn : n < 100)
 (h : runV E (.loop [0, 7] point_Parse_L0) (updT (updT botT 7 (ti .i64 0)) 0 (ts (sb s))) = some (.exit 0, updT botT 0 (ts (sb s))))
 (hl : runV E (.loop [0, 5, 34, 35] point_Parse_L1) (updT (updT (updT (updT botT 35 (ti .i64 0)) 34 (ti .i64 s.length)) 5 (ti .i64 0)) 0 (ts (sb s))) = some (.exit 2, updT botT 5 (ti .i64 (n : Int)))) :
 callV E "point.Parse" [vs (sb s)] [] = some ([ri ((endS (some n)).1 : Int), ri (endS (some n)).2], [na], []) := by
 have hp : 0 < s.length := by
  cases s with
  | nil => exact (h0 rfl).elim
  | cons _ _ => simp
 obtain ⟨x, hx1, hx2, hx3, hx⟩ := at_of hs hp
 have hx : isT (ts (sb s)) (ti .i64 0) = some (ti .u8 (x : Int)) := hx
 have c0 : (sb s).toList.isEmpty = false := by rw [sb_nil]; exact decide_eq_false h0
 have c1 : ¬ 2 < (s.length : Int) := by omega
 have c2 : ¬ 2 < s.length := by omega
 have q2 := point_is e n
 unfold endS
 have hc : (s.length = 2 ∧ ¬ x = 48) ∨ ¬ s.length = 2 := by
  by_cases h2 : s.length = 2
  ·exact .inl ⟨h2, fun hh => hz ⟨by omega, by rw [hx3]; exact hh⟩⟩
  ·exact .inr h2
 rcases hc with ⟨c3, c4⟩ | c3
 ·have c5 : ¬ (x : Int) = 48 := by omega
  rw [c3] at hl
  have hl : runV E (.loop [0, 5, 34, 35] point_Parse_L1) (updT (updT (updT (updT botT 35 (ti .i64 0)) 34 (ti .i64 2)) 5 (ti .i64 0)) 0 (ts (sb s))) = some (.exit 2, updT botT 5 (ti .i64 (n : Int))) := hl
  by_cases h64 : n < 64
  ·rw [decide_eq_true (by omega)] at q2
   simp only [if_pos h64]
   refine callV_fn e.point_Parse fun nd hnd => ?_
   simp (maxSteps := 1000000) (disch := first | omega | (simp only [lnS] <;> omega) | assumption | fail) [point_Parse_B, wwS, -List.getD_eq_getElem?_getD, -List.drop_drop, h, q2, c0, c3, c4, c5, hx, hl]
  ·rw [decide_eq_false (by omega)] at q2
   simp only [if_neg h64]
   refine callV_fn e.point_Parse fun nd hnd => ?_
   simp (maxSteps := 1000000) (disch := first | omega | (simp only [lnS] <;> omega) | assumption | fail) [point_Parse_B, wwS, -List.getD_eq_getElem?_getD, -List.drop_drop, h, q2, c0, c3, c4, c5, hx, hl]
 ·have c4 : ¬ (s.length : Int) = 2 := by omega
  by_cases h64 : n < 64
  ·rw [decide_eq_true (by omega)] at q2
   simp only [if_pos h64]
   refine callV_fn e.point_Parse fun nd hnd => ?_
   simp (maxSteps := 1000000) (disch := first | omega | (simp only [lnS] <;> omega) | assumption | fail) [point_Parse_B, wwS, -List.getD_eq_getElem?_getD, -List.drop_drop, h, q2, c0, c1, c2, c3, c4, hl]
  ·rw [decide_eq_false (by omega)] at q2
   simp only [if_neg h64]
   refine callV_fn e.point_Parse fun nd hnd => ?_
   simp (maxSteps := 1000000) (disch := first | omega | (simp only [lnS] <;> omega) | assumption | fail) [point_Parse_B, wwS, -List.getD_eq_getElem?_getD, -List.drop_drop, h, q2, c0, c1, c2, c3, c4, hl]
include e in
theorem parse_run0 {s : List Nat} (h0 : ¬ s = []) (hlen : s.length ≤ 2) (hs : All256 s) (hz : ¬ (1 < s.length ∧ s.getD 0 0 = 48))
 (h : runV E (.loop [0, 7] point_Parse_L0) (updT (updT botT 7 (ti .i64 0)) 0 (ts (sb s))) = some (.exit 0, updT botT 0 (ts (sb s))))
 (hl : runV E (.loop [0, 5, 34, 35] point_Parse_L1) (updT (updT (updT (updT botT 35 (ti .i64 0)) 34 (ti .i64 s.length)) 5 (ti .i64 0)) 0 (ts (sb s))) = some (.ret, updT (updT botT 3 (ti .i64 3)) 2 (ti .i64 0))) :
 callV E "point.Parse" [vs (sb s)] [] = some ([ri 0, ri 3], [na], []) := by
 have hp : 0 < s.length := by
  cases s with
  | nil => exact (h0 rfl).elim
  | cons _ _ => simp
 obtain ⟨x, hx1, hx2, hx3, hx⟩ := at_of hs hp
 have hx : isT (ts (sb s)) (ti .i64 0) = some (ti .u8 (x : Int)) := hx
 have c0 : (sb s).toList.isEmpty = false := by rw [sb_nil]; exact decide_eq_false h0
 have c1 : ¬ 2 < (s.length : Int) := by omega
 have c2 : ¬ 2 < s.length := by omega
 have hc : (s.length = 2 ∧ ¬ x = 48) ∨ ¬ s.length = 2 := by
  by_cases h2 : s.length = 2
  ·exact .inl ⟨h2, fun hh => hz ⟨by omega, by rw [hx3]; exact hh⟩⟩
  ·exact .inr h2
 rcases hc with ⟨c3, c4⟩ | c3
 ·have c5 : ¬ (x : Int) = 48 := by omega
  rw [c3] at hl
  have hl : runV E (.loop [0, 5, 34, 35] point_Parse_L1) (updT (updT (updT (updT botT 35 (ti .i64 0)) 34 (ti .i64 2)) 5 (ti .i64 0)) 0 (ts (sb s))) = some (.ret, updT (updT botT 3 (ti .i64 3)) 2 (ti .i64 0)) := hl
  refine callV_fn e.point_Parse fun nd hnd => ?_
  simp (maxSteps := 1000000) (disch := first | omega | (simp only [lnS] <;> omega) | assumption | fail) [point_Parse_B, wwS, -List.getD_eq_getElem?_getD, -List.drop_drop, h, c0, c3, c4, c5, hx, hl]
 ·have c4 : ¬ (s.length : Int) = 2 := by omega
  refine callV_fn e.point_Parse fun nd hnd => ?_
  simp (maxSteps := 1000000) (disch := first | omega | (simp only [lnS] <;> omega) | assumption | fail) [point_Parse_B, wwS, -List.getD_eq_getElem?_getD, -List.drop_drop, h, c0, c1, c2, c3, c4, hl]
include e e2 in
theorem point_Parse (s : List Nat) (hs : All256 s) (hl : s.length ≤ room) : callV E "point.Parse" [vs (sb s)] [] = some ([ri ((parseS s).1 : Int), ri (parseS s).2], [na], []) := by
 have hlb := hl
 unfold room at hlb
 cases hf : findN 64 0 s with
 | some g =>
   have h := parse_hit e e2 hs 64 0 g (by omega) hf
   rw [show ((0 : Nat) : Int) = 0 from rfl] at h
   rw [parseS_some hf]
   refine callV_fn e.point_Parse fun nd hnd => ?_
   simp (maxSteps := 1000000) (disch := first | omega | (simp only [lnS] <;> omega) | assumption | fail) [point_Parse_B, wwS, -List.getD_eq_getElem?_getD, -List.drop_drop, h]
 | none =>
   have h := parse_miss e e2 hs 64 0 (by omega) hf
   rw [show ((0 : Nat) : Int) = 0 from rfl] at h
   rw [parseS_none hf]
   unfold numG
   by_cases h0 : s = []
   ·rw [if_pos (.inl h0)]
    have c0 : (sb s).toList.isEmpty = true := by rw [sb_nil]; exact decide_eq_true h0
    unfold endS
    refine callV_fn e.point_Parse fun nd hnd => ?_
    simp (maxSteps := 1000000) (disch := first | omega | (simp only [lnS] <;> omega) | assumption | fail) [point_Parse_B, wwS, -List.getD_eq_getElem?_getD, -List.drop_drop, h, c0]
   ·have c0 : (sb s).toList.isEmpty = false := by rw [sb_nil]; exact decide_eq_false h0
    by_cases h1 : 2 < s.length
    ·rw [if_pos (.inr (.inl h1))]
     have c1 : 2 < (s.length : Int) := by omega
     unfold endS
     refine callV_fn e.point_Parse fun nd hnd => ?_
     simp (maxSteps := 1000000) (disch := first | omega | (simp only [lnS] <;> omega) | assumption | fail) [point_Parse_B, wwS, -List.getD_eq_getElem?_getD, -List.drop_drop, h, c0, c1, h1]
    ·by_cases h2 : 1 < s.length ∧ s.getD 0 0 = 48
     ·rw [if_pos (.inr (.inr h2))]
      have c3 : s.length = 2 := by omega
      obtain ⟨x, hx1, hx2, hx3, hx⟩ := at_of hs (show 0 < s.length by omega)
      have c4 : x = 48 := by rw [← hx3]; exact h2.2
      subst c4
      have hx : isT (ts (sb s)) (ti .i64 0) = some (ti .u8 48) := hx
      unfold endS
      refine callV_fn e.point_Parse fun nd hnd => ?_
      simp (maxSteps := 1000000) (disch := first | omega | (simp only [lnS] <;> omega) | assumption | fail) [point_Parse_B, wwS, -List.getD_eq_getElem?_getD, -List.drop_drop, h, c0, c3, hx]
     ·rw [if_neg (by intro h; rcases h with h | h | h; exact h0 h; exact h1 h; exact h2 h)]
      have hlo := par_loop (E := E) s hs (by omega) s.length 0 0 (by omega) (by simp)
      rw [List.drop_zero, show ((0 : Nat) : Int) = 0 from rfl] at hlo
      cases hd : dnum s 0 with
      | none =>
        rw [hd] at hlo
        exact parse_run0 e h0 (by omega) hs h2 h hlo
      | some n =>
        rw [hd] at hlo
        have hn := dnum_lt s 0 0 n (by simp) hd
        have hn2 : n < 100 := Nat.lt_of_lt_of_le hn (Nat.pow_le_pow_right (show 0 < 10 by decide) (show 0 + s.length ≤ 2 by omega))
        exact parse_run e h0 (by omega) hs h2 hn2 h hlo
end
end Go.Wb.P09

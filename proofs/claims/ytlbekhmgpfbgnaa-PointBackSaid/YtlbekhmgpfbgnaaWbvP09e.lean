/- Chapter 9: digits. -/
import Derived.Test.YtlbekhmgpfbgnaaWbvP09d
set_option maxRecDepth 100000
set_option linter.all false
namespace Go.Wb.P09
open Go Go.Wb Go.Wb.Code Go.Wb.P02
theorem dnum_lt : ∀ (l : List Nat) (a k n : Nat), a < 10 ^ k → dnum l a = some n → n < 10 ^ (k + l.length)
 | [], a, k, n, h, h2 => by
   rw [dnum] at h2
   injection h2 with h2
   subst h2
   exact h
 | x :: l, a, k, n, h, h2 => by
   rw [dnum] at h2
   split at h2
   ·have h3 : a * 10 + (x - 48) < 10 ^ (k + 1) := by rw [Nat.pow_succ]; omega
    have := dnum_lt l _ (k + 1) n h3 h2
    rw [List.length_cons, show k + (l.length + 1) = k + 1 + l.length by omega]
    exact this
   ·cases h2
theorem pow17 {k : Nat} (h : k ≤ 17) : (10 : Nat) ^ k ≤ 100000000000000000 := by
 have := Nat.pow_le_pow_right (show 0 < 10 by decide) h
 exact Nat.le_trans this (by decide)
theorem at_of {L : List Nat} (h256 : All256 L) {k : Nat} (hk : k < L.length) : ∃ x, x < 256 ∧ L.drop k = x :: L.drop (k + 1) ∧ L.getD k 0 = x ∧ isT (ts (sb L)) (ti .i64 (k : Int)) = some (ti .u8 (x : Int)) := by
 refine ⟨L.getD k 0, h256 _ (getD_mem hk), ?_, rfl, ?_⟩
 ·rw [List.drop_eq_getElem_cons hk]
  simp [List.getD, hk]
 ·have := isT_sb (k := .i64) (a := (k : Int)) h256 (by omega) (by omega)
  rw [Int.toNat_natCast] at this
  exact this
section
variable {E : EnvW} (e : WbvC09Env E) (e2 : WbvC02Env E)
theorem num_next {L : List Nat} {k a y : Nat} {R} (hl : L.length ≤ 18) (hk : k < L.length) (ha : a < 100000000000000000) (hy : y ≤ 9) (hx : isT (ts (sb L)) (ti .i64 (k : Int)) = some (ti .u8 ((y + 48 : Nat) : Int)))
 (h : runV E (.loop [0, 5, 6] ref05_Number_L0) (updT (updT (updT botT 6 (ti .i64 (k + 1 : Nat))) 5 (ti .i64 (a * 10 + y : Nat))) 0 (ts (sb L))) = R) :
 runV E (.loop [0, 5, 6] ref05_Number_L0) (updT (updT (updT botT 6 (ti .i64 (k : Int))) 5 (ti .i64 (a : Int))) 0 (ts (sb L))) = R := by
 have hx : isT (ts (sb L)) (ti .i64 (k : Int)) = some (ti .u8 ((y : Int) + 48)) := hx
 have c1 : (k : Int) < L.length := by omega
 have c2 : ¬ (y : Int) + 48 < 48 := by omega
 have c3 : ¬ 57 < (y : Int) + 48 := by omega
 subst h
 refine loop_go (by simp (maxSteps := 1000000) (disch := first | omega | (simp only [lnS] <;> omega) | assumption | fail) [ref05_Number_L0, wwS, -List.getD_eq_getElem?_getD, -List.drop_drop, hx, c1, c2, c3, hk]; rfl) ?_
 rfl
theorem num_stop {L : List Nat} {k a x : Nat} (hl : L.length ≤ 18) (hk : k < L.length) (hb : x < 256) (hn : ¬ (48 ≤ x ∧ x ≤ 57)) (hx : isT (ts (sb L)) (ti .i64 (k : Int)) = some (ti .u8 (x : Int))) :
 runV E (.loop [0, 5, 6] ref05_Number_L0) (updT (updT (updT botT 6 (ti .i64 (k : Int))) 5 (ti .i64 (a : Int))) 0 (ts (sb L))) = some (.ret, updT botT 4 (ti .i64 (-1))) := by
 have c1 : (k : Int) < L.length := by omega
 by_cases h : x < 48
 ·have c2 : (x : Int) < 48 := by omega
  refine loop_out (by simp (maxSteps := 1000000) (disch := first | omega | (simp only [lnS] <;> omega) | assumption | fail) [ref05_Number_L0, wwS, -List.getD_eq_getElem?_getD, -List.drop_drop, hx, c1, c2, h, hk]; first | exact ⟨rfl, rfl⟩ | exact rfl) ?_ (by simp)
  rfl
 ·have c2 : ¬ (x : Int) < 48 := by omega
  have c3 : 57 < (x : Int) := by omega
  have h3 : 57 < x := by omega
  refine loop_out (by simp (maxSteps := 1000000) (disch := first | omega | (simp only [lnS] <;> omega) | assumption | fail) [ref05_Number_L0, wwS, -List.getD_eq_getElem?_getD, -List.drop_drop, hx, c1, c2, c3, h3, h, hk]; first | exact ⟨rfl, rfl⟩ | exact rfl) ?_ (by simp)
  rfl
theorem num_loop (L : List Nat) (h256 : All256 L) (hl : L.length ≤ 18) : ∀ (m k a : Nat), k + m = L.length → a < 10 ^ k →
 runV E (.loop [0, 5, 6] ref05_Number_L0) (updT (updT (updT botT 6 (ti .i64 (k : Int))) 5 (ti .i64 (a : Int))) 0 (ts (sb L))) =
  match dnum (L.drop k) a with
  | some n => some (.exit 0, updT botT 5 (ti .i64 (n : Int)))
  | none => some (.ret, updT botT 4 (ti .i64 (-1)))
 | 0, k, a, h1, h2 => by
   rw [List.drop_eq_nil_of_le (by omega), dnum]
   have c1 : ¬ (k : Int) < L.length := by omega
   have c2 : ¬ k < L.length := by omega
   refine loop_out (by simp (maxSteps := 1000000) (disch := first | omega | (simp only [lnS] <;> omega) | assumption | fail) [ref05_Number_L0, wwS, -List.getD_eq_getElem?_getD, -List.drop_drop, c1, c2]; first | exact ⟨rfl, rfl⟩ | exact rfl) ?_ (by simp)
   rfl
 | m + 1, k, a, h1, h2 => by
   obtain ⟨x, hx1, hx2, _, hx⟩ := at_of h256 (show k < L.length by omega)
   rw [hx2, dnum]
   have hp := pow17 (show k ≤ 17 by omega)
   by_cases hn : 48 ≤ x ∧ x ≤ 57
   ·rw [if_pos hn]
    have ih := num_loop L h256 hl m (k + 1) (a * 10 + (x - 48)) (by omega) (by rw [Nat.pow_succ]; omega)
    refine num_next hl (by omega) (by omega) (y := x - 48) (by omega) ?_ ih
    rw [show x - 48 + 48 = x by omega]
    exact hx
   ·rw [if_neg hn]
    exact num_stop hl (by omega) hx1 hn hx
include e in
theorem Number (most : Nat) (hm : most ≤ 18) (s : List Nat) (hs : All256 s) (hl : s.length ≤ room) : callV E "ref05.Number" [vs (sb s), vi most] [] =
 some ([ri (match numG most s with | some n => (n : Int) | none => -1)], [na, na], []) := by
 unfold numG
 have hlb := hl
 unfold room at hlb
 by_cases h0 : s = []
 ·rw [if_pos (.inl h0)]
  have c : s.length = 0 := by rw [h0]; rfl
  refine callV_fn e.ref05_Number fun nd hnd => ?_
  simp (maxSteps := 1000000) (disch := first | omega | (simp only [lnS] <;> omega) | assumption | fail) [ref05_Number_B, wwS, -List.getD_eq_getElem?_getD, -List.drop_drop, c]
 ·have hp : 0 < s.length := by
   cases s with
   | nil => exact (h0 rfl).elim
   | cons _ _ => simp
  have c1 : ¬ (s.length : Int) < 1 := by omega
  by_cases h1 : most < s.length
  ·rw [if_pos (.inr (.inl h1))]
   have c2 : (most : Int) < s.length := by omega
   refine callV_fn e.ref05_Number fun nd hnd => ?_
   simp (maxSteps := 1000000) (disch := first | omega | (simp only [lnS] <;> omega) | assumption | fail) [ref05_Number_B, wwS, -List.getD_eq_getElem?_getD, -List.drop_drop, c1, c2, h1, h0]
  ·have c2 : ¬ (most : Int) < s.length := by omega
   obtain ⟨x, hx1, hx2, hx3, hx⟩ := at_of hs hp
   have hx : isT (ts (sb s)) (ti .i64 0) = some (ti .u8 (x : Int)) := hx
   by_cases h2 : 1 < s.length ∧ s.getD 0 0 = 48
   ·rw [if_pos (.inr (.inr h2))]
    have c3 : (1 : Int) < s.length := by omega
    have c4 : x = 48 := by rw [← hx3]; exact h2.2
    have c5 := h2.1
    rw [c4] at hx
    have hx : isT (ts (sb s)) (ti .i64 0) = some (ti .u8 48) := hx
    refine callV_fn e.ref05_Number fun nd hnd => ?_
    simp (maxSteps := 1000000) (disch := first | omega | (simp only [lnS] <;> omega) | assumption | fail) [ref05_Number_B, wwS, -List.getD_eq_getElem?_getD, -List.drop_drop, c1, c2, h1, h0, c3, hx, c5]
   ·rw [if_neg (by intro h; rcases h with h | h | h; exact h0 h; exact h1 h; exact h2 h)]
    have hlo := num_loop (E := E) s hs (by omega) s.length 0 0 (by omega) (by simp)
    rw [List.drop_zero, show ((0 : Nat) : Int) = 0 from rfl] at hlo
    by_cases c3 : 1 < s.length
    ·have c3' : (1 : Int) < s.length := by omega
     have c4 : ¬ x = 48 := fun h => h2 ⟨c3, by rw [hx3]; exact h⟩
     have c5 : ¬ (x : Int) = 48 := by omega
     cases hd : dnum s 0 with
     | none =>
       rw [hd] at hlo
       refine callV_fn e.ref05_Number fun nd hnd => ?_
       simp (maxSteps := 1000000) (disch := first | omega | (simp only [lnS] <;> omega) | assumption | fail) [ref05_Number_B, wwS, -List.getD_eq_getElem?_getD, -List.drop_drop, c1, c2, h1, h0, c3, c3', hx, c4, c5, hlo]
     | some n =>
       rw [hd] at hlo
       refine callV_fn e.ref05_Number fun nd hnd => ?_
       simp (maxSteps := 1000000) (disch := first | omega | (simp only [lnS] <;> omega) | assumption | fail) [ref05_Number_B, wwS, -List.getD_eq_getElem?_getD, -List.drop_drop, c1, c2, h1, h0, c3, c3', hx, c4, c5, hlo]
    ·have c3' : ¬ (1 : Int) < s.length := by omega
     cases hd : dnum s 0 with
     | none =>
       rw [hd] at hlo
       refine callV_fn e.ref05_Number fun nd hnd => ?_
       simp (maxSteps := 1000000) (disch := first | omega | (simp only [lnS] <;> omega) | assumption | fail) [ref05_Number_B, wwS, -List.getD_eq_getElem?_getD, -List.drop_drop, c1, c2, h1, h0, c3, c3', hlo]
     | some n =>
       rw [hd] at hlo
       refine callV_fn e.ref05_Number fun nd hnd => ?_
       simp (maxSteps := 1000000) (disch := first | omega | (simp only [lnS] <;> omega) | assumption | fail) [ref05_Number_B, wwS, -List.getD_eq_getElem?_getD, -List.drop_drop, c1, c2, h1, h0, c3, c3', hlo]
end
end Go.Wb.P09

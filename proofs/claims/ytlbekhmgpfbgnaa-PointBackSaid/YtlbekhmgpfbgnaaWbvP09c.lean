/- Chapter 9: the document's names. -/
import Derived.Test.YtlbekhmgpfbgnaaWbvP09b
set_option maxRecDepth 100000
set_option linter.all false
namespace Go.Wb.P09
open Go Go.Wb Go.Wb.Code Go.Wb.P02
section
variable {E : EnvW} (e : WbvC09Env E) (e2 : WbvC02Env E)
include e in
theorem rPrec_hit (d : Int) (c q : Nat) (hc : 1 ≤ c ∧ c ≤ 4) (hq : 1 ≤ q ∧ q ≤ 3) (hd : d = 8 * c + 2 * q) : ∀ (m p : Nat), p + m = q → 1 ≤ p →
 runV E (.loop [0, 3, 4] ref09_Prec_L0) (updT (updT (updT botT 4 (ti .i64 (p : Int))) 3 (ti .i64 (c : Int))) 0 (ti .i64 d)) = some (.ret, updT botT 2 (ti .i64 (q : Int)))
 | 0, p, h1, h2 => by
   have a := ref09_Af e c p (by unfold I64; omega) (by unfold I64; omega)
   unfold afS at a
   rw [if_pos (by omega)] at a
   have hp : p = q := by omega
   subst hp
   have c1 : (p : Int) ≤ 3 := by omega
   have c2 : ((8 * (c : Int) + 2 * (p : Int)) = d) = True := eq_true (by omega)
   have c3 : p ≤ 3 := by omega
   clear hd
   refine loop_out (by simp (maxSteps := 1000000) (disch := first | omega | (simp only [lnS] <;> omega) | assumption | fail) [ref09_Prec_L0, wwS, -List.getD_eq_getElem?_getD, -List.drop_drop, a, c1, c2, c3]; first | exact ⟨rfl, rfl⟩ | exact rfl) ?_ (by simp)
   rfl
 | m + 1, p, h1, h2 => by
   have a := ref09_Af e c p (by unfold I64; omega) (by unfold I64; omega)
   unfold afS at a
   rw [if_pos (by omega)] at a
   have ih := rPrec_hit d c q hc hq hd m (p + 1) (by omega) (by omega)
   have c1 : (p : Int) ≤ 3 := by omega
   have c2 : ¬ (8 * (c : Int) + 2 * (p : Int)) = d := by omega
   have c3 : p ≤ 3 := by omega
   clear hd
   refine loop_go (by simp (maxSteps := 1000000) (disch := first | omega | (simp only [lnS] <;> omega) | assumption | fail) [ref09_Prec_L0, wwS, -List.getD_eq_getElem?_getD, -List.drop_drop, a, c1, c2, c3]; rfl) ?_
   exact ih
include e in
theorem rPrec_miss (d : Int) (c : Nat) (hc : 1 ≤ c ∧ c ≤ 4) (hd : ∀ q : Nat, 1 ≤ q → q ≤ 3 → ¬ d = 8 * c + 2 * q) : ∀ (m p : Nat), p + m = 4 → 1 ≤ p →
 runV E (.loop [0, 3, 4] ref09_Prec_L0) (updT (updT (updT botT 4 (ti .i64 (p : Int))) 3 (ti .i64 (c : Int))) 0 (ti .i64 d)) = some (.exit 2, updT (updT botT 3 (ti .i64 (c : Int))) 0 (ti .i64 d))
 | 0, p, h1, h2 => by
   have c1 : ¬ (p : Int) ≤ 3 := by omega
   have c3 : ¬ p ≤ 3 := by omega
   refine loop_out (by simp (maxSteps := 1000000) (disch := first | omega | (simp only [lnS] <;> omega) | assumption | fail) [ref09_Prec_L0, wwS, -List.getD_eq_getElem?_getD, -List.drop_drop, c1, c3]; first | exact ⟨rfl, rfl⟩ | exact rfl) ?_ (by simp)
   rfl
 | m + 1, p, h1, h2 => by
   have a := ref09_Af e c p (by unfold I64; omega) (by unfold I64; omega)
   unfold afS at a
   rw [if_pos (by omega)] at a
   have ih := rPrec_miss d c hc hd m (p + 1) (by omega) (by omega)
   have c1 : (p : Int) ≤ 3 := by omega
   have c2 : ¬ (8 * (c : Int) + 2 * (p : Int)) = d := fun h => hd p (by omega) (by omega) h.symm
   have c3 : p ≤ 3 := by omega
   refine loop_go (by simp (maxSteps := 1000000) (disch := first | omega | (simp only [lnS] <;> omega) | assumption | fail) [ref09_Prec_L0, wwS, -List.getD_eq_getElem?_getD, -List.drop_drop, a, c1, c2, c3]; rfl) ?_
   exact ih
include e in
theorem rPrec_out (d : Int) : runV E (.loop [0, 3] ref09_Prec_L1) (updT (updT botT 3 (ti .i64 5)) 0 (ti .i64 d)) = some (.exit 0, botT) := by
 refine loop_out (by simp (maxSteps := 1000000) (disch := first | omega | (simp only [lnS] <;> omega) | assumption | fail) [ref09_Prec_L1, wwS, -List.getD_eq_getElem?_getD, -List.drop_drop]; first | exact ⟨rfl, rfl⟩ | exact rfl) ?_ (by simp)
 rfl
include e in
theorem rPrec_next (d : Int) (c : Nat) {R} (hc : 1 ≤ c ∧ c ≤ 4) (hd : ∀ q : Nat, 1 ≤ q → q ≤ 3 → ¬ d = 8 * c + 2 * q)
 (h : runV E (.loop [0, 3] ref09_Prec_L1) (updT (updT botT 3 (ti .i64 ((c : Int) + 1))) 0 (ti .i64 d)) = R) : runV E (.loop [0, 3] ref09_Prec_L1) (updT (updT botT 3 (ti .i64 (c : Int))) 0 (ti .i64 d)) = R := by
 have i := rPrec_miss e d c hc hd 3 1 rfl (by omega)
 rw [show ((1 : Nat) : Int) = 1 from rfl] at i
 have c1 : (c : Int) ≤ 4 := by omega
 have c3 : c ≤ 4 := by omega
 subst h
 refine loop_go (by simp (maxSteps := 1000000) (disch := first | omega | (simp only [lnS] <;> omega) | assumption | fail) [ref09_Prec_L1, wwS, -List.getD_eq_getElem?_getD, -List.drop_drop, i, c1, c3]; rfl) ?_
 rfl
include e in
theorem rPrec_end (d : Int) (c q : Nat) (hc : 1 ≤ c ∧ c ≤ 4) (hq : 1 ≤ q ∧ q ≤ 3) (hd : d = 8 * c + 2 * q) :
 runV E (.loop [0, 3] ref09_Prec_L1) (updT (updT botT 3 (ti .i64 (c : Int))) 0 (ti .i64 d)) = some (.ret, updT botT 2 (ti .i64 (q : Int))) := by
 have i := rPrec_hit e d c q hc hq hd (q - 1) 1 (by omega) (by omega)
 rw [show ((1 : Nat) : Int) = 1 from rfl] at i
 have c1 : (c : Int) ≤ 4 := by omega
 have c3 : c ≤ 4 := by omega
 clear hd
 refine loop_out (by simp (maxSteps := 1000000) (disch := first | omega | (simp only [lnS] <;> omega) | assumption | fail) [ref09_Prec_L1, wwS, -List.getD_eq_getElem?_getD, -List.drop_drop, i, c1, c3]; first | exact ⟨rfl, rfl⟩ | exact rfl) ?_ (by simp)
 rfl
include e in
theorem rPrec_all_hit (d : Int) (q : Nat) (hq : 1 ≤ q ∧ q ≤ 3) : ∀ (m c g : Nat), c + m = g → 1 ≤ c → g ≤ 4 → d = 8 * g + 2 * q →
 runV E (.loop [0, 3] ref09_Prec_L1) (updT (updT botT 3 (ti .i64 (c : Int))) 0 (ti .i64 d)) = some (.ret, updT botT 2 (ti .i64 (q : Int)))
 | 0, c, g, h1, h2, h3, hd => rPrec_end e d c q (by omega) hq (by omega)
 | m + 1, c, g, h1, h2, h3, hd => by
   have ih := rPrec_all_hit d q hq m (c + 1) g (by omega) (by omega) h3 hd
   exact rPrec_next e d c (by omega) (fun q' g1 g2 => by omega) (by simpa using ih)
include e in
theorem rPrec_all_miss (d : Int) (hd : ∀ c q : Nat, 1 ≤ c → c ≤ 4 → 1 ≤ q → q ≤ 3 → ¬ d = 8 * c + 2 * q) : ∀ (m c : Nat), c + m = 5 → 1 ≤ c →
 runV E (.loop [0, 3] ref09_Prec_L1) (updT (updT botT 3 (ti .i64 (c : Int))) 0 (ti .i64 d)) = some (.exit 0, botT)
 | 0, c, h1, h2 => by
   have : c = 5 := by omega
   subst this
   exact rPrec_out e d
 | m + 1, c, h1, h2 => by
   have ih := rPrec_all_miss d hd m (c + 1) (by omega) (by omega)
   exact rPrec_next e d c (by omega) (fun q' g1 g2 => hd c q' (by omega) (by omega) g1 g2) (by simpa using ih)
include e in
theorem ref09_Prec_hit (d : Int) (c q : Nat) (hc : 1 ≤ c ∧ c ≤ 4) (hq : 1 ≤ q ∧ q ≤ 3) (hd : d = 8 * c + 2 * q) : callV E "ref09.Prec" [vi d] [] = some ([ri (q : Int)], [na], []) := by
 have h := rPrec_all_hit e d q hq (c - 1) 1 c (by omega) (by omega) (by omega) hd
 rw [show ((1 : Nat) : Int) = 1 from rfl] at h
 clear hd
 refine callV_fn e.ref09_Prec fun nd hnd => ?_
 simp (maxSteps := 1000000) (disch := first | omega | (simp only [lnS] <;> omega) | assumption | fail) [ref09_Prec_B, wwS, -List.getD_eq_getElem?_getD, -List.drop_drop, h]
include e in
theorem ref09_Prec_miss (d : Int) (hd : ∀ c q : Nat, 1 ≤ c → c ≤ 4 → 1 ≤ q → q ≤ 3 → ¬ d = 8 * c + 2 * q) : callV E "ref09.Prec" [vi d] [] = some ([ri 0], [na], []) := by
 have h := rPrec_all_miss e d hd 4 1 (by omega) (by omega)
 rw [show ((1 : Nat) : Int) = 1 from rfl] at h
 refine callV_fn e.ref09_Prec fun nd hnd => ?_
 simp (maxSteps := 1000000) (disch := first | omega | (simp only [lnS] <;> omega) | assumption | fail) [ref09_Prec_B, wwS, -List.getD_eq_getElem?_getD, -List.drop_drop, h]
include e in
theorem ref09_Prec (d : Nat) (hd : d < 64) : callV E "ref09.Prec" [vi d] [] = some ([ri (prec d : Nat)], [na], []) := by
 unfold prec
 by_cases h : d % 2 = 0 ∧ 8 ≤ d ∧ d < 40
 ·rw [if_pos h]
  by_cases h2 : d % 8 = 0
  ·rw [h2]
   exact ref09_Prec_miss e d (fun c q h1 h2 h3 h4 => by omega)
  ·exact ref09_Prec_hit e d (d / 8) (d % 8 / 2) (by omega) (by omega) (by omega)
 ·rw [if_neg h]
  exact ref09_Prec_miss e d (fun c q h1 h2 h3 h4 => by omega)
include e in
theorem ref09_Prec0 (d : Int) (hd : ¬ (0 ≤ d ∧ d < 64)) : callV E "ref09.Prec" [vi d] [] = some ([ri 0], [na], []) :=
 ref09_Prec_miss e d (fun c q h1 h2 h3 h4 => by omega)
include e in
theorem digit {z : Int} {a : Nat} (hz : z = a) (ha : a < 100) : callV E "ref09.digit" [vi z] [] = some ([rs (sb [48 + a])], [na], []) := by
 obtain ⟨u, hu, hb⟩ := byte1 hz
 rw [show sb [48 + a] = ⟨#[u]⟩ by rw [hu]; rfl]
 refine callV_fn e.ref09_digit fun nd hnd => ?_
 simp (maxSteps := 1000000) (disch := first | omega | (simp only [lnS] <;> omega) | assumption | fail) [ref09_digit_B, wwS, -List.getD_eq_getElem?_getD, -List.drop_drop, hb]
include e in
theorem ref09_Sort (d : Nat) (hd : d < 64) : callV E "ref09.Sort" [vi d] [] = some ([rs (sb (sortB d))], [na], []) := by
 have q0 := ref09_Is e d
 have q1 := ref09_Prec e d hd
 rw [decide_eq_true (by omega)] at q0
 unfold sortB
 by_cases h1 : d % 8 = 0
 ·rw [if_pos h1]
  have c1 : (d : Int) % 8 = 0 := by omega
  refine callV_fn e.ref09_Sort fun nd hnd => ?_
  simp (maxSteps := 1000000) (disch := first | omega | (simp only [lnS] <;> omega) | assumption | fail) [ref09_Sort_B, wwS, -List.getD_eq_getElem?_getD, -List.drop_drop, q0, c1]
  rfl
 ·rw [if_neg h1]
  have c1 : ¬ (d : Int) % 8 = 0 := by omega
  by_cases h2 : 0 < prec d
  ·rw [if_pos h2]
   generalize prec d = p at *
   refine callV_fn e.ref09_Sort fun nd hnd => ?_
   simp (maxSteps := 1000000) (disch := first | omega | (simp only [lnS] <;> omega) | assumption | fail) [ref09_Sort_B, wwS, -List.getD_eq_getElem?_getD, -List.drop_drop, q0, q1, c1, h2]
   rfl
  ·rw [if_neg h2]
   have c2 : prec d = 0 := by omega
   rw [c2] at q1
   have q1 : callV E "ref09.Prec" [vi d] [] = some ([ri 0], [na], []) := q1
   by_cases h3 : d = 46
   ·rw [if_pos h3]
    have c3 : ((d : Int) = 46) = True := eq_true (by omega)
    refine callV_fn e.ref09_Sort fun nd hnd => ?_
    simp (maxSteps := 1000000) (disch := first | omega | (simp only [lnS] <;> omega) | assumption | fail) [ref09_Sort_B, wwS, -List.getD_eq_getElem?_getD, -List.drop_drop, q0, q1, c1, c3]
    rfl
   ·by_cases h4 : d = 44
    ·rw [if_neg h3, if_pos h4]
     have c3 : ¬ (d : Int) = 46 := by omega
     have c4 : ((d : Int) = 44) = True := eq_true (by omega)
     refine callV_fn e.ref09_Sort fun nd hnd => ?_
     simp (maxSteps := 1000000) (disch := first | omega | (simp only [lnS] <;> omega) | assumption | fail) [ref09_Sort_B, wwS, -List.getD_eq_getElem?_getD, -List.drop_drop, q0, q1, c1, c3, c4]
     rfl
    ·by_cases h5 : d = 1
     ·rw [if_neg h3, if_neg h4, if_pos h5]
      have c3 : ¬ (d : Int) = 46 := by omega
      have c4 : ¬ (d : Int) = 44 := by omega
      have c5 : ((d : Int) = 1) = True := eq_true (by omega)
      have c0 : ¬ d = 0 := by omega
      refine callV_fn e.ref09_Sort fun nd hnd => ?_
      simp (maxSteps := 1000000) (disch := first | omega | (simp only [lnS] <;> omega) | assumption | fail) [ref09_Sort_B, wwS, -List.getD_eq_getElem?_getD, -List.drop_drop, q0, q1, c0, c1, c3, c4, c5]
      rfl
     ·rw [if_neg h3, if_neg h4, if_neg h5]
      have c3 : ¬ (d : Int) = 46 := by omega
      have c4 : ¬ (d : Int) = 44 := by omega
      have c5 : ¬ (d : Int) = 1 := by omega
      refine callV_fn e.ref09_Sort fun nd hnd => ?_
      simp (maxSteps := 1000000) (disch := first | omega | (simp only [lnS] <;> omega) | assumption | fail) [ref09_Sort_B, wwS, -List.getD_eq_getElem?_getD, -List.drop_drop, q0, q1, c1, c3, c4, c5]
      rfl
include e in
theorem ref09_Sort0 (d : Int) (hd : ¬ (0 ≤ d ∧ d < 64)) : callV E "ref09.Sort" [vi d] [] = some ([rs ⟨#[]⟩], [na], []) := by
 have q0 := ref09_Is e d
 rw [decide_eq_false hd] at q0
 refine callV_fn e.ref09_Sort fun nd hnd => ?_
 simp (maxSteps := 1000000) (disch := first | omega | (simp only [lnS] <;> omega) | assumption | fail) [ref09_Sort_B, wwS, -List.getD_eq_getElem?_getD, -List.drop_drop, q0]
end
end Go.Wb.P09

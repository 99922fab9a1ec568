/- Chapter 9: names of the document, and which point a name has. -/
import Derived.Test.YtlbekhmgpfbgnaaWbvP09c
set_option maxRecDepth 100000
set_option linter.all false
namespace Go.Wb.P09
open Go Go.Wb Go.Wb.Code Go.Wb.P02
section
variable {E : EnvW} (e : WbvC09Env E) (e2 : WbvC02Env E)
include e e2 in
theorem ref09_Name (d : Nat) (hd : d < 64) : callV E "ref09.Name" [vi d] [] = some ([rs (sb (nameB d))], [na], []) := by
 have q := ref09_Sort e d hd
 have q1 := ref09_Prec e d hd
 have hp := prec_lt (d := d)
 unfold sortB at q
 unfold nameB
 by_cases h1 : d % 8 = 0
 ·rw [if_pos h1] at q ⊢
  have q : callV E "ref09.Sort" [vi d] [] = some ([rs ⟨#[99, 108, 97, 115, 115]⟩], [na], []) := q
  have q2 := digit e (z := (d : Int) / 8) (a := d / 8) (by omega) (by omega)
  have g := cs_app [48 + d / 8]
  have g2 := sz2 99 115
  refine callV_fn e.ref09_Name fun nd hnd => ?_
  simp (maxSteps := 1000000) (disch := first | omega | (simp only [lnS] <;> omega) | assumption | fail) [ref09_Name_B, wwS, -List.getD_eq_getElem?_getD, -List.drop_drop, q, q2, g, g2, ByteArray.toList_eq]
 ·rw [if_neg h1] at q ⊢
  by_cases h2 : 0 < prec d
  ·rw [if_pos h2] at q ⊢
   have q : callV E "ref09.Sort" [vi d] [] = some ([rs ⟨#[97, 115, 115, 117, 114, 101, 100]⟩], [na], []) := q
   have q2 := digit e (z := (d : Int) / 8) (a := d / 8) (by omega) (by omega)
   have q3 := digit e (z := (prec d : Int)) (a := prec d) rfl (by omega)
   have g := af_app [48 + d / 8]
   have g2 := sz2 97 102
   generalize prec d = p at *
   have g3 : sb [97, 102, 48 + d / 8] ++ sb [48 + p] = sb [97, 102, 48 + d / 8, 48 + p] := sb_app
   refine callV_fn e.ref09_Name fun nd hnd => ?_
   simp (maxSteps := 1000000) (disch := first | omega | (simp only [lnS] <;> omega) | assumption | fail) [ref09_Name_B, wwS, -List.getD_eq_getElem?_getD, -List.drop_drop, q, q1, q2, q3, g, g2, g3, ByteArray.toList_eq]
  ·rw [if_neg h2] at q ⊢
   by_cases h3 : d = 46
   ·rw [if_pos h3] at q ⊢
    have q : callV E "ref09.Sort" [vi d] [] = some ([rs ⟨#[101, 120, 112, 101, 100, 105, 116, 101, 100]⟩], [na], []) := q
    refine callV_fn e.ref09_Name fun nd hnd => ?_
    simp (maxSteps := 1000000) (disch := first | omega | (simp only [lnS] <;> omega) | assumption | fail) [ref09_Name_B, wwS, -List.getD_eq_getElem?_getD, -List.drop_drop, q, ByteArray.toList_eq]
    rfl
   ·rw [if_neg h3] at q ⊢
    by_cases h4 : d = 44
    ·rw [if_pos h4] at q ⊢
     have q : callV E "ref09.Sort" [vi d] [] = some ([rs ⟨#[118, 111, 105, 99, 101]⟩], [na], []) := q
     refine callV_fn e.ref09_Name fun nd hnd => ?_
     simp (maxSteps := 1000000) (disch := first | omega | (simp only [lnS] <;> omega) | assumption | fail) [ref09_Name_B, wwS, -List.getD_eq_getElem?_getD, -List.drop_drop, q, ByteArray.toList_eq]
     rfl
    ·rw [if_neg h4] at q ⊢
     by_cases h5 : d = 1
     ·rw [if_pos h5] at q ⊢
      have q : callV E "ref09.Sort" [vi d] [] = some ([rs ⟨#[108, 111, 119, 101, 114]⟩], [na], []) := q
      refine callV_fn e.ref09_Name fun nd hnd => ?_
      simp (maxSteps := 1000000) (disch := first | omega | (simp only [lnS] <;> omega) | assumption | fail) [ref09_Name_B, wwS, -List.getD_eq_getElem?_getD, -List.drop_drop, q, ByteArray.toList_eq]
      rfl
     ·rw [if_neg h5] at q ⊢
      have q : callV E "ref09.Sort" [vi d] [] = some ([rs ⟨#[111, 116, 104, 101, 114]⟩], [na], []) := q
      have q4 := ref02_Text e2 0 d (by decide) (by omega)
      rw [show nv 0 d = d by simp [nv]] at q4
      have q4 : callV E "ref02.Text" [.v (wA 0 d)] [] = some ([rs (sb (txt 2 d).reverse)], [na], []) := q4
      generalize (txt 2 d).reverse = T at *
      refine callV_fn e.ref09_Name fun nd hnd => ?_
      simp (maxSteps := 1000000) (disch := first | omega | (simp only [lnS] <;> omega) | assumption | fail) [ref09_Name_B, wwS, -List.getD_eq_getElem?_getD, -List.drop_drop, q, q4, ByteArray.toList_eq]
include e in
theorem ref09_Name0 (d : Int) (hd : ¬ (0 ≤ d ∧ d < 64)) : callV E "ref09.Name" [vi d] [] = some ([rs ⟨#[]⟩], [na], []) := by
 have q := ref09_Sort0 e d hd
 refine callV_fn e.ref09_Name fun nd hnd => ?_
 simp (maxSteps := 1000000) (disch := first | omega | (simp only [lnS] <;> omega) | assumption | fail) [ref09_Name_B, wwS, -List.getD_eq_getElem?_getD, -List.drop_drop, q, ByteArray.toList_eq]
def dnum : List Nat → Nat → Option Nat
 | [], a => some a
 | x :: l, a => if 48 ≤ x ∧ x ≤ 57 then dnum l (a * 10 + (x - 48)) else none
def numG (most : Nat) (s : List Nat) : Option Nat :=
 if s = [] ∨ most < s.length ∨ (1 < s.length ∧ s.getD 0 0 = 48) then none else dnum s 0
def findN : Nat → Nat → List Nat → Option Nat
 | 0, _, _ => none
 | m + 1, d, s => if nameB d = s then some d else findN m (d + 1) s
def parseS (s : List Nat) : Nat × Int :=
 match findN 64 0 s with
 | some d => (d, 0)
 | none => match numG 2 s with
   | none => (0, 3)
   | some n => if n < 64 then (n, 0) else (0, 14)
theorem digs256 : ∀ {k r : Nat}, All256 (digs k r)
 | 0, _ => by intro x hx; cases hx
 | k + 1, r => by
   intro x hx
   rw [digs] at hx
   cases hx with
   | head => omega
   | tail _ hx => exact digs256 x hx
theorem lastd256 : ∀ {k r : Nat}, All256 (lastd k r)
 | 0, _ => by intro x hx; cases hx
 | k + 1, r => by
   intro x hx
   rw [lastd] at hx
   split at hx
   ·cases hx
   ·cases hx with
    | head => omega
    | tail _ hx => exact lastd256 x hx
theorem txt256 : ∀ {f N : Nat}, All256 (txt f N)
 | 0, N => by
   intro x hx
   rw [txt] at hx
   cases hx with
   | head => omega
   | tail _ hx => exact lastd256 x hx
 | f + 1, N => by
   intro x hx
   rw [txt] at hx
   split at hx
   ·cases hx with
    | head => omega
    | tail _ hx => exact lastd256 x hx
   ·rcases List.mem_append.1 hx with hx | hx
    ·exact digs256 x hx
    ·exact txt256 x hx
theorem name256 {d : Nat} (hd : d < 64) : All256 (nameB d) := by
 have hp := prec_lt (d := d)
 intro x hx
 unfold nameB at hx
 split at hx
 ·simp at hx; omega
 ·split at hx
  ·simp at hx; omega
  ·split at hx
   ·simp at hx; omega
   ·split at hx
    ·simp at hx; omega
    ·split at hx
     ·simp at hx; omega
     ·exact txt256 x (List.mem_reverse.1 hx)
theorem name_eq {d : Nat} (hd : d < 64) {s : List Nat} (hs : All256 s) : ((sb (nameB d)).toList == (sb s).toList) = decide (nameB d = s) := by
 rw [str_beq]
 exact decide_eq_decide.2 (sb_inj (name256 hd) hs)
include e e2 in
theorem parse_hit {s : List Nat} (hs : All256 s) : ∀ (m k g : Nat), k + m = 64 → findN m k s = some g →
 runV E (.loop [0, 7] point_Parse_L0) (updT (updT botT 7 (ti .i64 (k : Int))) 0 (ts (sb s))) = some (.ret, updT (updT botT 3 (ti .i64 0)) 2 (ti .i64 (g : Int)))
 | 0, k, g, h1, h2 => by cases h2
 | m + 1, k, g, h1, h2 => by
   have q := point_Name e e2 k (by omega)
   have heq := name_eq (d := k) (by omega) hs
   have c1 : (k : Int) < 64 := by omega
   have c3 : k < 64 := by omega
   rw [findN] at h2
   by_cases hn : nameB k = s
   ·rw [if_pos hn] at h2
    injection h2 with h2
    subst h2
    rw [decide_eq_true hn] at heq
    generalize sb (nameB k) = N at *
    refine loop_out (by simp (maxSteps := 1000000) (disch := first | omega | (simp only [lnS] <;> omega) | assumption | fail) [point_Parse_L0, wwS, -List.getD_eq_getElem?_getD, -List.drop_drop, q, heq, c1, c3]; first | exact ⟨rfl, rfl⟩ | exact rfl) ?_ (by simp)
    rfl
   ·rw [if_neg hn] at h2
    rw [decide_eq_false hn] at heq
    have ih := parse_hit hs m (k + 1) g (by omega) h2
    generalize sb (nameB k) = N at *
    refine loop_go (by simp (maxSteps := 1000000) (disch := first | omega | (simp only [lnS] <;> omega) | assumption | fail) [point_Parse_L0, wwS, -List.getD_eq_getElem?_getD, -List.drop_drop, q, heq, c1, c3]; rfl) ?_
    exact ih
include e e2 in
theorem parse_miss {s : List Nat} (hs : All256 s) : ∀ (m k : Nat), k + m = 64 → findN m k s = none →
 runV E (.loop [0, 7] point_Parse_L0) (updT (updT botT 7 (ti .i64 (k : Int))) 0 (ts (sb s))) = some (.exit 0, updT botT 0 (ts (sb s)))
 | 0, k, h1, h2 => by
   have c1 : ¬ (k : Int) < 64 := by omega
   have c3 : ¬ k < 64 := by omega
   refine loop_out (by simp (maxSteps := 1000000) (disch := first | omega | (simp only [lnS] <;> omega) | assumption | fail) [point_Parse_L0, wwS, -List.getD_eq_getElem?_getD, -List.drop_drop, c1, c3]; first | exact ⟨rfl, rfl⟩ | exact rfl) ?_ (by simp)
   rfl
 | m + 1, k, h1, h2 => by
   have q := point_Name e e2 k (by omega)
   have heq := name_eq (d := k) (by omega) hs
   have c1 : (k : Int) < 64 := by omega
   have c3 : k < 64 := by omega
   rw [findN] at h2
   by_cases hn : nameB k = s
   ·rw [if_pos hn] at h2
    cases h2
   ·rw [if_neg hn] at h2
    rw [decide_eq_false hn] at heq
    have ih := parse_miss hs m (k + 1) (by omega) h2
    generalize sb (nameB k) = N at *
    refine loop_go (by simp (maxSteps := 1000000) (disch := first | omega | (simp only [lnS] <;> omega) | assumption | fail) [point_Parse_L0, wwS, -List.getD_eq_getElem?_getD, -List.drop_drop, q, heq, c1, c3]; rfl) ?_
    exact ih
include e e2 in
theorem rparse_hit {s : List Nat} (hs : All256 s) : ∀ (m k g : Nat), k + m = 64 → findN m k s = some g →
 runV E (.loop [0, 4] ref09_Parse_L0) (updT (updT botT 4 (ti .i64 (k : Int))) 0 (ts (sb s))) = some (.ret, updT (updT botT 3 (ti .i64 0)) 2 (ti .i64 (g : Int)))
 | 0, k, g, h1, h2 => by cases h2
 | m + 1, k, g, h1, h2 => by
   have q := ref09_Name e e2 k (by omega)
   have heq := name_eq (d := k) (by omega) hs
   have c1 : (k : Int) < 64 := by omega
   have c3 : k < 64 := by omega
   rw [findN] at h2
   by_cases hn : nameB k = s
   ·rw [if_pos hn] at h2
    injection h2 with h2
    subst h2
    rw [decide_eq_true hn] at heq
    generalize sb (nameB k) = N at *
    refine loop_out (by simp (maxSteps := 1000000) (disch := first | omega | (simp only [lnS] <;> omega) | assumption | fail) [ref09_Parse_L0, wwS, -List.getD_eq_getElem?_getD, -List.drop_drop, q, heq, c1, c3]; first | exact ⟨rfl, rfl⟩ | exact rfl) ?_ (by simp)
    rfl
   ·rw [if_neg hn] at h2
    rw [decide_eq_false hn] at heq
    have ih := rparse_hit hs m (k + 1) g (by omega) h2
    generalize sb (nameB k) = N at *
    refine loop_go (by simp (maxSteps := 1000000) (disch := first | omega | (simp only [lnS] <;> omega) | assumption | fail) [ref09_Parse_L0, wwS, -List.getD_eq_getElem?_getD, -List.drop_drop, q, heq, c1, c3]; rfl) ?_
    exact ih
include e e2 in
theorem rparse_miss {s : List Nat} (hs : All256 s) : ∀ (m k : Nat), k + m = 64 → findN m k s = none →
 runV E (.loop [0, 4] ref09_Parse_L0) (updT (updT botT 4 (ti .i64 (k : Int))) 0 (ts (sb s))) = some (.exit 0, updT botT 0 (ts (sb s)))
 | 0, k, h1, h2 => by
   have c1 : ¬ (k : Int) < 64 := by omega
   have c3 : ¬ k < 64 := by omega
   refine loop_out (by simp (maxSteps := 1000000) (disch := first | omega | (simp only [lnS] <;> omega) | assumption | fail) [ref09_Parse_L0, wwS, -List.getD_eq_getElem?_getD, -List.drop_drop, c1, c3]; first | exact ⟨rfl, rfl⟩ | exact rfl) ?_ (by simp)
   rfl
 | m + 1, k, h1, h2 => by
   have q := ref09_Name e e2 k (by omega)
   have heq := name_eq (d := k) (by omega) hs
   have c1 : (k : Int) < 64 := by omega
   have c3 : k < 64 := by omega
   rw [findN] at h2
   by_cases hn : nameB k = s
   ·rw [if_pos hn] at h2
    cases h2
   ·rw [if_neg hn] at h2
    rw [decide_eq_false hn] at heq
    have ih := rparse_miss hs m (k + 1) (by omega) h2
    generalize sb (nameB k) = N at *
    refine loop_go (by simp (maxSteps := 1000000) (disch := first | omega | (simp only [lnS] <;> omega) | assumption | fail) [ref09_Parse_L0, wwS, -List.getD_eq_getElem?_getD, -List.drop_drop, q, heq, c1, c3]; rfl) ?_
    exact ih
end
end Go.Wb.P09

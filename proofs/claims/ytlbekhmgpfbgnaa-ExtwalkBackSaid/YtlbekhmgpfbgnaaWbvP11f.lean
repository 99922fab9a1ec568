/- Chapter 11: the document's way over extension headers. -/
import Derived.Test.YtlbekhmgpfbgnaaWbvP11e
set_option maxRecDepth 100000
set_option linter.all false
namespace Go.Wb.P11
open Go Go.Wb Go.Wb.Code Go.Wb.P01
abbrev stV (k : Int) (a n : Nat) : List PV := [.sc (.int .i64 (a : Int)), .sc (.int .i64 k), .sc (.int .i64 (n : Int))]
def stC (l : List (Int × Nat × Nat)) : List PV := (l.map fun p => stV p.1 p.2.1 p.2.2).flatten
theorem stC_len : ∀ {l : List (Int × Nat × Nat)}, (stC l).length = l.length * 3
 | [] => rfl
 | p :: l => by
   have := stC_len (l := l)
   unfold stC at *
   simp only [List.map_cons, List.flatten_cons, List.length_append, List.length_cons, List.length_nil] at *
   omega
theorem stC_add {l : List (Int × Nat × Nat)} {k : Int} {a n : Nat} : stC (l ++ [(k, a, n)]) = stC l ++ stV k a n := by
 unfold stC
 simp
theorem st_at : ∀ {l : List (Int × Nat × Nat)} {i : Nat} {p : Int × Nat × Nat}, l[i]? = some p → List.take 3 (List.drop (i * 3) (stC l)) = stV p.1 p.2.1 p.2.2
 | [], i, p, h => by cases h
 | q :: l, 0, p, h => by
   simp at h
   subst h
   unfold stC
   simp
 | q :: l, i + 1, p, h => by
   have ih := st_at (l := l) (i := i) (p := p) (by simpa using h)
   have e : stC (q :: l) = stV q.1 q.2.1 q.2.2 ++ stC l := by unfold stC; simp
   rw [e, show (i + 1) * 3 = 3 + i * 3 by omega, ← List.drop_drop]
   exact ih
theorem cell_of {C : List PV} {i : Nat} {x y z : PV} (h : List.take 3 (List.drop (i * 3) C) = [x, y, z]) : cellP C (i * 3) = some x ∧ cellP C (i * 3 + 1) = some y ∧ cellP C (i * 3 + 2) = some z := by
 have g : ∀ j, j < 3 → (List.take 3 (List.drop (i * 3) C))[j]? = C[i * 3 + j]? := by
  intro j hj
  rw [List.getElem?_take, if_pos hj, List.getElem?_drop]
 refine ⟨?_, ?_, ?_⟩
 ·have := g 0 (by decide); rw [h] at this; exact this.symm
 ·have := g 1 (by decide); rw [h] at this; exact this.symm
 ·have := g 2 (by decide); rw [h] at this; exact this.symm
def firstX : List (Int × Nat × Nat) → Nat → Int
 | [], _ => -1
 | p :: l, i => if p.1 = 44 then i else firstX l (i + 1)
section
variable {E : EnvW} (e : WbvC11Env E)
theorem first_loop (L : List (Int × Nat × Nat)) (hL : L.length ≤ 9) : ∀ (m i : Nat), i + m = L.length →
 runV E (.loop [0, 3] ref11_first_L0) (updT (updT botT 3 (ti .i64 (i : Int))) 0 (.val (.sl L.length (stC L)))) =
  if firstX (L.drop i) i = -1 then some (.exit 0, botT) else some (.ret, updT botT 2 (ti .i64 (firstX (L.drop i) i)))
 | 0, i, hm => by
   have hi : i = L.length := by omega
   subst hi
   rw [List.drop_length, firstX, if_pos rfl]
   have c1 : ¬ (L.length : Int) < L.length := by omega
   have hc := stC_len (l := L)
   generalize stC L = C at *
   refine loop_out (by simp (maxSteps := 1000000) (disch := first | omega | (simp only [lnS] <;> omega) | assumption | fail) [ref11_first_L0, wwS, -List.getD_eq_getElem?_getD, -List.drop_drop, c1]; first | exact ⟨rfl, rfl⟩ | exact rfl) ?_ (by simp)
   rfl
 | m + 1, i, hm => by
   have hi : i < L.length := by omega
   have hp : L[i]? = some L[i] := List.getElem?_eq_getElem hi
   have hd := st_at hp
   obtain ⟨h0, h1, h2⟩ := cell_of hd
   have ih := first_loop L hL m (i + 1) (by omega)
   have hc := stC_len (l := L)
   rw [List.drop_eq_getElem_cons hi, firstX]
   have c1 : (i : Int) < L.length := by omega
   have c2 : i * 3 + 3 ≤ L.length * 3 := by omega
   generalize firstX (L.drop (i + 1)) (i + 1) = f at *
   generalize stC L = C at *
   generalize L[i] = p at *
   obtain ⟨pk, pa, pn⟩ := p
   simp only at *
   by_cases hk : pk = 44
   ·subst hk
    rw [if_pos rfl, if_neg (by omega)]
    refine loop_out (by simp (maxSteps := 1000000) (disch := first | omega | (simp only [lnS] <;> omega) | assumption | fail) [ref11_first_L0, wwS, -List.getD_eq_getElem?_getD, -List.drop_drop, c1, c2, hc, hi, h1]; first | exact ⟨rfl, rfl⟩ | exact rfl) ?_ (by simp)
    rfl
   ·rw [if_neg hk]
    refine loop_go (by simp (maxSteps := 1000000) (disch := first | omega | (simp only [lnS] <;> omega) | assumption | fail) [ref11_first_L0, wwS, -List.getD_eq_getElem?_getD, -List.drop_drop, c1, c2, hc, hi, h1, hk]; rfl) ?_
    exact ih
include e in
theorem ref11_first (L : List (Int × Nat × Nat)) (hL : L.length ≤ 9) : callV E "ref11.first" [.v (.sl L.length (stC L))] [] = some ([ri (firstX L 0)], [na], []) := by
 have h := first_loop (E := E) L hL L.length 0 (by omega)
 rw [show ((0 : Nat) : Int) = 0 from rfl, List.drop_zero] at h
 generalize stC L = C at *
 generalize firstX L 0 = f at *
 by_cases hf : f = -1
 ·rw [if_pos hf] at h
  subst hf
  refine callV_fn e.ref11_first fun nd hnd => ?_
  simp (maxSteps := 1000000) (disch := first | omega | (simp only [lnS] <;> omega) | assumption | fail) [ref11_first_B, wwS, -List.getD_eq_getElem?_getD, -List.drop_drop, h]
 ·rw [if_neg hf] at h
  refine callV_fn e.ref11_first fun nd hnd => ?_
  simp (maxSteps := 1000000) (disch := first | omega | (simp only [lnS] <;> omega) | assumption | fail) [ref11_first_B, wwS, -List.getD_eq_getElem?_getD, -List.drop_drop, h]
abbrev wyT (B : List Nat) (k : Int) (a N : Nat) (C : List PV) : TT := updT (updT (updT (updT botT 9 (ti .i64 (a : Int))) 8 (.own N 3 C)) 1 (.val (.sl B.length (bp B)))) 0 (ti .i64 k)
abbrev wyR (k : Int) (N : Nat) (C : List PV) (cut many : Bool) : TT := updT (updT (updT (updT botT 7 (tb many)) 6 (tb cut)) 5 (ti .i64 k)) 4 (.own N 3 C)
theorem way_end {B : List Nat} {C : List PV} {N a : Nat} {k : Int} (q : callV E "ref11.Is" [vi k] [] = some ([rB false], [na], [])) :
 runV E (.loop [0, 1, 8, 9] ref11_way_L0) (wyT B k a N C) = some (.exit 0, updT (updT botT 8 (.own N 3 C)) 0 (ti .i64 k)) := by
 refine loop_out (by simp (maxSteps := 1000000) (disch := first | omega | (simp only [lnS] <;> omega) | assumption | fail) [ref11_way_L0, wwS, -List.getD_eq_getElem?_getD, -List.drop_drop, q]; first | exact ⟨rfl, rfl⟩ | exact rfl) ?_ (by simp)
 rfl
theorem way_many {B : List Nat} {C : List PV} {a : Nat} {k : Int} (q : callV E "ref11.Is" [vi k] [] = some ([rB true], [na], [])) :
 runV E (.loop [0, 1, 8, 9] ref11_way_L0) (wyT B k a 8 C) = some (.ret, wyR k 8 C false true) := by
 refine loop_out (by simp (maxSteps := 1000000) (disch := first | omega | (simp only [lnS] <;> omega) | assumption | fail) [ref11_way_L0, wwS, -List.getD_eq_getElem?_getD, -List.drop_drop, ref11_way_K0, ref11_way_K1, ref11_way_K2, ref11_way_K3, ref11_way_K4, ref11_way_K5, ref11_way_K6, ref11_way_K7, q]; first | exact ⟨rfl, rfl⟩ | exact rfl) ?_ (by simp)
 rfl
theorem way_cut {B : List Nat} {C : List PV} {N a : Nat} {k : Int} (hB : B.length ≤ room) (ha : a ≤ B.length) (hN : N < 8) (q : callV E "ref11.Is" [vi k] [] = some ([rB true], [na], []))
 (q2 : callV E "ref11.Size" [vi k, .v (.sl (B.length - a) (bp (B.drop a)))] [] = some ([ri 0, rB false], [na, na], [])) :
 runV E (.loop [0, 1, 8, 9] ref11_way_L0) (wyT B k a N C) = some (.ret, wyR k N C true false) := by
 unfold room at hB
 have hN8 : ¬ (N : Int) = 8 := by omega
 refine loop_out (by simp (maxSteps := 1000000) (disch := first | omega | (simp only [lnS] <;> omega) | assumption | fail) [ref11_way_L0, wwS, -List.getD_eq_getElem?_getD, -List.drop_drop, ref11_way_K0, ref11_way_K1, ref11_way_K2, ref11_way_K3, ref11_way_K4, ref11_way_K5, ref11_way_K6, ref11_way_K7, q, q2, hN8]; first | exact ⟨rfl, rfl⟩ | exact rfl) ?_ (by simp)
 rfl
theorem way_next {B : List Nat} {C : List PV} {N a n x : Nat} {k : Int} {R} (hB : B.length ≤ room) (hC : C.length = N * 3) (hN : N < 8) (hn : 4 ≤ n) (han : a + n ≤ B.length) (hx : B.getD a 0 = x) (hx2 : x < 256)
 (q : callV E "ref11.Is" [vi k] [] = some ([rB true], [na], []))
 (q2 : callV E "ref11.Size" [vi k, .v (.sl (B.length - a) (bp (B.drop a)))] [] = some ([ri (n : Int), rB true], [na, na], [])) (hk : ¬ k = 44)
 (h : runV E (.loop [0, 1, 8, 9] ref11_way_L0) (wyT B x (a + n) (N + 1) (C ++ stV k a n)) = R) :
 runV E (.loop [0, 1, 8, 9] ref11_way_L0) (wyT B k a N C) = R := by
 unfold room at hB
 have hN8 : ¬ (N : Int) = 8 := by omega
 subst h
 refine loop_go (by simp (maxSteps := 1000000) (disch := first | omega | (simp only [lnS] <;> omega) | assumption | fail) [ref11_way_L0, wwS, -List.getD_eq_getElem?_getD, -List.drop_drop, ref11_way_K0, ref11_way_K1, ref11_way_K2, ref11_way_K3, ref11_way_K4, ref11_way_K5, ref11_way_K6, ref11_way_K7, q, q2, hC, hN8, hx, hk]; rfl) ?_
 rfl
theorem way_frag {B : List Nat} {C : List PV} {N a n x y z : Nat} {R} (hB : B.length ≤ room) (hC : C.length = N * 3) (hN : N < 8) (hn : 4 ≤ n) (han : a + n ≤ B.length) (hx : B.getD a 0 = x) (hx2 : x < 256) (hy : B.getD (a + 2) 0 = y) (hy2 : y < 256) (hz : B.getD (a + 3) 0 = z) (hz2 : z < 256)
 (q : callV E "ref11.Is" [vi 44] [] = some ([rB true], [na], []))
 (q2 : callV E "ref11.Size" [vi 44, .v (.sl (B.length - a) (bp (B.drop a)))] [] = some ([ri (n : Int), rB true], [na, na], [])) (ho : y * 256 + z < 8)
 (h : runV E (.loop [0, 1, 8, 9] ref11_way_L0) (wyT B x (a + n) (N + 1) (C ++ stV 44 a n)) = R) :
 runV E (.loop [0, 1, 8, 9] ref11_way_L0) (wyT B 44 a N C) = R := by
 unfold room at hB
 have hN8 : ¬ (N : Int) = 8 := by omega
 have hy' : B.getD ((a : Int) + 2).toNat 0 = y := by rw [show ((a : Int) + 2).toNat = a + 2 by omega]; exact hy
 have hz' : B.getD ((a : Int) + 3).toNat 0 = z := by rw [show ((a : Int) + 3).toNat = a + 3 by omega]; exact hz
 have ho2 : ¬ 8 ≤ (y : Int) * 256 + z := by omega
 subst h
 refine loop_go (by simp (maxSteps := 1000000) (disch := first | omega | (simp only [lnS] <;> omega) | assumption | fail) [ref11_way_L0, wwS, -List.getD_eq_getElem?_getD, -List.drop_drop, ref11_way_K0, ref11_way_K1, ref11_way_K2, ref11_way_K3, ref11_way_K4, ref11_way_K5, ref11_way_K6, ref11_way_K7, q, q2, hC, hN8, hx, hy', hz', ho2]; rfl) ?_
 rfl
theorem way_again {B : List Nat} {C : List PV} {N a n x y z : Nat} {f : Int} {R} (hB : B.length ≤ room) (hC : C.length = N * 3) (hN : N < 8) (hn : 4 ≤ n) (han : a + n ≤ B.length) (hx : B.getD a 0 = x) (hx2 : x < 256) (hy : B.getD (a + 2) 0 = y) (hy2 : y < 256) (hz : B.getD (a + 3) 0 = z) (hz2 : z < 256)
 (q : callV E "ref11.Is" [vi 44] [] = some ([rB true], [na], []))
 (q2 : callV E "ref11.Size" [vi 44, .v (.sl (B.length - a) (bp (B.drop a)))] [] = some ([ri (n : Int), rB true], [na, na], [])) (q3 : callV E "ref11.first" [.v (.sl (N + 1) (C ++ stV 44 a n))] [] = some ([ri f], [na], [])) (ho : 8 ≤ y * 256 + z) (hf : ¬ f = N)
 (h : runV E (.loop [0, 1, 8, 9] ref11_way_L0) (wyT B x (a + n) (N + 1) (C ++ stV 44 a n)) = R) :
 runV E (.loop [0, 1, 8, 9] ref11_way_L0) (wyT B 44 a N C) = R := by
 unfold room at hB
 have hN8 : ¬ (N : Int) = 8 := by omega
 have hy' : B.getD ((a : Int) + 2).toNat 0 = y := by rw [show ((a : Int) + 2).toNat = a + 2 by omega]; exact hy
 have hz' : B.getD ((a : Int) + 3).toNat 0 = z := by rw [show ((a : Int) + 3).toNat = a + 3 by omega]; exact hz
 have ho2 : 8 ≤ (y : Int) * 256 + z := by omega
 subst h
 refine loop_go (by simp (maxSteps := 1000000) (disch := first | omega | (simp only [lnS] <;> omega) | assumption | fail) [ref11_way_L0, wwS, -List.getD_eq_getElem?_getD, -List.drop_drop, ref11_way_K0, ref11_way_K1, ref11_way_K2, ref11_way_K3, ref11_way_K4, ref11_way_K5, ref11_way_K6, ref11_way_K7, q, q2, hC, hN8, hx, hy', hz', ho2, q3, hf]; rfl) ?_
 rfl
theorem way_later {B : List Nat} {C : List PV} {N a n x y z : Nat} (hB : B.length ≤ room) (hC : C.length = N * 3) (hN : N < 8) (hn : 4 ≤ n) (han : a + n ≤ B.length) (hx : B.getD a 0 = x) (hx2 : x < 256) (hy : B.getD (a + 2) 0 = y) (hy2 : y < 256) (hz : B.getD (a + 3) 0 = z) (hz2 : z < 256)
 (q : callV E "ref11.Is" [vi 44] [] = some ([rB true], [na], []))
 (q2 : callV E "ref11.Size" [vi 44, .v (.sl (B.length - a) (bp (B.drop a)))] [] = some ([ri (n : Int), rB true], [na, na], [])) (q3 : callV E "ref11.first" [.v (.sl (N + 1) (C ++ stV 44 a n))] [] = some ([ri (N : Int)], [na], [])) (ho : 8 ≤ y * 256 + z) :
 runV E (.loop [0, 1, 8, 9] ref11_way_L0) (wyT B 44 a N C) = some (.ret, wyR x (N + 1) (C ++ stV 44 a n) false false) := by
 unfold room at hB
 have hN8 : ¬ (N : Int) = 8 := by omega
 have hy' : B.getD ((a : Int) + 2).toNat 0 = y := by rw [show ((a : Int) + 2).toNat = a + 2 by omega]; exact hy
 have hz' : B.getD ((a : Int) + 3).toNat 0 = z := by rw [show ((a : Int) + 3).toNat = a + 3 by omega]; exact hz
 have ho2 : 8 ≤ (y : Int) * 256 + z := by omega
 refine loop_out (by simp (maxSteps := 1000000) (disch := first | omega | (simp only [lnS] <;> omega) | assumption | fail) [ref11_way_L0, wwS, -List.getD_eq_getElem?_getD, -List.drop_drop, ref11_way_K0, ref11_way_K1, ref11_way_K2, ref11_way_K3, ref11_way_K4, ref11_way_K5, ref11_way_K6, ref11_way_K7, q, q2, hC, hN8, hx, hy', hz', ho2, q3]; first | exact ⟨rfl, rfl⟩ | exact rfl) ?_ (by simp)
 rfl
end
end Go.Wb.P11

/- Chapter 11: what extension headers come to, in the document: the end. -/
import Derived.Test.YtlbekhmgpfbgnaaWbvP11h
set_option maxRecDepth 100000
set_option linter.all false
namespace Go.Wb.P11
open Go Go.Wb Go.Wb.Code Go.Wb.P01
section
variable {E : EnvW} (e : WbvC11Env E)
theorem rgo_none {B : List Nat} {N : Nat} {C : List PV} {cut many hp tw : Bool} {a b c d g : Int} {R} (q : callV E "ref11.first" [.v (.sl N C)] [] = some ([ri (-1)], [na], []))
 (h : ex E [.c ref11_Go_K8] (updT (updT (updT (updT (updT (updT (updT botT 13 (tb false)) 12 (tb tw)) 11 (tb hp)) 10 (gw a b c d g)) 9 (tb many)) 8 (tb cut)) 4 (gw 0 0 0 0 0)) = R) :
 ex E [.c ref11_Go_K9] (gT B N C cut many (gw a b c d g) hp tw false) = R := by
 subst h
 unfold ref11_Go_K9
 simp (maxSteps := 1000000) (disch := first | omega | (simp only [lnS] <;> omega) | assumption | fail) [wwS, -List.getD_eq_getElem?_getD, -List.drop_drop, ref11_Go_K6, q]
theorem rgo_later {B : List Nat} {N i pa y z o : Nat} {C : List PV} {cut many hp tw en : Bool} {a b g : Int} {R} (hB : B.length ≤ room) (hC : C.length = N * 3) (hN : N ≤ 8) (hi : i < N) (hpa : pa + 4 ≤ B.length) (h8 : 0 < o / 8)
 (h0 : cellP C (i * 3) = some (.sc (.int .i64 (pa : Int)))) (q : callV E "ref11.first" [.v (.sl N C)] [] = some ([ri (i : Int)], [na], []))
 (hy : B.getD (pa + 2) 0 = y) (hz : B.getD (pa + 3) 0 = z) (hy2 : y < 256) (hz2 : z < 256) (ho : y * 256 + z = o)
 (he : decide (65535 < 8 * ((o : Int) / 8) + B.length - pa - 8) = en)
 (h : ex E [.c ref11_Go_K8] (updT (updT (updT (updT (updT (updT (updT botT 13 (tb en)) 12 (tb tw)) 11 (tb hp)) 10 (gw a b 2 ((o : Int) / 8) g)) 9 (tb many)) 8 (tb cut)) 4 (gw 0 0 0 0 0)) = R) :
 ex E [.c ref11_Go_K9] (gT B N C cut many (gw a b 0 0 g) hp tw false) = R := by
 unfold room at hB
 have c1 : i * 3 + 3 ≤ N * 3 := by omega
 have hy' : B.getD ((pa : Int) + 2).toNat 0 = y := by rw [show ((pa : Int) + 2).toNat = pa + 2 by omega]; exact hy
 have hz' : B.getD ((pa : Int) + 3).toNat 0 = z := by rw [show ((pa : Int) + 3).toNat = pa + 3 by omega]; exact hz
 have ho' : (y : Int) * 256 + z = (o : Int) := by omega
 have ho2 : o < 65536 := by omega
 have c3 : 0 < (o : Int) / 8 := by omega
 subst h
 unfold ref11_Go_K9
 simp (maxSteps := 1000000) (disch := first | omega | (simp only [lnS] <;> omega) | assumption | fail) [wwS, -List.getD_eq_getElem?_getD, -List.drop_drop, ref11_Go_K6, ref11_Go_K5, ref11_Go_K4, ref11_Go_K3, hC, hi, c1, h0, q, hy', hz', ho', he, c3]
theorem rgo_first {B : List Nat} {N i pa y z o : Nat} {C : List PV} {cut many hp tw en : Bool} {a b g : Int} {R} (hB : B.length ≤ room) (hC : C.length = N * 3) (hN : N ≤ 8) (hi : i < N) (hpa : pa + 4 ≤ B.length) (h8 : o / 8 = 0) (h2 : ¬ o % 2 = 0)
 (h0 : cellP C (i * 3) = some (.sc (.int .i64 (pa : Int)))) (q : callV E "ref11.first" [.v (.sl N C)] [] = some ([ri (i : Int)], [na], []))
 (hy : B.getD (pa + 2) 0 = y) (hz : B.getD (pa + 3) 0 = z) (hy2 : y < 256) (hz2 : z < 256) (ho : y * 256 + z = o)
 (he : decide (65535 < 8 * ((o : Int) / 8) + B.length - pa - 8) = en)
 (h : ex E [.c ref11_Go_K8] (updT (updT (updT (updT (updT (updT (updT botT 13 (tb en)) 12 (tb tw)) 11 (tb hp)) 10 (gw a b 1 ((o : Int) / 8) g)) 9 (tb many)) 8 (tb cut)) 4 (gw 0 0 0 0 0)) = R) :
 ex E [.c ref11_Go_K9] (gT B N C cut many (gw a b 0 0 g) hp tw false) = R := by
 unfold room at hB
 have c1 : i * 3 + 3 ≤ N * 3 := by omega
 have hy' : B.getD ((pa : Int) + 2).toNat 0 = y := by rw [show ((pa : Int) + 2).toNat = pa + 2 by omega]; exact hy
 have hz' : B.getD ((pa : Int) + 3).toNat 0 = z := by rw [show ((pa : Int) + 3).toNat = pa + 3 by omega]; exact hz
 have ho' : (y : Int) * 256 + z = (o : Int) := by omega
 have ho2 : o < 65536 := by omega
 have c3 : ¬ 0 < (o : Int) / 8 := by omega
 have c4 : (o : Int) % 2 = 1 := by omega
 subst h
 unfold ref11_Go_K9
 simp (maxSteps := 1000000) (disch := first | omega | (simp only [lnS] <;> omega) | assumption | fail) [wwS, -List.getD_eq_getElem?_getD, -List.drop_drop, ref11_Go_K6, ref11_Go_K5, ref11_Go_K4, ref11_Go_K3, hC, hi, c1, h0, q, hy', hz', ho', he, c3, c4]
theorem rgo_whole {B : List Nat} {N i pa y z o : Nat} {C : List PV} {cut many hp tw en : Bool} {a b g : Int} {R} (hB : B.length ≤ room) (hC : C.length = N * 3) (hN : N ≤ 8) (hi : i < N) (hpa : pa + 4 ≤ B.length) (h8 : o / 8 = 0) (h2 : o % 2 = 0)
 (h0 : cellP C (i * 3) = some (.sc (.int .i64 (pa : Int)))) (q : callV E "ref11.first" [.v (.sl N C)] [] = some ([ri (i : Int)], [na], []))
 (hy : B.getD (pa + 2) 0 = y) (hz : B.getD (pa + 3) 0 = z) (hy2 : y < 256) (hz2 : z < 256) (ho : y * 256 + z = o)
 (he : decide (65535 < 8 * ((o : Int) / 8) + B.length - pa - 8) = en)
 (h : ex E [.c ref11_Go_K8] (updT (updT (updT (updT (updT (updT (updT botT 13 (tb en)) 12 (tb tw)) 11 (tb hp)) 10 (gw a b 0 ((o : Int) / 8) g)) 9 (tb many)) 8 (tb cut)) 4 (gw 0 0 0 0 0)) = R) :
 ex E [.c ref11_Go_K9] (gT B N C cut many (gw a b 0 0 g) hp tw false) = R := by
 unfold room at hB
 have c1 : i * 3 + 3 ≤ N * 3 := by omega
 have hy' : B.getD ((pa : Int) + 2).toNat 0 = y := by rw [show ((pa : Int) + 2).toNat = pa + 2 by omega]; exact hy
 have hz' : B.getD ((pa : Int) + 3).toNat 0 = z := by rw [show ((pa : Int) + 3).toNat = pa + 3 by omega]; exact hz
 have ho' : (y : Int) * 256 + z = (o : Int) := by omega
 have ho2 : o < 65536 := by omega
 have c3 : ¬ 0 < (o : Int) / 8 := by omega
 have c4 : ¬ (o : Int) % 2 = 1 := by omega
 subst h
 unfold ref11_Go_K9
 simp (maxSteps := 1000000) (disch := first | omega | (simp only [lnS] <;> omega) | assumption | fail) [wwS, -List.getD_eq_getElem?_getD, -List.drop_drop, ref11_Go_K6, ref11_Go_K5, ref11_Go_K4, ref11_Go_K3, hC, hi, c1, h0, q, hy', hz', ho', he, c3, c4]
theorem rgo_k10 {B : List Nat} {N : Nat} {C : List PV} {cut many hp tw : Bool} {a b g : Int} {R}
 (hl : runV E (.loop [1, 4, 6, 8, 9, 10, 11, 12, 13, 14] ref11_Go_L0) (updT (updT (updT (updT (updT (updT (updT (updT (updT (updT botT 14 (ti .i64 1)) 13 (tb false)) 12 (tb false)) 11 (tb false)) 10 (gw a b 0 0 g)) 9 (tb many)) 8 (tb cut)) 6 (.own N 3 C)) 4 (gw 0 0 0 0 0)) 1 (.val (.sl B.length (bp B)))) =
  some (.exit 0, gT B N C cut many (gw a b 0 0 g) hp tw false))
 (h : ex E [.c ref11_Go_K9] (gT B N C cut many (gw a b 0 0 g) hp tw false) = R) :
 ex E [.c ref11_Go_K10] (gT B N C cut many (gw a b 0 0 g) false false false) = R := by
 subst h
 unfold ref11_Go_K10
 simp (maxSteps := 1000000) (disch := first | omega | (simp only [lnS] <;> omega) | assumption | fail) [wwS, -List.getD_eq_getElem?_getD, -List.drop_drop, hl]
include e in
theorem rgo_top0 {k nx : Int} {B : List Nat} {M : Nat} {D : List PV} {cut many : Bool} {a b c d g : Int} (hB : B.length ≤ room)
 (q1 : callV E "ref11.way" [vi k, vb B] [] = some ([.o 0 3 [], ri nx, rB cut, rB many], [na, na], []))
 (h : ex E [.c ref11_Go_K10] (gT B 0 [] cut many (gw nx 0 0 0 0) false false false) = some (.ret, updT (updT botT 5 (.own M 1 D)) 4 (gw a b c d g))) :
 callV E "ref11.Go" [vi k, vb B] [] = some ([.v (.agg [.sc (.int .i64 a), .sc (.int .i64 b), .sc (.int .i64 c), .sc (.int .i64 d), .sc (.int .i64 g)]), .o M 1 D], [na, na], []) := by
 unfold room at hB
 refine callV_fn e.ref11_Go fun nd hnd => ?_
 simp (maxSteps := 1000000) (disch := first | omega | (simp only [lnS] <;> omega) | assumption | fail) [ref11_Go_B, wwS, -List.getD_eq_getElem?_getD, -List.drop_drop, ref11_Go_K13, ref11_Go_K12, ref11_Go_K0, ref11_Go_K11, q1, h]
include e in
theorem rgo_top {k nx : Int} {B : List Nat} {j pa pn M : Nat} {C D : List PV} {cut many : Bool} {a b c d g : Int} (hB : B.length ≤ room) (hC : C.length = (j + 1) * 3) (hj : j ≤ 8) (hp : pa + pn ≤ B.length)
 (h0 : cellP C (j * 3) = some (.sc (.int .i64 (pa : Int)))) (h2 : cellP C (j * 3 + 2) = some (.sc (.int .i64 (pn : Int))))
 (q1 : callV E "ref11.way" [vi k, vb B] [] = some ([.o (j + 1) 3 C, ri nx, rB cut, rB many], [na, na], []))
 (h : ex E [.c ref11_Go_K10] (gT B (j + 1) C cut many (gw nx ((pa : Int) + pn) 0 0 ((j : Int) + 1)) false false false) = some (.ret, updT (updT botT 5 (.own M 1 D)) 4 (gw a b c d g))) :
 callV E "ref11.Go" [vi k, vb B] [] = some ([.v (.agg [.sc (.int .i64 a), .sc (.int .i64 b), .sc (.int .i64 c), .sc (.int .i64 d), .sc (.int .i64 g)]), .o M 1 D], [na, na], []) := by
 unfold room at hB
 have c1 : 0 < (j : Int) + 1 := by omega
 have c2 : j * 3 + 3 ≤ (j + 1) * 3 := by omega
 have c3 : (j : Int) + 1 - 1 = j := by omega
 refine callV_fn e.ref11_Go fun nd hnd => ?_
 simp (maxSteps := 1000000) (disch := first | omega | (simp only [lnS] <;> omega) | assumption | fail) [ref11_Go_B, wwS, -List.getD_eq_getElem?_getD, -List.drop_drop, ref11_Go_K13, ref11_Go_K12, ref11_Go_K0, ref11_Go_K11, q1, h, hC, h0, h2, c1, c2, c3]
include e in
theorem ref11_Go (k : Int) (B : List Nat) (hB : B.length ≤ room) (h256 : ∀ x ∈ B, x < 256) :
 callV E "ref11.Go" [vi k, vb B] [] = some ([.v (.agg (ip (goX k B).1)), .o (goX k B).2.length 1 (ip (goX k B).2)], [na, na], []) := by
 have q1 := ref11_way e k B hB h256
 obtain ⟨ok, ha⟩ := path_ok k B
 obtain ⟨hat, hfx⟩ := path_inv k B
 have hgo : ∀ s, s = pathX k B → goX k B = if wrongX B s B.length = [] then (goW B s, []) else ([0, 0, 0, 0, 0], wrongX B s B.length) := fun s h => by rw [h]; rfl
 have hgo := hgo _ rfl
 generalize pathX k B = s at *
 obtain ⟨l, fr, nx, a, cut, many⟩ := s
 have hl8 : l.length ≤ 8 := ok.n
 have hfx : fr = firstX l 0 := hfx
 have hat : a = lastE l := hat
 have hwr : wrongX B ⟨l, fr, nx, a, cut, many⟩ B.length = defsX [cut, hopR (l.drop 1) false, many, twR (firstX l 0) (l.drop 1) 1 false, endX B ⟨l, fr, nx, a, cut, many⟩ B.length] 0 := by
  unfold wrongX
  simp only
  rw [hop_eq, hfx, tw_eq]
 have hlo := rgo_loop e B l hl8 (cut := cut) (many := many) (x1 := nx) (x2 := a) (x3 := 0) (x4 := 0) (x5 := l.length) (l.length - 1) 1 false false (by omega) (by omega)
 rw [show ((1 : Nat) : Int) = 1 from rfl] at hlo
 have q3 := ref11_first e l (by omega)
 have tail : ∃ c d, ex E [.c ref11_Go_K9] (gT B l.length (stC l) cut many (gw nx a 0 0 l.length) (hopR (l.drop 1) false) (twR (firstX l 0) (l.drop 1) 1 false) false) =
  some (.ret, updT (updT botT 5 (.own (wrongX B ⟨l, fr, nx, a, cut, many⟩ B.length).length 1 (ip (wrongX B ⟨l, fr, nx, a, cut, many⟩ B.length)))) 4 (if wrongX B ⟨l, fr, nx, a, cut, many⟩ B.length = [] then gw nx a c d l.length else gw 0 0 0 0 0)) ∧
  goW B ⟨l, fr, nx, a, cut, many⟩ = [nx, a, c, d, l.length] := by
  rw [hwr]
  generalize hopR (l.drop 1) false = hp at *
  generalize twR (firstX l 0) (l.drop 1) 1 false = tw at *
  by_cases hf : 0 ≤ fr
  ·have hfr2 : fr < l.length := ok.frag.2
   obtain ⟨i, rfl⟩ : ∃ i : Nat, fr = i := ⟨fr.toNat, by omega⟩
   have hi : i < l.length := by omega
   have hp' : l[i]? = some l[i] := List.getElem?_eq_getElem hi
   obtain ⟨p8, pB⟩ := ok.each l[i] (List.getElem_mem hi)
   obtain ⟨h0, _, _⟩ := cell_of (st_at hp')
   rw [← hfx] at q3
   have hfo : fragO B ⟨l, (i : Int), nx, a, cut, many⟩ = offX (ptB B l[i]) := by
    unfold fragO
    simp only
    rw [Int.toNat_natCast, hp']
   have hoe : offX (ptB B l[i]) = B.getD (l[i].2.1 + 2) 0 * 256 + B.getD (l[i].2.1 + 3) 0 := off_eq (k := l[i].1) (a := l[i].2.1) (n := l[i].2.2) (by omega)
   have hy2 : B.getD (l[i].2.1 + 2) 0 < 256 := h256 _ (getD_mem (by omega))
   have hz2 : B.getD (l[i].2.1 + 3) 0 < 256 := h256 _ (getD_mem (by omega))
   have hen : endX B ⟨l, (i : Int), nx, a, cut, many⟩ B.length = decide (65535 < 8 * ((offX (ptB B l[i]) : Int) / 8) + B.length - l[i].2.1 - 8) := by
    unfold endX
    simp only
    rw [if_pos hf, Int.toNat_natCast, hp']
    simp only
    apply decide_eq_decide.2
    omega
   rw [hen]
   unfold goW
   rw [hfo]
   simp only
   rw [if_pos hf]
   by_cases h8 : 0 < offX (ptB B l[i]) / 8
   ·rw [if_pos h8]
    exact ⟨_, _, rgo_later hB stC_len hl8 hi (by omega) h8 h0 q3 rfl rfl hy2 hz2 hoe.symm rfl rgo_end, rfl⟩
   ·rw [if_neg h8]
    by_cases h2 : offX (ptB B l[i]) % 2 = 0
    ·rw [if_pos h2]
     exact ⟨_, _, rgo_whole hB stC_len hl8 hi (by omega) (by omega) h2 h0 q3 rfl rfl hy2 hz2 hoe.symm rfl rgo_end, rfl⟩
    ·rw [if_neg h2]
     exact ⟨_, _, rgo_first hB stC_len hl8 hi (by omega) (by omega) h2 h0 q3 rfl rfl hy2 hz2 hoe.symm rfl rgo_end, rfl⟩
  ·have hf1 : fr = -1 := by have := ok.frag.1; show fr = -1; have h : -1 ≤ fr := this; omega
   have hen : endX B ⟨l, fr, nx, a, cut, many⟩ B.length = false := by unfold endX; simp only; rw [if_neg hf]
   rw [hen]
   rw [← hfx, hf1] at q3
   unfold goW
   simp only
   rw [if_neg hf]
   exact ⟨0, 0, rgo_none q3 rgo_end, rfl⟩
 obtain ⟨c, d, ht, hW⟩ := tail
 have hk := rgo_k10 hlo ht
 rw [hgo, hW]
 generalize wrongX B ⟨l, fr, nx, a, cut, many⟩ B.length = D at *
 have fin : ∃ a1 a2 a3 a4 a5 : Int, (if D = [] then gw nx a c d l.length else gw 0 0 0 0 0) = gw a1 a2 a3 a4 a5 ∧ (if D = [] then ([nx, (a : Int), c, d, (l.length : Int)], []) else ([0, 0, 0, 0, 0], D) : List Int × List Int) = ([a1, a2, a3, a4, a5], D) := by
  by_cases h : D = []
  ·rw [if_pos h, if_pos h]
   exact ⟨nx, a, c, d, l.length, rfl, by rw [h]⟩
  ·rw [if_neg h, if_neg h]
   exact ⟨0, 0, 0, 0, 0, rfl, rfl⟩
 obtain ⟨a1, a2, a3, a4, a5, g1, g2⟩ := fin
 rw [g1] at hk
 rw [g2]
 by_cases hl : l = []
 ·subst hl
  have ha0 : a = 0 := hat
  subst ha0
  exact rgo_top0 e hB q1 hk
 ·obtain ⟨j, hj⟩ : ∃ j, l.length = j + 1 := ⟨l.length - 1, by have := List.length_pos_iff.2 hl; omega⟩
  have hi : j < l.length := by omega
  have hp' : l[j]? = some l[j] := List.getElem?_eq_getElem hi
  obtain ⟨p8, pB⟩ := ok.each l[j] (List.getElem_mem hi)
  obtain ⟨h0, _, h2⟩ := cell_of (st_at hp')
  have hla : a = l[j].2.1 + l[j].2.2 := by
   rw [hat]
   unfold lastE
   have : l.getLast? = some l[j] := by rw [List.getLast?_eq_getElem?, hj]; exact hp'
   rw [this]
  have hc := stC_len (l := l)
  rw [hj] at hc q1 hk
  rw [hla] at hk
  exact rgo_top e hB hc (by omega) pB h0 h2 q1 hk
end
end Go.Wb.P11

/- Chapter 11: what extension headers come to, in the document. -/
import Derived.Test.YtlbekhmgpfbgnaaWbvP11g
set_option maxRecDepth 100000
set_option linter.all false
namespace Go.Wb.P11
open Go Go.Wb Go.Wb.Code Go.Wb.P01
def lastE (l : List (Int × Nat × Nat)) : Nat := match l.getLast? with | some p => p.2.1 + p.2.2 | none => 0
theorem walk_inv (B : List Nat) : ∀ (f : Nat) (s : St), s.at_ = lastE s.parts → s.frag = firstX s.parts 0 → (walkX B f s).at_ = lastE (walkX B f s).parts ∧ (walkX B f s).frag = firstX (walkX B f s).parts 0
 | 0, s, h1, h2 => ⟨h1, h2⟩
 | f + 1, s, h1, h2 => by
   unfold walkX
   have hr := first_range s.parts 0
   split
   ·exact ⟨h1, h2⟩
   ·split
    ·exact ⟨h1, h2⟩
    ·split
     ·exact ⟨h1, h2⟩
     ·rename_i n hs
      have hfa := first_add s.parts 0 (s.next, s.at_, n)
      have g1 : (nextX B s n).at_ = lastE (nextX B s n).parts := by simp [nextX, lastE]
      split
      ·rename_i hc
       refine walk_inv B f _ g1 ?_
       show s.frag = firstX (s.parts ++ [(s.next, s.at_, n)]) 0
       rw [hfa, h2]
       by_cases h : firstX s.parts 0 = -1
       ·rw [if_pos h, h]
        rcases hc with hc | hc
        ·rw [if_neg hc]
        ·omega
       ·rw [if_neg h]
      ·rename_i hc
       have hk : s.next = 44 := by
        by_cases h : s.next = 44
        ·exact h
        ·exact (hc (.inl h)).elim
       have g2 : (s.parts.length : Int) = firstX (s.parts ++ [(s.next, s.at_, n)]) 0 := by
        rw [hfa]
        rw [if_pos (by
         rcases hr with h | h
         ·exact h
         ·exact (hc (.inr (by omega))).elim), if_pos hk]
        simp
       split
       ·exact ⟨g1, g2⟩
       ·exact walk_inv B f _ g1 g2
theorem path_inv (k : Int) (B : List Nat) : (pathX k B).at_ = lastE (pathX k B).parts ∧ (pathX k B).frag = firstX (pathX k B).parts 0 := walk_inv B 9 (st0 k) rfl rfl
def twR (fr : Int) : List (Int × Nat × Nat) → Nat → Bool → Bool
 | [], _, t => t
 | p :: l, i, t => twR fr l (i + 1) (t || (decide (p.1 = 44) && decide (fr < i)))
def hopR : List (Int × Nat × Nat) → Bool → Bool
 | [], h => h
 | p :: l, h => hopR l (h || decide (p.1 = 0))
theorem hopR_eq : ∀ (l : List (Int × Nat × Nat)) (i : Nat) (h : Bool), 0 < i → hopX l i h = hopR l h
 | [], _, _, _ => rfl
 | p :: l, i, h, hi => by rw [hopX, hopR, decide_eq_true hi, Bool.and_true, hopR_eq l (i + 1) _ (by omega)]
theorem twR_eq (fr : Int) : ∀ (l : List (Int × Nat × Nat)) (i : Nat) (t : Bool), (fr = -1 → ∀ p ∈ l, p.1 ≠ 44) → (∀ (j : Nat) (p : Int × Nat × Nat), l[j]? = some p → p.1 = 44 → 0 ≤ fr → fr ≤ (i : Int) + j) → twX fr l i t = twR fr l i t
 | [], _, _, _, _ => rfl
 | p :: l, i, t, h1, h2 => by
   rw [twX, twR]
   have e : (decide (p.1 = 44) && !decide ((i : Int) = fr)) = (decide (p.1 = 44) && decide (fr < i)) := by
    by_cases hp : p.1 = 44
    ·have hb : fr ≠ -1 := fun h => h1 h p (by simp) hp
     have := h2 0 p rfl hp
     have e2 : (!decide ((i : Int) = fr)) = decide (fr < (i : Int)) := by
      rw [Bool.eq_iff_iff]
      simp only [Bool.not_eq_true', decide_eq_false_iff_not, decide_eq_true_eq]
      by_cases hf : 0 ≤ fr
      ·have := this hf
       omega
      ·omega
     rw [e2]
    ·simp [hp]
   rw [e]
   exact twR_eq fr l (i + 1) _ (fun h q hq => h1 h q (by simp [hq])) (fun j q hq hk hf => by have := h2 (j + 1) q (by simpa using hq) hk hf; omega)
theorem first_le : ∀ (l : List (Int × Nat × Nat)) (i j : Nat) (p : Int × Nat × Nat), l[j]? = some p → p.1 = 44 → firstX l i ≠ -1 ∧ firstX l i ≤ i + j
 | [], i, j, p, h, _ => by cases h
 | q :: l, i, 0, p, h, hk => by
   simp at h
   subst h
   rw [firstX, if_pos hk]
   omega
 | q :: l, i, j + 1, p, h, hk => by
   rw [firstX]
   split
   ·omega
   ·have := first_le l (i + 1) j p (by simpa using h) hk
    omega
theorem tw_eq (l : List (Int × Nat × Nat)) : twX (firstX l 0) l 0 false = twR (firstX l 0) (l.drop 1) 1 false := by
 cases l with
 | nil => rfl
 | cons p l =>
   rw [twX, List.drop_succ_cons, List.drop_zero]
   have e : (false || (decide (p.1 = 44) && !decide (((0 : Nat) : Int) = firstX (p :: l) 0))) = false := by
    by_cases hp : p.1 = 44
    ·rw [firstX, if_pos hp]; simp
    ·simp [hp]
   rw [e]
   refine twR_eq _ l 1 false (fun h q hq => ?_) (fun j q hq hk _ => ?_)
   ·intro hk
    obtain ⟨j, hj⟩ := List.getElem?_of_mem hq
    exact (first_le (p :: l) 0 (j + 1) q (by simpa using hj) hk).1 h
   ·have := first_le (p :: l) 0 (j + 1) q (by simpa using hq) hk
    omega
theorem hop_eq (l : List (Int × Nat × Nat)) : hopX l 0 false = hopR (l.drop 1) false := by
 cases l with
 | nil => rfl
 | cons p l =>
   rw [hopX, List.drop_succ_cons, List.drop_zero, hopR_eq _ _ _ (by omega)]
   simp
section
variable {E : EnvW} (e : WbvC11Env E)
abbrev gw (a b c d f : Int) : TV := .box [.v (.sc (.int .i64 a)), .v (.sc (.int .i64 b)), .v (.sc (.int .i64 c)), .v (.sc (.int .i64 d)), .v (.sc (.int .i64 f))]
abbrev gT (B : List Nat) (N : Nat) (C : List PV) (cut many : Bool) (w : TV) (hp tw en : Bool) : TT :=
 updT (updT (updT (updT (updT (updT (updT (updT (updT botT 13 (tb en)) 12 (tb tw)) 11 (tb hp)) 10 w) 9 (tb many)) 8 (tb cut)) 6 (.own N 3 C)) 4 (gw 0 0 0 0 0)) 1 (.val (.sl B.length (bp B)))
theorem rgo_step {B : List Nat} {N i : Nat} {C : List PV} {cut many hp tw z0 z1 z2 : Bool} {x1 x2 x3 x4 x5 fr pk : Int} {R} (hC : C.length = N * 3) (hN : N ≤ 8) (hi : i < N)
 (h1 : cellP C (i * 3 + 1) = some (.sc (.int .i64 pk))) (q : callV E "ref11.first" [.v (.sl N C)] [] = some ([ri fr], [na], []))
 (e0 : decide (pk = 0) = z0) (e1 : decide (pk = 44) = z1) (e2 : decide (fr < (i : Int)) = z2)
 (h : runV E (.loop [1, 4, 6, 8, 9, 10, 11, 12, 13, 14] ref11_Go_L0) (updT (updT (updT (updT (updT (updT (updT (updT (updT (updT botT 14 (ti .i64 (i + 1 : Nat))) 13 (tb false)) 12 (tb (tw || (z1 && z2)))) 11 (tb (hp || z0))) 10 (gw x1 x2 x3 x4 x5)) 9 (tb many)) 8 (tb cut)) 6 (.own N 3 C)) 4 (gw 0 0 0 0 0)) 1 (.val (.sl B.length (bp B)))) = R) :
 runV E (.loop [1, 4, 6, 8, 9, 10, 11, 12, 13, 14] ref11_Go_L0) (updT (updT (updT (updT (updT (updT (updT (updT (updT (updT botT 14 (ti .i64 (i : Int))) 13 (tb false)) 12 (tb tw)) 11 (tb hp)) 10 (gw x1 x2 x3 x4 x5)) 9 (tb many)) 8 (tb cut)) 6 (.own N 3 C)) 4 (gw 0 0 0 0 0)) 1 (.val (.sl B.length (bp B)))) = R := by
 have c1 : (i : Int) < N := by omega
 have c2 : i * 3 + 3 ≤ N * 3 := by omega
 subst h
 cases hp <;> cases tw <;> cases z0 <;> cases z1
 all_goals
  refine loop_go (by simp (maxSteps := 1000000) (disch := first | omega | (simp only [lnS] <;> omega) | assumption | fail) [ref11_Go_L0, wwS, -List.getD_eq_getElem?_getD, -List.drop_drop, ref11_Go_K1, ref11_Go_K2, hC, hi, c1, c2, h1, q, e0, e1, e2]; rfl) ?_
  rfl
include e in
theorem rgo_loop (B : List Nat) (L : List (Int × Nat × Nat)) (hL : L.length ≤ 8) {cut many : Bool} {x1 x2 x3 x4 x5 : Int} : ∀ (m i : Nat) (hp tw : Bool), (i + m = L.length ∨ (m = 0 ∧ L.length ≤ i)) → i ≤ 9 →
 runV E (.loop [1, 4, 6, 8, 9, 10, 11, 12, 13, 14] ref11_Go_L0) (updT (updT (updT (updT (updT (updT (updT (updT (updT (updT botT 14 (ti .i64 (i : Int))) 13 (tb false)) 12 (tb tw)) 11 (tb hp)) 10 (gw x1 x2 x3 x4 x5)) 9 (tb many)) 8 (tb cut)) 6 (.own L.length 3 (stC L))) 4 (gw 0 0 0 0 0)) 1 (.val (.sl B.length (bp B)))) =
  some (.exit 0, gT B L.length (stC L) cut many (gw x1 x2 x3 x4 x5) (hopR (L.drop i) hp) (twR (firstX L 0) (L.drop i) i tw) false)
 | 0, i, hp, tw, hm, hi => by
   have hge : L.length ≤ i := by omega
   rw [List.drop_of_length_le hge, hopR, twR]
   have c1 : ¬ (i : Int) < L.length := by omega
   generalize stC L = C at *
   refine loop_out (by simp (maxSteps := 1000000) (disch := first | omega | (simp only [lnS] <;> omega) | assumption | fail) [ref11_Go_L0, wwS, -List.getD_eq_getElem?_getD, -List.drop_drop, c1]; first | exact ⟨rfl, rfl⟩ | exact rfl) ?_ (by simp)
   rfl
 | m + 1, i, hp, tw, hm, hi9 => by
   have hi : i < L.length := by omega
   have hp' : L[i]? = some L[i] := List.getElem?_eq_getElem hi
   obtain ⟨_, h1, _⟩ := cell_of (st_at hp')
   have q := ref11_first e L (by omega)
   have ih := rgo_loop B L hL (cut := cut) (many := many) (x1 := x1) (x2 := x2) (x3 := x3) (x4 := x4) (x5 := x5) m (i + 1) (hp || decide (L[i].1 = 0)) (tw || (decide (L[i].1 = 44) && decide (firstX L 0 < (i : Int)))) (by omega) (by omega)
   rw [List.drop_eq_getElem_cons hi, hopR, twR]
   exact rgo_step stC_len hL hi h1 q rfl rfl rfl ih
theorem rdefs_step {N i : Nat} {X : List Int} {F : List PV} {w0 w : TV} {f : Bool} {R} (hFl : F.length = 5) (hi : i < 5) (hN : N = X.length) (hX : X.length ≤ i) (hF : cellP F i = some (.sc (.bool f))) {a b c d g a' b' c' d' g' : Int}
 (hr : runV E (.loop [4, 10, 17, 18, 19] ref11_Go_L1) (updT (updT (updT (updT (updT botT 19 (ti .i64 (i + 1 : Nat))) 18 (.own 5 1 F)) 17 (.own (X ++ if f then [10 + (i : Int)] else []).length 1 (ip (X ++ if f then [10 + (i : Int)] else [])))) 10 (gw a b c d g)) 4 (gw a' b' c' d' g')) = R) :
 runV E (.loop [4, 10, 17, 18, 19] ref11_Go_L1) (updT (updT (updT (updT (updT botT 19 (ti .i64 (i : Int))) 18 (.own 5 1 F)) 17 (.own N 1 (ip X))) 10 (gw a b c d g)) 4 (gw a' b' c' d' g')) = R := by
 subst hr hN
 have c1 : (i : Int) < 5 := by omega
 cases f
 ·rw [show (X ++ if false = true then [10 + (i : Int)] else []) = X by simp]
  refine loop_go (by simp (maxSteps := 1000000) (disch := first | omega | (simp only [lnS] <;> omega) | assumption | fail) [ref11_Go_L1, wwS, -List.getD_eq_getElem?_getD, -List.drop_drop, hF, hFl, hi, c1]; rfl) ?_
  rfl
 ·rw [show (X ++ if true = true then [10 + (i : Int)] else []) = X ++ [10 + (i : Int)] by simp]
  refine loop_go (by simp (maxSteps := 1000000) (disch := first | omega | (simp only [lnS] <;> omega) | assumption | fail) [ref11_Go_L1, wwS, -List.getD_eq_getElem?_getD, -List.drop_drop, hF, hFl, hi, c1]; rfl) ?_
  rw [List.length_append]
  rfl
theorem rdefs_loop (Fs : List Bool) (hF : Fs.length = 5) {a b c d g a' b' c' d' g' : Int} : ∀ (m i N : Nat) (X : List Int), i + m = 5 → N = X.length → X.length ≤ i →
 runV E (.loop [4, 10, 17, 18, 19] ref11_Go_L1) (updT (updT (updT (updT (updT botT 19 (ti .i64 (i : Int))) 18 (.own 5 1 (Fs.map fun b => PV.sc (.bool b)))) 17 (.own N 1 (ip X))) 10 (gw a b c d g)) 4 (gw a' b' c' d' g')) =
  some (.exit 2, updT (updT (updT botT 17 (.own (X ++ defsX (Fs.drop i) i).length 1 (ip (X ++ defsX (Fs.drop i) i)))) 10 (gw a b c d g)) 4 (gw a' b' c' d' g'))
 | 0, i, N, X, hm, hN, hX => by
   have hi : i = 5 := by omega
   subst hi
   rw [List.drop_of_length_le (by omega), defsX, List.append_nil, ← hN]
   have c1 : ¬ ((5 : Nat) : Int) < 5 := by omega
   generalize Fs.map (fun b => PV.sc (.bool b)) = F
   refine loop_out (by simp (maxSteps := 1000000) (disch := first | omega | (simp only [lnS] <;> omega) | assumption | fail) [ref11_Go_L1, wwS, -List.getD_eq_getElem?_getD, -List.drop_drop, c1]; first | exact ⟨rfl, rfl⟩ | exact rfl) ?_ (by simp)
   rfl
 | m + 1, i, N, X, hm, hN, hX => by
   have hi : i < Fs.length := by omega
   have hp : Fs[i]? = some Fs[i] := List.getElem?_eq_getElem hi
   rw [List.drop_eq_getElem_cons hi, defsX, ← List.append_assoc]
   refine rdefs_step (w0 := .undef) (w := .undef) (by rw [List.length_map, hF]) (by omega) hN hX (by rw [cellP, List.getElem?_map, hp]; rfl) ?_
   exact rdefs_loop Fs hF m (i + 1) _ _ (by omega) rfl (by rw [List.length_append]; split <;> simp <;> omega)
theorem rgo_end {cut hp many tw en : Bool} {a b c d g : Int} :
 ex E [.c ref11_Go_K8] (updT (updT (updT (updT (updT (updT (updT botT 13 (tb en)) 12 (tb tw)) 11 (tb hp)) 10 (gw a b c d g)) 9 (tb many)) 8 (tb cut)) 4 (gw 0 0 0 0 0)) =
  some (.ret, updT (updT botT 5 (.own (defsX [cut, hp, many, tw, en] 0).length 1 (ip (defsX [cut, hp, many, tw, en] 0)))) 4 (if defsX [cut, hp, many, tw, en] 0 = [] then gw a b c d g else gw 0 0 0 0 0)) := by
 have h := rdefs_loop (E := E) [cut, hp, many, tw, en] rfl (a := a) (b := b) (c := c) (d := d) (g := g) (a' := 0) (b' := 0) (c' := 0) (d' := 0) (g' := 0) 5 0 0 [] rfl rfl (Nat.le_refl _)
 rw [show ((0 : Nat) : Int) = 0 from rfl, List.drop_zero, List.nil_append] at h
 have h : runV E (.loop [4, 10, 17, 18, 19] ref11_Go_L1) (updT (updT (updT (updT (updT botT 19 (ti .i64 0)) 18 (.own 5 1 [.sc (.bool cut), .sc (.bool hp), .sc (.bool many), .sc (.bool tw), .sc (.bool en)])) 17 (.own 0 1 [])) 10 (gw a b c d g)) 4 (gw 0 0 0 0 0)) = _ := h
 unfold ref11_Go_K8
 cases hD : defsX [cut, hp, many, tw, en] 0 with
 | nil =>
   rw [hD] at h
   rw [if_pos rfl]
   simp (maxSteps := 1000000) (disch := first | omega | (simp only [lnS] <;> omega) | assumption | fail) [wwS, -List.getD_eq_getElem?_getD, -List.drop_drop, ref11_Go_K7, h]
 | cons x l =>
   rw [hD] at h
   rw [if_neg (by simp)]
   have hp : 0 < (x :: l).length := by simp
   generalize x :: l = D at *
   simp (maxSteps := 1000000) (disch := first | omega | (simp only [lnS] <;> omega) | assumption | fail) [wwS, -List.getD_eq_getElem?_getD, -List.drop_drop, ref11_Go_K7, h, hp]
end
end Go.Wb.P11

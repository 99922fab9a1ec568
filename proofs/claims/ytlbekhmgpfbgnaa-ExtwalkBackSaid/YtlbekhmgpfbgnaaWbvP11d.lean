/- Chapter 11: what is wrong with a path. -/
import Derived.Test.YtlbekhmgpfbgnaaWbvP11c
set_option maxRecDepth 100000
set_option linter.all false
namespace Go.Wb.P11
open Go Go.Wb Go.Wb.Code Go.Wb.P01
theorem andNot7 {x : Nat} (h : x < 65536) : bits .andNot .i64 (x : Int) 7 = ((x / 8 * 8 : Nat) : Int) := by
 have key : BitVec.ofInt 64 (x : Int) &&& ~~~(BitVec.ofInt 64 7) = BitVec.ofNat 64 (x / 8 * 8) := by
  rw [BitVec.ofInt_natCast, show BitVec.ofInt 64 7 = BitVec.ofNat 64 (2 ^ 3 - 1) from rfl]
  apply BitVec.eq_of_getLsbD_eq
  intro i hi
  rw [BitVec.getLsbD_and, BitVec.getLsbD_not, BitVec.getLsbD_ofNat, BitVec.getLsbD_ofNat, BitVec.getLsbD_ofNat, Nat.testBit_two_pow_sub_one]
  have e : x / 8 * 8 = (x >>> 3) <<< 3 := by rw [Nat.shiftRight_eq_div_pow, Nat.shiftLeft_eq]
  rw [e, Nat.testBit_shiftLeft, Nat.testBit_shiftRight]
  by_cases h3 : 3 ≤ i
  ·have h4 : ¬ i < 3 := by omega
   simp [hi, h3, h4, show 3 + (i - 3) = i by omega]
  ·have h4 : i < 3 := by omega
   simp [hi, h3, h4]
 show IntKind.i64.wrap ((BitVec.ofInt 64 (x : Int) &&& ~~~(BitVec.ofInt 64 7)).toNat : Int) = _
 rw [key, BitVec.toNat_ofNat, Nat.mod_eq_of_lt (by omega), wrap_i64 (by omega) (by omega)]
def hopX : List (Int × Nat × Nat) → Nat → Bool → Bool
 | [], _, h => h
 | p :: l, i, h => hopX l (i + 1) (h || (decide (p.1 = 0) && decide (0 < i)))
def twX (fr : Int) : List (Int × Nat × Nat) → Nat → Bool → Bool
 | [], _, t => t
 | p :: l, i, t => twX fr l (i + 1) (t || (decide (p.1 = 44) && !decide ((i : Int) = fr)))
def defsX : List Bool → Nat → List Int
 | [], _ => []
 | f :: r, i => (if f then [10 + (i : Int)] else []) ++ defsX r (i + 1)
theorem pts_at {B : List Nat} : ∀ {l : List (Int × Nat × Nat)} {i : Nat} {p : Int × Nat × Nat}, l[i]? = some p → List.take 3 (List.drop (i * 3) (ptsC B l)) = ptV p.1 p.2.1 p.2.2 (ptB B p)
 | [], i, p, h => by cases h
 | q :: l, 0, p, h => by
   simp at h
   subst h
   unfold ptsC
   simp
 | q :: l, i + 1, p, h => by
   have ih := pts_at (B := B) (l := l) (i := i) (p := p) (by simpa using h)
   have e : ptsC B (q :: l) = ptV q.1 q.2.1 q.2.2 (ptB B q) ++ ptsC B l := by unfold ptsC; simp
   rw [e, show (i + 1) * 3 = 3 + i * 3 by omega, ← List.drop_drop]
   exact ih
section
variable {E : EnvW} (e : WbvC11Env E)
theorem wrong_step {C b : List PV} {N i : Nat} {K : List CV} {k a fr : Int} {n : Nat} {size : Int} {h t z0 z1 z2 z3 : Bool} {R}
 (hC : C.length = N * 3) (hi : i < N) (hN : N ≤ 8) (hd : List.take 3 (List.drop (i * 3) C) = [.sc (.int .i64 k), .sc (.int .i64 a), .sl n b]) (hK : cellC K 1 = some (.v (.sc (.int .i64 fr))))
 (e0 : decide (k = 0) = z0) (e1 : decide (k = 44) = z1) (e2 : decide (0 < i) = z2) (e3 : decide ((i : Int) = fr) = z3)
 (hr : runV E (.loop [1, 2, 5, 6, 15, 16, 17] extwalk_path_wrong_L0) (updT (updT (updT (updT (updT (updT (updT botT 17 (ti .i64 (i + 1 : Nat))) 16 (ti .i64 N)) 15 (.val (.sl N C))) 6 (tb (t || (z1 && !z3)))) 5 (tb (h || (z0 && z2)))) 2 (.box K)) 1 (ti .i64 size)) = R) :
 runV E (.loop [1, 2, 5, 6, 15, 16, 17] extwalk_path_wrong_L0) (updT (updT (updT (updT (updT (updT (updT botT 17 (ti .i64 (i : Int))) 16 (ti .i64 N)) 15 (.val (.sl N C))) 6 (tb t)) 5 (tb h)) 2 (.box K)) 1 (ti .i64 size)) = R := by
 have c1 : (i : Int) < N := by omega
 have c2 : i * 3 + 3 ≤ N * 3 := by omega
 subst hr
 cases h <;> cases t <;> cases z0 <;> cases z1
 all_goals
  refine loop_go (by simp (maxSteps := 1000000) (disch := first | omega | (simp only [lnS] <;> omega) | assumption | fail) [extwalk_path_wrong_L0, wwS, -List.getD_eq_getElem?_getD, -List.drop_drop, hC, hd, hK, hi, c1, c2, e0, e1, e2, e3]; rfl) ?_
  rfl
theorem wrong_out {C : List PV} {N : Nat} {K : List CV} {size : Int} {h t : Bool} (hN : N ≤ 8) :
 runV E (.loop [1, 2, 5, 6, 15, 16, 17] extwalk_path_wrong_L0) (updT (updT (updT (updT (updT (updT (updT botT 17 (ti .i64 (N : Int))) 16 (ti .i64 N)) 15 (.val (.sl N C))) 6 (tb t)) 5 (tb h)) 2 (.box K)) 1 (ti .i64 size)) =
  some (.exit 0, updT (updT (updT (updT botT 6 (tb t)) 5 (tb h)) 2 (.box K)) 1 (ti .i64 size)) := by
 have c1 : ¬ (N : Int) < N := by omega
 refine loop_out (by simp (maxSteps := 1000000) (disch := first | omega | (simp only [lnS] <;> omega) | assumption | fail) [extwalk_path_wrong_L0, wwS, -List.getD_eq_getElem?_getD, -List.drop_drop, c1]; first | exact ⟨rfl, rfl⟩ | exact rfl) ?_ (by simp)
 rfl
theorem wrong_loop (B : List Nat) (L : List (Int × Nat × Nat)) (hL : L.length ≤ 8) {K : List CV} {fr size : Int} (hK : cellC K 1 = some (.v (.sc (.int .i64 fr)))) : ∀ (m i : Nat) (h t : Bool), i + m = L.length →
 runV E (.loop [1, 2, 5, 6, 15, 16, 17] extwalk_path_wrong_L0) (updT (updT (updT (updT (updT (updT (updT botT 17 (ti .i64 (i : Int))) 16 (ti .i64 L.length)) 15 (.val (.sl L.length (ptsC B L)))) 6 (tb t)) 5 (tb h)) 2 (.box K)) 1 (ti .i64 size)) =
  some (.exit 0, updT (updT (updT (updT botT 6 (tb (twX fr (L.drop i) i t))) 5 (tb (hopX (L.drop i) i h))) 2 (.box K)) 1 (ti .i64 size))
 | 0, i, h, t, hm => by
   have hi : i = L.length := by omega
   subst hi
   rw [List.drop_length]
   exact wrong_out hL
 | m + 1, i, h, t, hm => by
   have hi : i < L.length := by omega
   have hp : L[i]? = some L[i] := List.getElem?_eq_getElem hi
   have hd := pts_at (B := B) hp
   rw [List.drop_eq_getElem_cons hi]
   exact wrong_step ptsC_len hi hL hd hK rfl rfl rfl rfl (wrong_loop B L hL hK m (i + 1) _ _ (by omega))
theorem defs_step {N i : Nat} {X : List Int} {F : List PV} {f : Bool} {R} (hi : i < 5) (hN : N = X.length) (hX : X.length ≤ i) (hF : cellP F i = some (.sc (.bool f)))
 (hr : runV E (.loop [11, 71, 72] extwalk_path_wrong_L1) (updT (updT (updT botT 72 (ti .i64 (i + 1 : Nat))) 71 (.val (.agg F))) 11 (.own (X ++ if f then [10 + (i : Int)] else []).length 1 (ip (X ++ if f then [10 + (i : Int)] else [])))) = R) :
 runV E (.loop [11, 71, 72] extwalk_path_wrong_L1) (updT (updT (updT botT 72 (ti .i64 (i : Int))) 71 (.val (.agg F))) 11 (.own N 1 (ip X))) = R := by
 subst hr hN
 have c1 : (i : Int) < 5 := by omega
 cases f
 ·rw [show (X ++ if false = true then [10 + (i : Int)] else []) = X by simp]
  refine loop_go (by simp (maxSteps := 1000000) (disch := first | omega | (simp only [lnS] <;> omega) | assumption | fail) [extwalk_path_wrong_L1, wwS, -List.getD_eq_getElem?_getD, -List.drop_drop, hF, hi, c1]; rfl) ?_
  rfl
 ·rw [show (X ++ if true = true then [10 + (i : Int)] else []) = X ++ [10 + (i : Int)] by simp]
  refine loop_go (by simp (maxSteps := 1000000) (disch := first | omega | (simp only [lnS] <;> omega) | assumption | fail) [extwalk_path_wrong_L1, wwS, -List.getD_eq_getElem?_getD, -List.drop_drop, hF, hi, c1]; rfl) ?_
  rw [List.length_append]
  rfl
theorem defs_loop (Fs : List Bool) (hF : Fs.length = 5) : ∀ (m i N : Nat) (X : List Int), i + m = 5 → N = X.length → X.length ≤ i →
 runV E (.loop [11, 71, 72] extwalk_path_wrong_L1) (updT (updT (updT botT 72 (ti .i64 (i : Int))) 71 (.val (.agg (Fs.map fun b => PV.sc (.bool b))))) 11 (.own N 1 (ip X))) =
  some (.exit 2, updT botT 11 (.own (X ++ defsX (Fs.drop i) i).length 1 (ip (X ++ defsX (Fs.drop i) i))))
 | 0, i, N, X, hm, hN, hX => by
   have hi : i = 5 := by omega
   subst hi
   rw [List.drop_of_length_le (by omega), defsX, List.append_nil, ← hN]
   have c1 : ¬ ((5 : Nat) : Int) < 5 := by omega
   generalize Fs.map (fun b => PV.sc (.bool b)) = F
   refine loop_out (by simp (maxSteps := 1000000) (disch := first | omega | (simp only [lnS] <;> omega) | assumption | fail) [extwalk_path_wrong_L1, wwS, -List.getD_eq_getElem?_getD, -List.drop_drop, c1]; first | exact ⟨rfl, rfl⟩ | exact rfl) ?_ (by simp)
   rfl
 | m + 1, i, N, X, hm, hN, hX => by
   have hi : i < Fs.length := by omega
   have hp : Fs[i]? = some Fs[i] := List.getElem?_eq_getElem hi
   rw [List.drop_eq_getElem_cons hi, defsX, ← List.append_assoc]
   refine defs_step (by omega) hN hX (by rw [cellP, List.getElem?_map, hp]; rfl) ?_
   exact defs_loop Fs hF m (i + 1) _ _ (by omega) rfl (by rw [List.length_append]; split <;> simp <;> omega)
def endX (B : List Nat) (s : St) (size : Int) : Bool :=
 if 0 ≤ s.frag then match s.parts[s.frag.toNat]? with
  | some p => decide (65535 < ((offX (ptB B p) / 8 * 8 : Nat) : Int) + size - p.2.1 - 8)
  | none => false
 else false
def wrongX (B : List Nat) (s : St) (size : Int) : List Int := defsX [s.cut, hopX s.parts 0 false, s.many, twX s.frag s.parts 0 false, endX B s size] 0
structure PathOk (B : List Nat) (s : St) : Prop where
 n : s.parts.length ≤ 8
 each : ∀ p ∈ s.parts, 8 ≤ p.2.2 ∧ p.2.1 + p.2.2 ≤ B.length
 frag : -1 ≤ s.frag ∧ s.frag < s.parts.length
theorem ptB_len {B : List Nat} {p : Int × Nat × Nat} (h : p.2.1 + p.2.2 ≤ B.length) : (ptB B p).length = p.2.2 := by unfold ptB; simp; omega
include e in
theorem wrong_run {C : List PV} {N i pa pn a size : Nat} {k pk o o8 : Int} {cut many hp tw en : Bool} {pb : List Nat} {D : List Int} (hc : C.length = N * 3) (hi : i < N) (hN : N ≤ 8) (hs : size ≤ 140737488355000) (hpa : pa ≤ 140737488355000) (g1 : o8 < 65536) (g2 : 0 ≤ o8)
 (hd : List.take 3 (List.drop (i * 3) C) = [.sc (.int .i64 pk), .sc (.int .i64 (pa : Int)), .sl pn (bp pb)])
 (q : callV E "(extwalk.part).offset" [.v (.agg [.sc (.int .i64 pk), .sc (.int .i64 (pa : Int)), .sl pn (bp pb)])] [] = some ([ri o], [na], []))
 (han : bits .andNot .i64 o 7 = o8) (he : decide (65535 < o8 + size - pa - 8) = en)
 (w : runV E (.loop [1, 2, 5, 6, 15, 16, 17] extwalk_path_wrong_L0) (updT (updT (updT (updT (updT (updT (updT botT 17 (ti .i64 0)) 16 (ti .i64 N)) 15 (.val (.sl N C))) 6 (tb false)) 5 (tb false)) 2 (.box [.v (.sl N C), .v (.sc (.int .i64 (i : Int))), .v (.sc (.int .i64 k)), .v (.sc (.int .i64 (a : Int))), .v (.sc (.bool cut)), .v (.sc (.bool many))])) 1 (ti .i64 size)) =
  some (.exit 0, updT (updT (updT (updT botT 6 (tb tw)) 5 (tb hp)) 2 (.box [.v (.sl N C), .v (.sc (.int .i64 (i : Int))), .v (.sc (.int .i64 k)), .v (.sc (.int .i64 (a : Int))), .v (.sc (.bool cut)), .v (.sc (.bool many))])) 1 (ti .i64 size)))
 (f : runV E (.loop [11, 71, 72] extwalk_path_wrong_L1) (updT (updT (updT botT 72 (ti .i64 0)) 71 (.val (.agg [.sc (.bool cut), .sc (.bool hp), .sc (.bool many), .sc (.bool tw), .sc (.bool en)]))) 11 (.own 0 1 [])) =
  some (.exit 2, updT botT 11 (.own D.length 1 (ip D)))) :
 callV E "(extwalk.path).wrong" [.v (.agg [.sl N C, .sc (.int .i64 (i : Int)), .sc (.int .i64 k), .sc (.int .i64 (a : Int)), .sc (.bool cut), .sc (.bool many)]), vi size] [] = some ([.o D.length 1 (ip D)], [na, na], []) := by
 have c2 : i * 3 + 3 ≤ N * 3 := by omega
 refine callV_fn e.extwalk_path_wrong fun nd hnd => ?_
 simp (maxSteps := 1000000) (disch := first | omega | (simp only [lnS] <;> omega) | assumption | fail) [extwalk_path_wrong_B, wwS, -List.getD_eq_getElem?_getD, -List.drop_drop, w, f, hc, hi, hd, q, han, he, c2]
include e in
theorem path_wrong (B : List Nat) (hB : B.length ≤ room) (h256 : ∀ x ∈ B, x < 256) (s : St) (ok : PathOk B s) (size : Nat) (hs : size ≤ room) :
 callV E "(extwalk.path).wrong" [.v (.agg (pathC B s)), vi size] [] = some ([.o (wrongX B s size).length 1 (ip (wrongX B s size))], [na, na], []) := by
 obtain ⟨l, fr, k, a, cut, many⟩ := s
 have hl : l.length ≤ 8 := ok.n
 have hfr1 : -1 ≤ fr := ok.frag.1
 have hfr2 : fr < l.length := ok.frag.2
 unfold room at hs
 unfold wrongX pathC cellP'
 simp only
 have fin : ∀ hp tw en : Bool, runV E (.loop [11, 71, 72] extwalk_path_wrong_L1) (updT (updT (updT botT 72 (ti .i64 0)) 71 (.val (.agg [.sc (.bool cut), .sc (.bool hp), .sc (.bool many), .sc (.bool tw), .sc (.bool en)]))) 11 (.own 0 1 [])) =
  some (.exit 2, updT botT 11 (.own (defsX [cut, hp, many, tw, en] 0).length 1 (ip (defsX [cut, hp, many, tw, en] 0)))) := fun hp tw en => defs_loop (E := E) [cut, hp, many, tw, en] rfl 5 0 0 [] rfl rfl (Nat.le_refl _)
 by_cases hne : l = []
 ·subst hne
  have hf : fr = -1 := by simp at hfr2; omega
  subst hf
  rw [if_pos rfl]
  have f := fin false false false
  have w : runV E (.loop [1, 2, 5, 6, 15, 16, 17] extwalk_path_wrong_L0) (updT (updT (updT (updT (updT (updT (updT botT 17 (ti .i64 0)) 16 (ti .i64 0)) 15 (.val (.sc (.slice none 0 0)))) 6 (tb false)) 5 (tb false)) 2 (.box [.v (.sc (.slice none 0 0)), .v (.sc (.int .i64 (-1))), .v (.sc (.int .i64 k)), .v (.sc (.int .i64 (a : Int))), .v (.sc (.bool cut)), .v (.sc (.bool many))])) 1 (ti .i64 size)) =
   some (.exit 0, updT (updT (updT (updT botT 6 (tb false)) 5 (tb false)) 2 (.box [.v (.sc (.slice none 0 0)), .v (.sc (.int .i64 (-1))), .v (.sc (.int .i64 k)), .v (.sc (.int .i64 (a : Int))), .v (.sc (.bool cut)), .v (.sc (.bool many))])) 1 (ti .i64 size)) := by
   refine loop_out (by simp (maxSteps := 1000000) (disch := first | omega | (simp only [lnS] <;> omega) | assumption | fail) [extwalk_path_wrong_L0, wwS, -List.getD_eq_getElem?_getD, -List.drop_drop]; first | exact ⟨rfl, rfl⟩ | exact rfl) ?_ (by simp)
   rfl
  have hD : endX B ⟨[], -1, k, a, cut, many⟩ size = false := rfl
  rw [hD]
  simp only [hopX, twX]
  generalize defsX [cut, false, many, false, false] 0 = D at *
  refine callV_fn e.extwalk_path_wrong fun nd hnd => ?_
  simp (maxSteps := 1000000) (disch := first | omega | (simp only [lnS] <;> omega) | assumption | fail) [extwalk_path_wrong_B, wwS, -List.getD_eq_getElem?_getD, -List.drop_drop, w, f]
 ·rw [if_neg hne]
  have hc := ptsC_len (B := B) (l := l)
  have w := wrong_loop (E := E) B l hl (K := [.v (.sl l.length (ptsC B l)), .v (.sc (.int .i64 fr)), .v (.sc (.int .i64 k)), .v (.sc (.int .i64 (a : Int))), .v (.sc (.bool cut)), .v (.sc (.bool many))]) (fr := fr) (size := size) rfl l.length 0 false false (by omega)
  rw [show ((0 : Nat) : Int) = 0 from rfl, List.drop_zero] at w
  by_cases hf : 0 ≤ fr
  ·obtain ⟨i, rfl⟩ : ∃ i : Nat, fr = i := ⟨fr.toNat, by omega⟩
   have hi : i < l.length := by omega
   have hp : l[i]? = some l[i] := List.getElem?_eq_getElem hi
   obtain ⟨p8, pB⟩ := ok.each l[i] (List.getElem_mem hi)
   have hd := pts_at (B := B) hp
   have hpl := ptB_len pB
   have p256 : ∀ x ∈ ptB B l[i], x < 256 := fun x hx => h256 x (List.mem_of_mem_drop (List.mem_of_mem_take hx))
   have q := part_offset e l[i].1 l[i].2.1 l[i].2.2 (ptB B l[i]) (by rw [hpl]; unfold room at *; omega) p256 (by omega)
   have ho := off_lt p256 (by omega)
   have hen : endX B ⟨l, (i : Int), k, a, cut, many⟩ size = decide (65535 < ((offX (ptB B l[i]) / 8 * 8 : Nat) : Int) + size - l[i].2.1 - 8) := by
    unfold endX
    simp only
    rw [if_pos hf, Int.toNat_natCast, hp]
   rw [hen]
   rw [hpl] at q
   unfold room at hB
   have han := andNot7 ho
   have hb2 : l[i].2.1 ≤ 140737488355000 := by omega
   exact wrong_run e hc hi hl hs hb2 (by omega) (by omega) hd q han rfl w (fin _ _ _)
  ·have hf2 : fr = -1 := by omega
   subst hf2
   have hen : endX B ⟨l, -1, k, a, cut, many⟩ size = false := rfl
   rw [hen]
   have f := fin (hopX l 0 false) (twX (-1) l 0 false) false
   generalize hopX l 0 false = hp at *
   generalize twX (-1) l 0 false = tw at *
   generalize ptsC B l = C at *
   generalize l.length = N at *
   generalize defsX [cut, hp, many, tw, false] 0 = D at *
   refine callV_fn e.extwalk_path_wrong fun nd hnd => ?_
   simp (maxSteps := 1000000) (disch := first | omega | (simp only [lnS] <;> omega) | assumption | fail) [extwalk_path_wrong_B, wwS, -List.getD_eq_getElem?_getD, -List.drop_drop, w, f, hc]
end
end Go.Wb.P11

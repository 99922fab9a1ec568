/- Chapter 11: extension headers are gone over. -/
import Derived.Test.YtlbekhmgpfbgnaaWbvP11
set_option maxRecDepth 100000
set_option linter.all false
namespace Go.Wb.P11
open Go Go.Wb Go.Wb.Code Go.Wb.P01
section
variable {E : EnvW} (e : WbvC11Env E)
abbrev wkB (c : CV) (fr k : Int) (a : Nat) (cut many : Bool) : TV := .box [c, .v (.sc (.int .i64 fr)), .v (.sc (.int .i64 k)), .v (.sc (.int .i64 (a : Int))), .v (.sc (.bool cut)), .v (.sc (.bool many))]
abbrev wk0 : TV := .box [.v (.sl 0 []), .v (.sc (.int .i64 0)), .v (.sc (.int .i64 0)), .v (.sc (.int .i64 0)), .v (.sc (.bool false)), .v (.sc (.bool false))]
abbrev wkT (B : List Nat) (b : TV) : TT := updT (updT (updT botT 5 b) 4 wk0) 1 (.val (.sl B.length (bp B)))
abbrev nilC : CV := .v (.sc (.slice none 0 0))
abbrev ptV (k : Int) (a n : Nat) (b : List Nat) : List PV := [.sc (.int .i64 k), .sc (.int .i64 (a : Int)), .sl n (bp b)]
theorem walk_end {B : List Nat} {c : CV} {k fr : Int} {a : Nat} (q : callV E "extwalk.Is" [vi k] [] = some ([rB false], [na], [])) :
 runV E (.loop [1, 4, 5] extwalk_walk_L0) (wkT B (wkB c fr k a false false)) = some (.exit 0, updT (updT botT 5 (wkB c fr k a false false)) 4 wk0) := by
 refine loop_out (by simp (maxSteps := 1000000) (disch := first | omega | (simp only [lnS] <;> omega) | assumption | fail) [extwalk_walk_L0, wwS, -List.getD_eq_getElem?_getD, -List.drop_drop, q]; first | exact ⟨rfl, rfl⟩ | exact rfl) ?_ (by simp)
 rfl
theorem walk_next {B : List Nat} {N a n x : Nat} {C : List PV} {k fr : Int} {R} (hB : B.length ≤ room) (hC : C.length = N * 3) (hN : N < 8) (hn : 4 ≤ n) (han : a + n ≤ B.length) (hx : B.getD a 0 = x) (hx2 : x < 256)
 (q : callV E "extwalk.Is" [vi k] [] = some ([rB true], [na], [])) (q2 : callV E "extwalk.Size" [vi k, .v (.sl (B.length - a) (bp (B.drop a)))] [] = some ([ri (n : Int), rB true], [na, na], [])) (hk : ¬ k = 44)
 (h : runV E (.loop [1, 4, 5] extwalk_walk_L0) (wkT B (wkB (.o (N + 1) 3 (C ++ ptV k a n ((B.drop a).take n))) fr x (a + n) false false)) = R) :
 runV E (.loop [1, 4, 5] extwalk_walk_L0) (wkT B (wkB (.o N 3 C) fr k a false false)) = R := by
 unfold room at hB
 have hz : ((a : Int) + (n : Int)).toNat - a = n := by omega
 have hx3 : (List.take n (List.drop a B)).getD 0 0 = x := by rw [← hx]; simp only [List.getD_eq_getElem?_getD, List.getElem?_take, List.getElem?_drop, Nat.add_zero]; rw [if_pos (by omega)]
 have hN8 : ¬ (N : Int) = 8 := by omega
 subst h
 refine loop_go (by simp (maxSteps := 1000000) (disch := first | omega | (simp only [lnS] <;> omega) | assumption | fail) [extwalk_walk_L0, wwS, -List.getD_eq_getElem?_getD, -List.drop_drop, extwalk_walk_K0, extwalk_walk_K1, extwalk_walk_K2, extwalk_walk_K3, extwalk_walk_K4, extwalk_walk_K5, q, q2, hC, hN8, hz, hx3, hk]; rfl) ?_
 rfl
theorem walk_twice {B : List Nat} {N a n x : Nat} {C : List PV} {fr : Int} {R} (hB : B.length ≤ room) (hC : C.length = N * 3) (hN : N < 8) (hn : 4 ≤ n) (han : a + n ≤ B.length) (hx : B.getD a 0 = x) (hx2 : x < 256)
 (q : callV E "extwalk.Is" [vi 44] [] = some ([rB true], [na], [])) (q2 : callV E "extwalk.Size" [vi 44, .v (.sl (B.length - a) (bp (B.drop a)))] [] = some ([ri (n : Int), rB true], [na, na], [])) (hfr : 0 ≤ fr)
 (h : runV E (.loop [1, 4, 5] extwalk_walk_L0) (wkT B (wkB (.o (N + 1) 3 (C ++ ptV 44 a n ((B.drop a).take n))) fr x (a + n) false false)) = R) :
 runV E (.loop [1, 4, 5] extwalk_walk_L0) (wkT B (wkB (.o N 3 C) fr 44 a false false)) = R := by
 unfold room at hB
 have hz : ((a : Int) + (n : Int)).toNat - a = n := by omega
 have hx3 : (List.take n (List.drop a B)).getD 0 0 = x := by rw [← hx]; simp only [List.getD_eq_getElem?_getD, List.getElem?_take, List.getElem?_drop, Nat.add_zero]; rw [if_pos (by omega)]
 have hN8 : ¬ (N : Int) = 8 := by omega
 subst h
 refine loop_go (by simp (maxSteps := 1000000) (disch := first | omega | (simp only [lnS] <;> omega) | assumption | fail) [extwalk_walk_L0, wwS, -List.getD_eq_getElem?_getD, -List.drop_drop, extwalk_walk_K0, extwalk_walk_K1, extwalk_walk_K2, extwalk_walk_K3, extwalk_walk_K4, extwalk_walk_K5, q, q2, hC, hN8, hz, hx3, hfr]; rfl) ?_
 rfl
theorem walk_frag {B : List Nat} {N a n m x : Nat} {C : List PV} {fr : Int} {R} (hB : B.length ≤ room) (hC : C.length = N * 3) (hN : N < 8) (hn : 4 ≤ n) (han : a + n ≤ B.length) (hx : B.getD a 0 = x) (hx2 : x < 256)
 (q : callV E "extwalk.Is" [vi 44] [] = some ([rB true], [na], [])) (q2 : callV E "extwalk.Size" [vi 44, .v (.sl (B.length - a) (bp (B.drop a)))] [] = some ([ri (n : Int), rB true], [na, na], [])) (q3 : callV E "(extwalk.part).offset" [.v (.agg (ptV 44 a n ((B.drop a).take n)))] [] = some ([ri (m : Int)], [na], [])) (hfr : fr < 0) (hm : m / 8 = 0) (hm2 : m < 65536)
 (h : runV E (.loop [1, 4, 5] extwalk_walk_L0) (wkT B (wkB (.o (N + 1) 3 (C ++ ptV 44 a n ((B.drop a).take n))) (N : Nat) x (a + n) false false)) = R) :
 runV E (.loop [1, 4, 5] extwalk_walk_L0) (wkT B (wkB (.o N 3 C) fr 44 a false false)) = R := by
 unfold room at hB
 have hz : ((a : Int) + (n : Int)).toNat - a = n := by omega
 have hx3 : (List.take n (List.drop a B)).getD 0 0 = x := by rw [← hx]; simp only [List.getD_eq_getElem?_getD, List.getElem?_take, List.getElem?_drop, Nat.add_zero]; rw [if_pos (by omega)]
 have hN8 : ¬ (N : Int) = 8 := by omega
 have hfr2 : ¬ 0 ≤ fr := by omega
 have hm3 : ¬ 0 < (m : Int) / 8 := by omega
 subst h
 refine loop_go (by simp (maxSteps := 1000000) (disch := first | omega | (simp only [lnS] <;> omega) | assumption | fail) [extwalk_walk_L0, wwS, -List.getD_eq_getElem?_getD, -List.drop_drop, extwalk_walk_K0, extwalk_walk_K1, extwalk_walk_K2, extwalk_walk_K3, extwalk_walk_K4, extwalk_walk_K5, q, q2, hC, hN8, q3, hz, hx3, hfr2, hm3]; rfl) ?_
 rfl
theorem walk_later {B : List Nat} {N a n m x : Nat} {C : List PV} {fr : Int} (hB : B.length ≤ room) (hC : C.length = N * 3) (hN : N < 8) (hn : 4 ≤ n) (han : a + n ≤ B.length) (hx : B.getD a 0 = x) (hx2 : x < 256)
 (q : callV E "extwalk.Is" [vi 44] [] = some ([rB true], [na], [])) (q2 : callV E "extwalk.Size" [vi 44, .v (.sl (B.length - a) (bp (B.drop a)))] [] = some ([ri (n : Int), rB true], [na, na], [])) (q3 : callV E "(extwalk.part).offset" [.v (.agg (ptV 44 a n ((B.drop a).take n)))] [] = some ([ri (m : Int)], [na], [])) (hfr : fr < 0) (hm : 0 < m / 8) (hm2 : m < 65536) :
 runV E (.loop [1, 4, 5] extwalk_walk_L0) (wkT B (wkB (.o N 3 C) fr 44 a false false)) = some (.exit 0, updT (updT botT 5 (wkB (.o (N + 1) 3 (C ++ ptV 44 a n ((B.drop a).take n))) (N : Nat) x (a + n) false false)) 4 wk0) := by
 unfold room at hB
 have hz : ((a : Int) + (n : Int)).toNat - a = n := by omega
 have hx3 : (List.take n (List.drop a B)).getD 0 0 = x := by rw [← hx]; simp only [List.getD_eq_getElem?_getD, List.getElem?_take, List.getElem?_drop, Nat.add_zero]; rw [if_pos (by omega)]
 have hN8 : ¬ (N : Int) = 8 := by omega
 have hfr2 : ¬ 0 ≤ fr := by omega
 have hm3 : 0 < (m : Int) / 8 := by omega
 refine loop_out (by simp (maxSteps := 1000000) (disch := first | omega | (simp only [lnS] <;> omega) | assumption | fail) [extwalk_walk_L0, wwS, -List.getD_eq_getElem?_getD, -List.drop_drop, extwalk_walk_K0, extwalk_walk_K1, extwalk_walk_K2, extwalk_walk_K3, extwalk_walk_K4, extwalk_walk_K5, q, q2, hC, hN8, q3, hz, hx3, hfr2, hm3]; first | exact ⟨rfl, rfl⟩ | exact rfl) ?_ (by simp)
 rfl
theorem walk_cut {B : List Nat} {N a : Nat} {C : List PV} {k fr : Int} (hB : B.length ≤ room) (ha : a ≤ B.length) (hC : C.length = N * 3) (hN : N < 8)
 (q : callV E "extwalk.Is" [vi k] [] = some ([rB true], [na], [])) (q2 : callV E "extwalk.Size" [vi k, .v (.sl (B.length - a) (bp (B.drop a)))] [] = some ([ri 0, rB false], [na, na], [])) :
 runV E (.loop [1, 4, 5] extwalk_walk_L0) (wkT B (wkB (.o N 3 C) fr k a false false)) = some (.exit 0, updT (updT botT 5 (wkB (.o N 3 C) fr k a true false)) 4 wk0) := by
 unfold room at hB
 have hN8 : ¬ (N : Int) = 8 := by omega
 refine loop_out (by simp (maxSteps := 1000000) (disch := first | omega | (simp only [lnS] <;> omega) | assumption | fail) [extwalk_walk_L0, wwS, -List.getD_eq_getElem?_getD, -List.drop_drop, extwalk_walk_K0, extwalk_walk_K1, extwalk_walk_K2, extwalk_walk_K3, extwalk_walk_K4, extwalk_walk_K5, q, q2, hC, hN8]; first | exact ⟨rfl, rfl⟩ | exact rfl) ?_ (by simp)
 rfl
theorem walk_next0 {B : List Nat} {a n x : Nat} {k fr : Int} {R} (hB : B.length ≤ room) (hn : 4 ≤ n) (han : a + n ≤ B.length) (hx : B.getD a 0 = x) (hx2 : x < 256)
 (q : callV E "extwalk.Is" [vi k] [] = some ([rB true], [na], [])) (q2 : callV E "extwalk.Size" [vi k, .v (.sl (B.length - a) (bp (B.drop a)))] [] = some ([ri (n : Int), rB true], [na, na], [])) (hk : ¬ k = 44)
 (h : runV E (.loop [1, 4, 5] extwalk_walk_L0) (wkT B (wkB (.o 1 3 (ptV k a n ((B.drop a).take n))) fr x (a + n) false false)) = R) :
 runV E (.loop [1, 4, 5] extwalk_walk_L0) (wkT B (wkB nilC fr k a false false)) = R := by
 unfold room at hB
 have hz : ((a : Int) + (n : Int)).toNat - a = n := by omega
 have hx3 : (List.take n (List.drop a B)).getD 0 0 = x := by rw [← hx]; simp only [List.getD_eq_getElem?_getD, List.getElem?_take, List.getElem?_drop, Nat.add_zero]; rw [if_pos (by omega)]
 subst h
 refine loop_go (by simp (maxSteps := 1000000) (disch := first | omega | (simp only [lnS] <;> omega) | assumption | fail) [extwalk_walk_L0, wwS, -List.getD_eq_getElem?_getD, -List.drop_drop, extwalk_walk_K0, extwalk_walk_K1, extwalk_walk_K2, extwalk_walk_K3, extwalk_walk_K4, extwalk_walk_K5, q, q2, hz, hx3, hk]; rfl) ?_
 rfl
theorem walk_twice0 {B : List Nat} {a n x : Nat} {fr : Int} {R} (hB : B.length ≤ room) (hn : 4 ≤ n) (han : a + n ≤ B.length) (hx : B.getD a 0 = x) (hx2 : x < 256)
 (q : callV E "extwalk.Is" [vi 44] [] = some ([rB true], [na], [])) (q2 : callV E "extwalk.Size" [vi 44, .v (.sl (B.length - a) (bp (B.drop a)))] [] = some ([ri (n : Int), rB true], [na, na], [])) (hfr : 0 ≤ fr)
 (h : runV E (.loop [1, 4, 5] extwalk_walk_L0) (wkT B (wkB (.o 1 3 (ptV 44 a n ((B.drop a).take n))) fr x (a + n) false false)) = R) :
 runV E (.loop [1, 4, 5] extwalk_walk_L0) (wkT B (wkB nilC fr 44 a false false)) = R := by
 unfold room at hB
 have hz : ((a : Int) + (n : Int)).toNat - a = n := by omega
 have hx3 : (List.take n (List.drop a B)).getD 0 0 = x := by rw [← hx]; simp only [List.getD_eq_getElem?_getD, List.getElem?_take, List.getElem?_drop, Nat.add_zero]; rw [if_pos (by omega)]
 subst h
 refine loop_go (by simp (maxSteps := 1000000) (disch := first | omega | (simp only [lnS] <;> omega) | assumption | fail) [extwalk_walk_L0, wwS, -List.getD_eq_getElem?_getD, -List.drop_drop, extwalk_walk_K0, extwalk_walk_K1, extwalk_walk_K2, extwalk_walk_K3, extwalk_walk_K4, extwalk_walk_K5, q, q2, hz, hx3, hfr]; rfl) ?_
 rfl
theorem walk_frag0 {B : List Nat} {a n m x : Nat} {fr : Int} {R} (hB : B.length ≤ room) (hn : 4 ≤ n) (han : a + n ≤ B.length) (hx : B.getD a 0 = x) (hx2 : x < 256)
 (q : callV E "extwalk.Is" [vi 44] [] = some ([rB true], [na], [])) (q2 : callV E "extwalk.Size" [vi 44, .v (.sl (B.length - a) (bp (B.drop a)))] [] = some ([ri (n : Int), rB true], [na, na], [])) (q3 : callV E "(extwalk.part).offset" [.v (.agg (ptV 44 a n ((B.drop a).take n)))] [] = some ([ri (m : Int)], [na], [])) (hfr : fr < 0) (hm : m / 8 = 0) (hm2 : m < 65536)
 (h : runV E (.loop [1, 4, 5] extwalk_walk_L0) (wkT B (wkB (.o 1 3 (ptV 44 a n ((B.drop a).take n))) (0 : Nat) x (a + n) false false)) = R) :
 runV E (.loop [1, 4, 5] extwalk_walk_L0) (wkT B (wkB nilC fr 44 a false false)) = R := by
 unfold room at hB
 have hz : ((a : Int) + (n : Int)).toNat - a = n := by omega
 have hx3 : (List.take n (List.drop a B)).getD 0 0 = x := by rw [← hx]; simp only [List.getD_eq_getElem?_getD, List.getElem?_take, List.getElem?_drop, Nat.add_zero]; rw [if_pos (by omega)]
 have hfr2 : ¬ 0 ≤ fr := by omega
 have hm3 : ¬ 0 < (m : Int) / 8 := by omega
 subst h
 refine loop_go (by simp (maxSteps := 1000000) (disch := first | omega | (simp only [lnS] <;> omega) | assumption | fail) [extwalk_walk_L0, wwS, -List.getD_eq_getElem?_getD, -List.drop_drop, extwalk_walk_K0, extwalk_walk_K1, extwalk_walk_K2, extwalk_walk_K3, extwalk_walk_K4, extwalk_walk_K5, q, q2, q3, hz, hx3, hfr2, hm3]; rfl) ?_
 rfl
theorem walk_later0 {B : List Nat} {a n m x : Nat} {fr : Int} (hB : B.length ≤ room) (hn : 4 ≤ n) (han : a + n ≤ B.length) (hx : B.getD a 0 = x) (hx2 : x < 256)
 (q : callV E "extwalk.Is" [vi 44] [] = some ([rB true], [na], [])) (q2 : callV E "extwalk.Size" [vi 44, .v (.sl (B.length - a) (bp (B.drop a)))] [] = some ([ri (n : Int), rB true], [na, na], [])) (q3 : callV E "(extwalk.part).offset" [.v (.agg (ptV 44 a n ((B.drop a).take n)))] [] = some ([ri (m : Int)], [na], [])) (hfr : fr < 0) (hm : 0 < m / 8) (hm2 : m < 65536) :
 runV E (.loop [1, 4, 5] extwalk_walk_L0) (wkT B (wkB nilC fr 44 a false false)) = some (.exit 0, updT (updT botT 5 (wkB (.o 1 3 (ptV 44 a n ((B.drop a).take n))) (0 : Nat) x (a + n) false false)) 4 wk0) := by
 unfold room at hB
 have hz : ((a : Int) + (n : Int)).toNat - a = n := by omega
 have hx3 : (List.take n (List.drop a B)).getD 0 0 = x := by rw [← hx]; simp only [List.getD_eq_getElem?_getD, List.getElem?_take, List.getElem?_drop, Nat.add_zero]; rw [if_pos (by omega)]
 have hfr2 : ¬ 0 ≤ fr := by omega
 have hm3 : 0 < (m : Int) / 8 := by omega
 refine loop_out (by simp (maxSteps := 1000000) (disch := first | omega | (simp only [lnS] <;> omega) | assumption | fail) [extwalk_walk_L0, wwS, -List.getD_eq_getElem?_getD, -List.drop_drop, extwalk_walk_K0, extwalk_walk_K1, extwalk_walk_K2, extwalk_walk_K3, extwalk_walk_K4, extwalk_walk_K5, q, q2, q3, hz, hx3, hfr2, hm3]; first | exact ⟨rfl, rfl⟩ | exact rfl) ?_ (by simp)
 rfl
theorem walk_cut0 {B : List Nat} {a : Nat} {k fr : Int} (hB : B.length ≤ room) (ha : a ≤ B.length)
 (q : callV E "extwalk.Is" [vi k] [] = some ([rB true], [na], [])) (q2 : callV E "extwalk.Size" [vi k, .v (.sl (B.length - a) (bp (B.drop a)))] [] = some ([ri 0, rB false], [na, na], [])) :
 runV E (.loop [1, 4, 5] extwalk_walk_L0) (wkT B (wkB nilC fr k a false false)) = some (.exit 0, updT (updT botT 5 (wkB nilC fr k a true false)) 4 wk0) := by
 unfold room at hB
 refine loop_out (by simp (maxSteps := 1000000) (disch := first | omega | (simp only [lnS] <;> omega) | assumption | fail) [extwalk_walk_L0, wwS, -List.getD_eq_getElem?_getD, -List.drop_drop, extwalk_walk_K0, extwalk_walk_K1, extwalk_walk_K2, extwalk_walk_K3, extwalk_walk_K4, extwalk_walk_K5, q, q2]; first | exact ⟨rfl, rfl⟩ | exact rfl) ?_ (by simp)
 rfl
theorem walk_many {B : List Nat} {a : Nat} {C : List PV} {k fr : Int} {z : Int} {ok : Bool} (hB : B.length ≤ room) (ha : a ≤ B.length)
 (q : callV E "extwalk.Is" [vi k] [] = some ([rB true], [na], [])) (q2 : callV E "extwalk.Size" [vi k, .v (.sl (B.length - a) (bp (B.drop a)))] [] = some ([ri z, rB ok], [na, na], [])) :
 runV E (.loop [1, 4, 5] extwalk_walk_L0) (wkT B (wkB (.o 8 3 C) fr k a false false)) = some (.exit 0, updT (updT botT 5 (wkB (.o 8 3 C) fr k a false true)) 4 wk0) := by
 unfold room at hB
 refine loop_out (by simp (maxSteps := 1000000) (disch := first | omega | (simp only [lnS] <;> omega) | assumption | fail) [extwalk_walk_L0, wwS, -List.getD_eq_getElem?_getD, -List.drop_drop, extwalk_walk_K0, extwalk_walk_K1, extwalk_walk_K2, extwalk_walk_K3, extwalk_walk_K4, extwalk_walk_K5, q, q2]; first | exact ⟨rfl, rfl⟩ | exact rfl) ?_ (by simp)
 rfl
end
end Go.Wb.P11

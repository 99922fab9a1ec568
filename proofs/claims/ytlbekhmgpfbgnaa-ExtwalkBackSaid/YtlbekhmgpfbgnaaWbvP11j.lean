/- Chapter 11: lists told alike; the law of what extension headers come to. -/
import Derived.Test.YtlbekhmgpfbgnaaWbvP11i
set_option maxRecDepth 100000
set_option linter.all false
namespace Go.Wb.P11
open Go Go.Wb Go.Wb.Code Go.Wb.P01
section
variable {E : EnvW} (e : WbvC11Env E) (es : WbvCslEnv E) (e1 : WbvC01Env E)
theorem rlist_step {C X : List PV} {B b2 : List Nat} {N i pa n M : Nat} {k : Int} {R} (hB : B.length ≤ room) (hC : C.length = N * 3) (hi : i < N) (hN : N ≤ 8) (hX : X.length = M * 2) (hM : M ≤ 8) (h8 : 8 ≤ n) (hn : pa + n ≤ B.length)
 (h0 : cellP C (i * 3) = some (.sc (.int .i64 (pa : Int)))) (h1 : cellP C (i * 3 + 1) = some (.sc (.int .i64 k))) (h2 : cellP C (i * 3 + 2) = some (.sc (.int .i64 (n : Int))))
 (htk : List.take (n - 2) (List.drop (pa + 2) B) = b2) (hb2 : b2.length = n - 2)
 (q : callV E "ref01.Join" [.v (.sl 1 [.sl (n - 2) (bp b2)])] [] = some ([.o (n - 2) 1 (bp b2)], [na], []))
 (hr : runV E (.loop [1, 5, 9, 10] ref11_List_L0) (updT (updT (updT (updT botT 10 (ti .i64 (i + 1 : Nat))) 9 (.own (M + 1) 2 (X ++ exV k (n - 2) b2))) 5 (.own N 3 C)) 1 (.val (.sl B.length (bp B)))) = R) :
 runV E (.loop [1, 5, 9, 10] ref11_List_L0) (updT (updT (updT (updT botT 10 (ti .i64 (i : Int))) 9 (.own M 2 X)) 5 (.own N 3 C)) 1 (.val (.sl B.length (bp B)))) = R := by
 unfold room at hB
 have c1 : (i : Int) < N := by omega
 have c2 : i * 3 + 3 ≤ N * 3 := by omega
 have c3 : ((pa : Int) + n).toNat - (pa + 2) = n - 2 := by omega
 have c4 : ((pa : Int) + 2).toNat = pa + 2 := by omega
 subst hr
 refine loop_go (by simp (maxSteps := 1000000) (disch := first | omega | (simp only [lnS] <;> omega) | assumption | fail) [ref11_List_L0, wwS, -List.getD_eq_getElem?_getD, -List.drop_drop, hC, hi, c1, c2, hX, h0, h1, h2, c3, c4, htk, hb2, q]; rfl) ?_
 rfl
theorem rlist_out {C X : List PV} {B : List Nat} {N M : Nat} : runV E (.loop [1, 5, 9, 10] ref11_List_L0) (updT (updT (updT (updT botT 10 (ti .i64 (N : Int))) 9 (.own M 2 X)) 5 (.own N 3 C)) 1 (.val (.sl B.length (bp B)))) = some (.exit 0, updT botT 9 (.own M 2 X)) := by
 have c1 : ¬ (N : Int) < N := by omega
 refine loop_out (by simp (maxSteps := 1000000) (disch := first | omega | (simp only [lnS] <;> omega) | assumption | fail) [ref11_List_L0, wwS, -List.getD_eq_getElem?_getD, -List.drop_drop, c1]; first | exact ⟨rfl, rfl⟩ | exact rfl) ?_ (by simp)
 rfl
include e1 in
theorem rlist_loop (B : List Nat) (hB : B.length ≤ room) (L : List (Int × Nat × Nat)) (hL : L.length ≤ 8) (each : ∀ p ∈ L, 8 ≤ p.2.2 ∧ p.2.1 + p.2.2 ≤ B.length) : ∀ (m i : Nat) (X : List (Int × List Nat)), i + m = L.length → X.length = i →
 runV E (.loop [1, 5, 9, 10] ref11_List_L0) (updT (updT (updT (updT botT 10 (ti .i64 (i : Int))) 9 (.own i 2 (exC X))) 5 (.own L.length 3 (stC L))) 1 (.val (.sl B.length (bp B)))) =
  some (.exit 0, updT botT 9 (.own L.length 2 (exC (X ++ (L.drop i).map fun p => (p.1, (ptB B p).drop 2)))))
 | 0, i, X, hm, hX => by
   have hi : i = L.length := by omega
   subst hi
   rw [List.drop_length, List.map_nil, List.append_nil]
   exact rlist_out
 | m + 1, i, X, hm, hX => by
   have hi : i < L.length := by omega
   have hp : L[i]? = some L[i] := List.getElem?_eq_getElem hi
   obtain ⟨h0, h1, h2⟩ := cell_of (st_at hp)
   obtain ⟨p8, pB⟩ := each L[i] (List.getElem_mem hi)
   have hpl := ptB_len pB
   have hbl : ((ptB B L[i]).drop 2).length = L[i].2.2 - 2 := by rw [List.length_drop, hpl]
   have htk : List.take (L[i].2.2 - 2) (List.drop (L[i].2.1 + 2) B) = (ptB B L[i]).drop 2 := by
    unfold ptB
    rw [List.drop_take, List.drop_drop]
   have q := ref01_Join1 e1 ((ptB B L[i]).drop 2) (by rw [hbl]; unfold room at *; omega)
   have q : callV E "ref01.Join" [.v (.sl 1 [.sl (L[i].2.2 - 2) (bp ((ptB B L[i]).drop 2))])] [] = some ([.o (L[i].2.2 - 2) 1 (bp ((ptB B L[i]).drop 2))], [na], []) := by rw [← hbl]; exact q
   have ih := rlist_loop B hB L hL each m (i + 1) (X ++ [(L[i].1, (ptB B L[i]).drop 2)]) (by omega) (by simp [hX])
   rw [exC_add, hbl] at ih
   rw [List.drop_eq_getElem_cons hi, List.map_cons]
   rw [show X ++ (L[i].1, (ptB B L[i]).drop 2) :: (L.drop (i + 1)).map (fun p => (p.1, (ptB B p).drop 2)) = (X ++ [(L[i].1, (ptB B L[i]).drop 2)]) ++ (L.drop (i + 1)).map (fun p => (p.1, (ptB B p).drop 2)) by simp]
   exact rlist_step hB stC_len hi hL (by rw [exC_len, hX]) (by omega) p8 pB h0 h1 h2 htk hbl q ih
include e e1 in
theorem ref11_List (k : Int) (B : List Nat) (hB : B.length ≤ room) (h256 : ∀ x ∈ B, x < 256) :
 callV E "ref11.List" [vi k, vb B] [] = some ([.o (listX k B).length 2 (exC (listX k B))], [na, na], []) := by
 have q1 := ref11_way e k B hB h256
 obtain ⟨ok, ha⟩ := path_ok k B
 unfold listX
 generalize pathX k B = s at *
 obtain ⟨l, fr, nx, a, cut, many⟩ := s
 simp only at q1 ⊢
 have h := rlist_loop e1 B hB l ok.n ok.each l.length 0 [] (by omega) rfl
 rw [show ((0 : Nat) : Int) = 0 from rfl, List.drop_zero, List.nil_append] at h
 have h : runV E (.loop [1, 5, 9, 10] ref11_List_L0) (updT (updT (updT (updT botT 10 (ti .i64 0)) 9 (.own 0 2 [])) 5 (.own l.length 3 (stC l))) 1 (.val (.sl B.length (bp B)))) = _ := h
 rw [List.length_map]
 generalize exC (l.map fun p => (p.1, (ptB B p).drop 2)) = Y at *
 generalize stC l = C at *
 refine callV_fn e.ref11_List fun nd hnd => ?_
 simp (maxSteps := 1000000) (disch := first | omega | (simp only [lnS] <;> omega) | assumption | fail) [ref11_List_B, wwS, -List.getD_eq_getElem?_getD, -List.drop_drop, q1, h]
theorem sd_loop (X : List Int) {N : Nat} (hN : N = X.length) (hl : N ≤ 100) : ∀ (m i : Nat), i + m = N →
 runV E (.loop [0, 1, 5] ref10_SameDefects_L0) (updT (updT (updT botT 5 (ti .i64 (i : Int))) 1 (.val (.sl N (ip X)))) 0 (.val (.sl N (ip X)))) = some (.exit 0, botT)
 | 0, i, hm => by
   have c1 : ¬ (i : Int) < N := by omega
   refine loop_out (by simp (maxSteps := 1000000) (disch := first | omega | (simp only [lnS] <;> omega) | assumption | fail) [ref10_SameDefects_L0, wwS, -List.getD_eq_getElem?_getD, -List.drop_drop, c1]; first | exact ⟨rfl, rfl⟩ | exact rfl) ?_ (by simp)
   rfl
 | m + 1, i, hm => by
   have ih := sd_loop X hN hl m (i + 1) (by omega)
   have c1 : (i : Int) < N := by omega
   have c2 : i < N := by omega
   have c3 : i < X.length := by omega
   obtain ⟨x, hx⟩ : ∃ x, cellP (ip X) i = some (.sc (.int .i64 x)) := ⟨X[i], by simp [cellP, mp, c3]⟩
   have hl2 : (ip X).length = N := by simp [mp, hN]
   generalize ip X = Y at *
   refine loop_go (by simp (maxSteps := 1000000) (disch := first | omega | (simp only [lnS] <;> omega) | assumption | fail) [ref10_SameDefects_L0, wwS, -List.getD_eq_getElem?_getD, -List.drop_drop, c1, c2, hx, hl2]; rfl) ?_
   exact ih
include e in
theorem SameDefects (X : List Int) (hl : X.length ≤ 100) : callV E "ref10.SameDefects" [.v (.sl X.length (ip X)), .v (.sl X.length (ip X))] [] = some ([rB true], [na, na], []) := by
 have h := sd_loop (E := E) X rfl hl X.length 0 (by omega)
 rw [show ((0 : Nat) : Int) = 0 from rfl] at h
 generalize X.length = N at *
 generalize ip X = Y at *
 refine callV_fn e.ref10_SameDefects fun nd hnd => ?_
 simp (maxSteps := 1000000) (disch := first | omega | (simp only [lnS] <;> omega) | assumption | fail) [ref10_SameDefects_B, wwS, -List.getD_eq_getElem?_getD, -List.drop_drop, h]
theorem ex_at : ∀ {l : List (Int × List Nat)} {i : Nat} {p : Int × List Nat}, l[i]? = some p → cellP (exC l) (i * 2) = some (.sc (.int .i64 p.1)) ∧ cellP (exC l) (i * 2 + 1) = some (.sl p.2.length (bp p.2))
 | [], i, p, h => by cases h
 | q :: l, 0, p, h => by
   simp at h
   subst h
   unfold exC cellP
   simp
 | q :: l, i + 1, p, h => by
   have ih := ex_at (l := l) (i := i) (p := p) (by simpa using h)
   have e : exC (q :: l) = exV q.1 q.2.length q.2 ++ exC l := by unfold exC; simp
   rw [e]
   unfold cellP at *
   rw [show (i + 1) * 2 = i * 2 + 2 by omega, show i * 2 + 2 + 1 = (i * 2 + 1) + 2 by omega]
   exact ih
include e1 in
theorem se_loop (X : List (Int × List Nat)) {N : Nat} (hN : N = X.length) (hl : N ≤ 100000000) (hb : ∀ p ∈ X, p.2.length ≤ room) : ∀ (m i : Nat), i + m = N →
 runV E (.loop [0, 1, 5] ref10_SameExts_L0) (updT (updT (updT botT 5 (ti .i64 (i : Int))) 1 (.val (.sl N (exC X)))) 0 (.val (.sl N (exC X)))) = some (.exit 0, botT)
 | 0, i, hm => by
   have c1 : ¬ (i : Int) < N := by omega
   generalize exC X = Y
   refine loop_out (by simp (maxSteps := 1000000) (disch := first | omega | (simp only [lnS] <;> omega) | assumption | fail) [ref10_SameExts_L0, wwS, -List.getD_eq_getElem?_getD, -List.drop_drop, c1]; first | exact ⟨rfl, rfl⟩ | exact rfl) ?_ (by simp)
   rfl
 | m + 1, i, hm => by
   have ih := se_loop X hN hl hb m (i + 1) (by omega)
   have c1 : (i : Int) < N := by omega
   have c2 : i < N := by omega
   have c3 : i < X.length := by omega
   have c4 : i * 2 + 2 ≤ N * 2 := by omega
   obtain ⟨h0, h1⟩ := ex_at (l := X) (i := i) (p := X[i]) (List.getElem?_eq_getElem c3)
   have q := ref01_SameBytes e1 X[i].2 X[i].2 (hb _ (List.getElem_mem c3))
   rw [decide_eq_true rfl] at q
   have hl2 : (exC X).length = N * 2 := by rw [exC_len, hN]
   generalize exC X = Y at *
   generalize X[i] = p at *
   refine loop_go (by simp (maxSteps := 1000000) (disch := first | omega | (simp only [lnS] <;> omega) | assumption | fail) [ref10_SameExts_L0, wwS, -List.getD_eq_getElem?_getD, -List.drop_drop, c1, c2, c4, h0, h1, hl2, q]; rfl) ?_
   exact ih
include e e1 in
theorem SameExts (X : List (Int × List Nat)) (hl : X.length ≤ 100000000) (hb : ∀ p ∈ X, p.2.length ≤ room) : callV E "ref10.SameExts" [.v (.sl X.length (exC X)), .v (.sl X.length (exC X))] [] = some ([rB true], [na, na], []) := by
 have h := se_loop e1 X rfl hl hb X.length 0 (by omega)
 rw [show ((0 : Nat) : Int) = 0 from rfl] at h
 generalize X.length = N at *
 generalize exC X = Y at *
 refine callV_fn e.ref10_SameExts fun nd hnd => ?_
 simp (maxSteps := 1000000) (disch := first | omega | (simp only [lnS] <;> omega) | assumption | fail) [ref10_SameExts_B, wwS, -List.getD_eq_getElem?_getD, -List.drop_drop, h]
theorem defs_len (F : List Bool) : ∀ i, (defsX F i).length ≤ F.length := by
 induction F with
 | nil => intro i; exact Nat.le_refl _
 | cons f F ih =>
   intro i
   have := ih (i + 1)
   rw [defsX, List.length_append]
   split <;> simp <;> omega
theorem goX_len (k : Int) (B : List Nat) : (goX k B).1.length = 5 ∧ (goX k B).2.length ≤ 5 := by
 unfold goX
 simp only
 split
 ·refine ⟨?_, by simp⟩
  unfold goW
  split <;> rfl
 ·exact ⟨rfl, defs_len _ 0⟩
theorem list_bound (k : Int) (B : List Nat) (hB : B.length ≤ room) : (listX k B).length ≤ 8 ∧ ∀ p ∈ listX k B, p.2.length ≤ room := by
 obtain ⟨ok, _⟩ := path_ok k B
 unfold listX
 refine ⟨by rw [List.length_map]; exact ok.n, fun p hp => ?_⟩
 obtain ⟨q, hq, rfl⟩ := List.mem_map.1 hp
 have := ok.each q hq
 have hl := ptB_len this.2
 simp only [List.length_drop]
 omega
include e in
theorem live : callV E "law11.live" [] [] = some ([rB true], [], []) := by
 rw [callV_prim e.law11_live]; rfl
include e in
theorem goes_run {k : Int} {B : List Nat} {a b c d g : Int} {N M : Nat} {D Y : List PV} {n : Int} {ok is : Bool} (hB : B.length ≤ room) (hlive : callV E "law11.live" [] [] = some ([rB true], [], []))
 (g1 : callV E "extwalk.Go" [vi k, vb B] [] = some ([.v (.agg [.sc (.int .i64 a), .sc (.int .i64 b), .sc (.int .i64 c), .sc (.int .i64 d), .sc (.int .i64 g)]), .o N 1 D], [na, na], []))
 (g2 : callV E "ref11.Go" [vi k, vb B] [] = some ([.v (.agg [.sc (.int .i64 a), .sc (.int .i64 b), .sc (.int .i64 c), .sc (.int .i64 d), .sc (.int .i64 g)]), .o N 1 D], [na, na], []))
 (s1 : callV E "extwalk.Size" [vi k, vb B] [] = some ([ri n, rB ok], [na, na], [])) (s2 : callV E "ref11.Size" [vi k, vb B] [] = some ([ri n, rB ok], [na, na], []))
 (i1 : callV E "extwalk.Is" [vi k] [] = some ([rB is], [na], [])) (i2 : callV E "ref11.Is" [vi k] [] = some ([rB is], [na], []))
 (l1 : callV E "extwalk.List" [vi k, vb B] [] = some ([.o M 2 Y], [na, na], [])) (l2 : callV E "ref11.List" [vi k, vb B] [] = some ([.o M 2 Y], [na, na], []))
 (c1 : callV E "ref10.SameDefects" [.v (.sl N D), .v (.sl N D)] [] = some ([rB true], [na, na], [])) (c2 : callV E "ref10.SameExts" [.v (.sl M Y), .v (.sl M Y)] [] = some ([rB true], [na, na], [])) :
 callV E "law11.ExtwalkGoes" [vi k, vb B] [] = some ([rB true], [na, na], []) := by
 unfold room at hB
 refine callV_fn e.law11_ExtwalkGoes fun nd hnd => ?_
 simp (maxSteps := 1000000) (disch := first | omega | (simp only [lnS] <;> omega) | assumption | fail) [law11_ExtwalkGoes_B, wwS, -List.getD_eq_getElem?_getD, -List.drop_drop, g1, g2, s1, s2, i1, i2, l1, l2, c1, c2, hlive]
include e es e1 in
theorem law_ExtwalkGoes (B : Nat) (avs : List PV) (ha : PArgs B [.int .i64, .sl 1 1 (.int .u8)] avs) : ∃ o ho, callV E "law11.ExtwalkGoes" (avs.map .v) [] = some ([rB true], o, ho) := by
 simp only [PArgs] at ha
 obtain ⟨v0, _, rfl, a0, v1, _, rfl, a1, rfl⟩ := ha
 obtain ⟨k, rfl, _⟩ := pv_int a0
 obtain ⟨b, rfl, h256, hB, _⟩ := pv_bytesR a1
 refine ⟨[na, na], [], ?_⟩
 have g1 := extwalk_Go e k b hB h256
 have g2 := ref11_Go e k b hB h256
 obtain ⟨h5, hD⟩ := goX_len k b
 have c1 := SameDefects e (goX k b).2 (by omega)
 obtain ⟨b8, bl⟩ := list_bound k b hB
 generalize (goX k b).2 = D at *
 generalize (goX k b).1 = W at *
 match W, h5 with
 | [x1, x2, x3, x4, x5], _ =>
 exact goes_run e hB (live e) g1 g2 (extwalk_Size e k b hB h256) (ref11_Size e k b hB h256) (extwalk_Is e k) (ref11_Is e k) (extwalk_List e es k b hB h256) (ref11_List e e1 k b hB h256) c1 (SameExts e e1 (listX k b) (by omega) bl)
end
end Go.Wb.P11

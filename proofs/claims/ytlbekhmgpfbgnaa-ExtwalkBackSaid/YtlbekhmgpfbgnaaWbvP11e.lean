/- Chapter 11: what extension headers come to. -/
import Derived.Test.YtlbekhmgpfbgnaaWbvP11d
import Derived.Test.YtlbekhmgpfbgnaaWbvCsl
set_option maxRecDepth 100000
set_option linter.all false
namespace Go.Wb.P11
open Go Go.Wb Go.Wb.Code Go.Wb.P01
theorem walk_ok (B : List Nat) : ∀ (f : Nat) (s : St), 9 ≤ f + s.parts.length → s.at_ ≤ B.length → PathOk B s → PathOk B (walkX B f s) ∧ (walkX B f s).at_ ≤ B.length
 | 0, s, hf, ha, ok => by have := ok.n; omega
 | f + 1, s, hf, ha, ok => by
   unfold walkX
   split
   ·exact ⟨ok, ha⟩
   ·split
    ·exact ⟨⟨ok.n, ok.each, ok.frag⟩, ha⟩
    ·rename_i h8
     split
     ·exact ⟨⟨ok.n, ok.each, ok.frag⟩, ha⟩
     ·rename_i n hs
      obtain ⟨n8, nl, _⟩ := sizeX_some hs
      rw [List.length_drop] at nl
      have hn := ok.n
      have hlen : (nextX B s n).parts.length = s.parts.length + 1 := by simp [nextX]
      have each : ∀ p ∈ (nextX B s n).parts, 8 ≤ p.2.2 ∧ p.2.1 + p.2.2 ≤ B.length := by
       intro p hp
       rcases List.mem_append.1 hp with hp | hp
       ·exact ok.each p hp
       ·simp at hp
        subst hp
        exact ⟨n8, by show s.at_ + n ≤ B.length; omega⟩
      have ok1 : PathOk B (nextX B s n) := ⟨by omega, each, ok.frag.1, by have := ok.frag.2; show s.frag < _; rw [hlen]; omega⟩
      have ok2 : PathOk B { nextX B s n with frag := s.parts.length } := ⟨by show (nextX B s n).parts.length ≤ 8; omega, each, by show -1 ≤ (s.parts.length : Int); omega, by show (s.parts.length : Int) < (nextX B s n).parts.length; rw [hlen]; omega⟩
      have ha1 : (nextX B s n).at_ ≤ B.length := by show s.at_ + n ≤ B.length; omega
      split
      ·exact walk_ok B f _ (by rw [hlen]; omega) ha1 ok1
      ·split
       ·exact ⟨ok2, ha1⟩
       ·exact walk_ok B f _ (by show 9 ≤ f + (nextX B s n).parts.length; rw [hlen]; omega) ha1 ok2
def pathX (k : Int) (B : List Nat) : St := walkX B 9 (st0 k)
theorem path_ok (k : Int) (B : List Nat) : PathOk B (pathX k B) ∧ (pathX k B).at_ ≤ B.length :=
 walk_ok B 9 (st0 k) (by simp [st0]) (Nat.zero_le _) ⟨by simp [st0], by simp [st0], by simp [st0]⟩
def fragO (B : List Nat) (s : St) : Nat := match s.parts[s.frag.toNat]? with | some p => offX (ptB B p) | none => 0
def goW (B : List Nat) (s : St) : List Int := if 0 ≤ s.frag then [s.next, s.at_, if 0 < fragO B s / 8 then 2 else if fragO B s % 2 = 0 then 0 else 1, (fragO B s / 8 : Nat), s.parts.length] else [s.next, s.at_, 0, 0, s.parts.length]
def goX (k : Int) (B : List Nat) : List Int × List Int :=
 let s := pathX k B
 if wrongX B s B.length = [] then (goW B s, []) else ([0, 0, 0, 0, 0], wrongX B s B.length)
section
variable {E : EnvW} (e : WbvC11Env E) (es : WbvCslEnv E)
include e in
theorem go_bad {k : Int} {B : List Nat} {D : List PV} {N : Nat} {c : PV} {fr nx : Int} {a : Nat} {cut many : Bool} (hN : 0 < N) (hB : B.length ≤ room)
 (q1 : callV E "extwalk.walk" [vi k, vb B] [] = some ([.v (.agg [c, .sc (.int .i64 fr), .sc (.int .i64 nx), .sc (.int .i64 (a : Int)), .sc (.bool cut), .sc (.bool many)])], [na, na], []))
 (q2 : callV E "(extwalk.path).wrong" [.v (.agg [c, .sc (.int .i64 fr), .sc (.int .i64 nx), .sc (.int .i64 (a : Int)), .sc (.bool cut), .sc (.bool many)]), vi B.length] [] = some ([.o N 1 D], [na, na], [])) :
 callV E "extwalk.Go" [vi k, vb B] [] = some ([.v (.agg [.sc (.int .i64 0), .sc (.int .i64 0), .sc (.int .i64 0), .sc (.int .i64 0), .sc (.int .i64 0)]), .o N 1 D], [na, na], []) := by
 unfold room at hB
 refine callV_fn e.extwalk_Go fun nd hnd => ?_
 simp (maxSteps := 1000000) (disch := first | omega | (simp only [lnS] <;> omega) | assumption | fail) [extwalk_Go_B, wwS, -List.getD_eq_getElem?_getD, -List.drop_drop, q1, q2, hN]
include e in
theorem go_none {k : Int} {B : List Nat} {M : Nat} {c : PV} {fr nx : Int} {a : Nat} {cut many : Bool} (hB : B.length ≤ room) (hf : fr < 0) (hc : slLen (.val c) = some M) (hca : ∀ l, c ≠ .agg l)
 (q1 : callV E "extwalk.walk" [vi k, vb B] [] = some ([.v (.agg [c, .sc (.int .i64 fr), .sc (.int .i64 nx), .sc (.int .i64 (a : Int)), .sc (.bool cut), .sc (.bool many)])], [na, na], []))
 (q2 : callV E "(extwalk.path).wrong" [.v (.agg [c, .sc (.int .i64 fr), .sc (.int .i64 nx), .sc (.int .i64 (a : Int)), .sc (.bool cut), .sc (.bool many)]), vi B.length] [] = some ([.o 0 1 []], [na, na], [])) :
 callV E "extwalk.Go" [vi k, vb B] [] = some ([.v (.agg [.sc (.int .i64 nx), .sc (.int .i64 (a : Int)), .sc (.int .i64 0), .sc (.int .i64 0), .sc (.int .i64 M)]), .o 0 1 []], [na, na], []) := by
 have hf2 : ¬ 0 ≤ fr := by omega
 unfold room at hB
 refine callV_fn e.extwalk_Go fun nd hnd => ?_
 simp (maxSteps := 1000000) (disch := first | omega | (simp only [lnS] <;> omega) | assumption | fail) [extwalk_Go_B, wwS, -List.getD_eq_getElem?_getD, -List.drop_drop, q1, q2, hc, hf2]
include e in
theorem go_later {k : Int} {B : List Nat} {C : List PV} {N i pa pn : Nat} {nx pk : Int} {pb : List Nat} {o a : Nat} {cut many : Bool} (hB : B.length ≤ room) (hc : C.length = N * 3) (hi : i < N) (hN : N ≤ 8) (ho : o < 65536) (h8 : 0 < o / 8)
 (hd : List.take 3 (List.drop (i * 3) C) = [.sc (.int .i64 pk), .sc (.int .i64 (pa : Int)), .sl pn (bp pb)])
 (q : callV E "(extwalk.part).offset" [.v (.agg [.sc (.int .i64 pk), .sc (.int .i64 (pa : Int)), .sl pn (bp pb)])] [] = some ([ri (o : Int)], [na], []))
 (q1 : callV E "extwalk.walk" [vi k, vb B] [] = some ([.v (.agg [.sl N C, .sc (.int .i64 (i : Int)), .sc (.int .i64 nx), .sc (.int .i64 (a : Int)), .sc (.bool cut), .sc (.bool many)])], [na, na], []))
 (q2 : callV E "(extwalk.path).wrong" [.v (.agg [.sl N C, .sc (.int .i64 (i : Int)), .sc (.int .i64 nx), .sc (.int .i64 (a : Int)), .sc (.bool cut), .sc (.bool many)]), vi B.length] [] = some ([.o 0 1 []], [na, na], [])) :
 callV E "extwalk.Go" [vi k, vb B] [] = some ([.v (.agg [.sc (.int .i64 nx), .sc (.int .i64 (a : Int)), .sc (.int .i64 2), .sc (.int .i64 (o / 8 : Nat)), .sc (.int .i64 N)]), .o 0 1 []], [na, na], []) := by
 unfold room at hB
 have c2 : i * 3 + 3 ≤ N * 3 := by omega
 have c3 : 0 < (o : Int) / 8 := by omega
 refine callV_fn e.extwalk_Go fun nd hnd => ?_
 simp (maxSteps := 1000000) (disch := first | omega | (simp only [lnS] <;> omega) | assumption | fail) [extwalk_Go_B, wwS, -List.getD_eq_getElem?_getD, -List.drop_drop, q1, q2, hc, hi, hd, q, c2, c3]
include e in
theorem go_first {k : Int} {B : List Nat} {C : List PV} {N i pa pn : Nat} {nx pk : Int} {pb : List Nat} {o a : Nat} {cut many : Bool} (hB : B.length ≤ room) (hc : C.length = N * 3) (hi : i < N) (hN : N ≤ 8) (ho : o < 65536) (h8 : o / 8 = 0) (h2 : ¬ o % 2 = 0)
 (hd : List.take 3 (List.drop (i * 3) C) = [.sc (.int .i64 pk), .sc (.int .i64 (pa : Int)), .sl pn (bp pb)])
 (q : callV E "(extwalk.part).offset" [.v (.agg [.sc (.int .i64 pk), .sc (.int .i64 (pa : Int)), .sl pn (bp pb)])] [] = some ([ri (o : Int)], [na], []))
 (q1 : callV E "extwalk.walk" [vi k, vb B] [] = some ([.v (.agg [.sl N C, .sc (.int .i64 (i : Int)), .sc (.int .i64 nx), .sc (.int .i64 (a : Int)), .sc (.bool cut), .sc (.bool many)])], [na, na], []))
 (q2 : callV E "(extwalk.path).wrong" [.v (.agg [.sl N C, .sc (.int .i64 (i : Int)), .sc (.int .i64 nx), .sc (.int .i64 (a : Int)), .sc (.bool cut), .sc (.bool many)]), vi B.length] [] = some ([.o 0 1 []], [na, na], [])) :
 callV E "extwalk.Go" [vi k, vb B] [] = some ([.v (.agg [.sc (.int .i64 nx), .sc (.int .i64 (a : Int)), .sc (.int .i64 1), .sc (.int .i64 (o / 8 : Nat)), .sc (.int .i64 N)]), .o 0 1 []], [na, na], []) := by
 unfold room at hB
 have c2 : i * 3 + 3 ≤ N * 3 := by omega
 have c3 : ¬ 0 < (o : Int) / 8 := by omega
 have c4 : ¬ (o : Int) % 2 = 0 := by omega
 have c5 : (o : Int) / 8 = 0 := by omega
 refine callV_fn e.extwalk_Go fun nd hnd => ?_
 simp (maxSteps := 1000000) (disch := first | omega | (simp only [lnS] <;> omega) | assumption | fail) [extwalk_Go_B, wwS, -List.getD_eq_getElem?_getD, -List.drop_drop, q1, q2, hc, hi, hd, q, c2, c3, c4, c5]
include e in
theorem go_whole {k : Int} {B : List Nat} {C : List PV} {N i pa pn : Nat} {nx pk : Int} {pb : List Nat} {o a : Nat} {cut many : Bool} (hB : B.length ≤ room) (hc : C.length = N * 3) (hi : i < N) (hN : N ≤ 8) (ho : o < 65536) (h8 : o / 8 = 0) (h2 : o % 2 = 0)
 (hd : List.take 3 (List.drop (i * 3) C) = [.sc (.int .i64 pk), .sc (.int .i64 (pa : Int)), .sl pn (bp pb)])
 (q : callV E "(extwalk.part).offset" [.v (.agg [.sc (.int .i64 pk), .sc (.int .i64 (pa : Int)), .sl pn (bp pb)])] [] = some ([ri (o : Int)], [na], []))
 (q1 : callV E "extwalk.walk" [vi k, vb B] [] = some ([.v (.agg [.sl N C, .sc (.int .i64 (i : Int)), .sc (.int .i64 nx), .sc (.int .i64 (a : Int)), .sc (.bool cut), .sc (.bool many)])], [na, na], []))
 (q2 : callV E "(extwalk.path).wrong" [.v (.agg [.sl N C, .sc (.int .i64 (i : Int)), .sc (.int .i64 nx), .sc (.int .i64 (a : Int)), .sc (.bool cut), .sc (.bool many)]), vi B.length] [] = some ([.o 0 1 []], [na, na], [])) :
 callV E "extwalk.Go" [vi k, vb B] [] = some ([.v (.agg [.sc (.int .i64 nx), .sc (.int .i64 (a : Int)), .sc (.int .i64 0), .sc (.int .i64 (o / 8 : Nat)), .sc (.int .i64 N)]), .o 0 1 []], [na, na], []) := by
 unfold room at hB
 have c2 : i * 3 + 3 ≤ N * 3 := by omega
 have c3 : ¬ 0 < (o : Int) / 8 := by omega
 have c4 : (o : Int) % 2 = 0 := by omega
 have c5 : (o : Int) / 8 = 0 := by omega
 refine callV_fn e.extwalk_Go fun nd hnd => ?_
 simp (maxSteps := 1000000) (disch := first | omega | (simp only [lnS] <;> omega) | assumption | fail) [extwalk_Go_B, wwS, -List.getD_eq_getElem?_getD, -List.drop_drop, q1, q2, hc, hi, hd, q, c2, c3, c4, c5]
include e in
theorem extwalk_Go (k : Int) (B : List Nat) (hB : B.length ≤ room) (h256 : ∀ x ∈ B, x < 256) :
 callV E "extwalk.Go" [vi k, vb B] [] = some ([.v (.agg (ip (goX k B).1)), .o (goX k B).2.length 1 (ip (goX k B).2)], [na, na], []) := by
 have q1 := extwalk_walk e k B hB h256
 obtain ⟨ok, ha⟩ := path_ok k B
 have q2 := path_wrong e B hB h256 (pathX k B) ok B.length hB
 unfold goX
 have e0 : walkX B 9 (st0 k) = pathX k B := rfl
 rw [e0] at q1
 generalize pathX k B = s at *
 simp only
 by_cases hw : wrongX B s B.length = []
 ·rw [if_pos hw]
  rw [hw] at q2
  have q2 : callV E "(extwalk.path).wrong" [.v (.agg (pathC B s)), vi B.length] [] = some ([.o 0 1 []], [na, na], []) := q2
  unfold goW
  obtain ⟨l, fr, nx, a, cut, many⟩ := s
  have hl : l.length ≤ 8 := ok.n
  have hfr2 : fr < l.length := ok.frag.2
  unfold pathC cellP' at q1 q2
  simp only at q1 q2 ⊢
  by_cases hf : 0 ≤ fr
  ·rw [if_pos hf]
   have hne : l ≠ [] := by intro h; subst h; simp at hfr2; omega
   rw [if_neg hne] at q1 q2
   obtain ⟨i, rfl⟩ : ∃ i : Nat, fr = i := ⟨fr.toNat, by omega⟩
   have hi : i < l.length := by omega
   have hp : l[i]? = some l[i] := List.getElem?_eq_getElem hi
   obtain ⟨p8, pB⟩ := ok.each l[i] (List.getElem_mem hi)
   have hd := pts_at (B := B) hp
   have hpl := ptB_len pB
   have p256 : ∀ x ∈ ptB B l[i], x < 256 := fun x hx => h256 x (List.mem_of_mem_drop (List.mem_of_mem_take hx))
   have q := part_offset e l[i].1 l[i].2.1 l[i].2.2 (ptB B l[i]) (by rw [hpl]; unfold room at *; omega) p256 (by omega)
   have ho := off_lt p256 (by omega)
   have hfo : fragO B ⟨l, (i : Int), nx, a, cut, many⟩ = offX (ptB B l[i]) := by
    unfold fragO
    simp only
    rw [Int.toNat_natCast, hp]
   rw [hfo]
   rw [hpl] at q
   by_cases h8 : 0 < offX (ptB B l[i]) / 8
   ·rw [if_pos h8]
    exact go_later e hB ptsC_len hi hl ho h8 hd q q1 q2
   ·rw [if_neg h8]
    by_cases h2 : offX (ptB B l[i]) % 2 = 0
    ·rw [if_pos h2]
     exact go_whole e hB ptsC_len hi hl ho (by omega) h2 hd q q1 q2
    ·rw [if_neg h2]
     exact go_first e hB ptsC_len hi hl ho (by omega) h2 hd q q1 q2
  ·rw [if_neg hf]
   refine go_none e hB (by omega) ?_ ?_ q1 q2
   ·by_cases hne : l = []
    ·rw [if_pos hne, hne]; rfl
    ·rw [if_neg hne]; rfl
   ·intro l'
    by_cases hne : l = []
    ·rw [if_pos hne]; intro h; cases h
    ·rw [if_neg hne]; intro h; cases h
 ·rw [if_neg hw]
  have hpos : 0 < (wrongX B s B.length).length := by
   cases hx : wrongX B s B.length with
   | nil => exact (hw hx).elim
   | cons _ _ => simp
  exact go_bad e hpos hB q1 q2
include es in
theorem Clone (b : List Nat) (hb : b.length ≤ room) (h0 : 0 < b.length) : callV E "slices.Clone[[]byte,byte]" [vb b] [] = some ([ro b], [na], []) := by
 unfold room at hb
 refine callV_fn es.slices_Clone_byte_byte fun nd hnd => ?_
 simp (maxSteps := 1000000) (disch := first | omega | (simp only [lnS] <;> omega) | assumption | fail) [slices_Clone_byte_byte_B, wwS, -List.getD_eq_getElem?_getD, -List.drop_drop, h0]
abbrev exV (k : Int) (n : Nat) (b : List Nat) : List PV := [.sc (.int .i64 k), .sl n (bp b)]
def exC (l : List (Int × List Nat)) : List PV := (l.map fun p => exV p.1 p.2.length p.2).flatten
theorem exC_len : ∀ {l : List (Int × List Nat)}, (exC l).length = l.length * 2
 | [] => rfl
 | p :: l => by
   have := exC_len (l := l)
   unfold exC at *
   simp only [List.map_cons, List.flatten_cons, List.length_append, List.length_cons, List.length_nil] at *
   omega
theorem exC_add {l : List (Int × List Nat)} {k : Int} {b : List Nat} : exC (l ++ [(k, b)]) = exC l ++ exV k b.length b := by
 unfold exC
 simp
def listX (k : Int) (B : List Nat) : List (Int × List Nat) := (pathX k B).parts.map fun p => (p.1, (ptB B p).drop 2)
theorem list_step {C X : List PV} {b b2 : List Nat} {N i pa n M : Nat} {k : Int} {R} (hC : C.length = N * 3) (hi : i < N) (hN : N ≤ 8) (hX : X.length = M * 2) (hM : M ≤ 8) (hb : b.length = n) (h8 : 8 ≤ n) (hn : n ≤ 140737488355000)
 (hd : List.take 3 (List.drop (i * 3) C) = [.sc (.int .i64 k), .sc (.int .i64 (pa : Int)), .sl n (bp b)])
 (htk : List.take (n - 2) (List.drop 2 b) = b2) (hb2 : b2.length = n - 2)
 (q : callV E "slices.Clone[[]byte,byte]" [.v (.sl (n - 2) (bp b2))] [] = some ([.o (n - 2) 1 (bp b2)], [na], []))
 (hr : runV E (.loop [5, 11, 12, 13] extwalk_List_L0) (updT (updT (updT (updT botT 13 (ti .i64 (i + 1 : Nat))) 12 (ti .i64 N)) 11 (.val (.sl N C))) 5 (.own (M + 1) 2 (X ++ exV k (n - 2) b2))) = R) :
 runV E (.loop [5, 11, 12, 13] extwalk_List_L0) (updT (updT (updT (updT botT 13 (ti .i64 (i : Int))) 12 (ti .i64 N)) 11 (.val (.sl N C))) 5 (.own M 2 X)) = R := by
 have c1 : (i : Int) < N := by omega
 have c2 : i * 3 + 3 ≤ N * 3 := by omega
 subst hr
 refine loop_go (by simp (maxSteps := 1000000) (disch := first | omega | (simp only [lnS] <;> omega) | assumption | fail) [extwalk_List_L0, wwS, -List.getD_eq_getElem?_getD, -List.drop_drop, hC, hi, c1, c2, hX, hb, hd, htk, hb2, q]; rfl) ?_
 rfl
theorem list_out {c : TV} {X : List PV} {N M : Nat} : runV E (.loop [5, 11, 12, 13] extwalk_List_L0) (updT (updT (updT (updT botT 13 (ti .i64 (N : Int))) 12 (ti .i64 N)) 11 c) 5 (.own M 2 X)) = some (.exit 0, updT botT 5 (.own M 2 X)) := by
 have c1 : ¬ (N : Int) < N := by omega
 refine loop_out (by simp (maxSteps := 1000000) (disch := first | omega | (simp only [lnS] <;> omega) | assumption | fail) [extwalk_List_L0, wwS, -List.getD_eq_getElem?_getD, -List.drop_drop, c1]; first | exact ⟨rfl, rfl⟩ | exact rfl) ?_ (by simp)
 rfl
include es in
theorem list_loop (B : List Nat) (hB : B.length ≤ room) (L : List (Int × Nat × Nat)) (hL : L.length ≤ 8) (each : ∀ p ∈ L, 8 ≤ p.2.2 ∧ p.2.1 + p.2.2 ≤ B.length) : ∀ (m i : Nat) (X : List (Int × List Nat)), i + m = L.length → X.length = i →
 runV E (.loop [5, 11, 12, 13] extwalk_List_L0) (updT (updT (updT (updT botT 13 (ti .i64 (i : Int))) 12 (ti .i64 L.length)) 11 (.val (.sl L.length (ptsC B L)))) 5 (.own i 2 (exC X))) =
  some (.exit 0, updT botT 5 (.own L.length 2 (exC (X ++ (L.drop i).map fun p => (p.1, (ptB B p).drop 2)))))
 | 0, i, X, hm, hX => by
   have hi : i = L.length := by omega
   subst hi
   rw [List.drop_length, List.map_nil, List.append_nil]
   exact list_out
 | m + 1, i, X, hm, hX => by
   have hi : i < L.length := by omega
   have hp : L[i]? = some L[i] := List.getElem?_eq_getElem hi
   have hd := pts_at (B := B) hp
   obtain ⟨p8, pB⟩ := each L[i] (List.getElem_mem hi)
   have hpl := ptB_len pB
   have hbl : ((ptB B L[i]).drop 2).length = L[i].2.2 - 2 := by rw [List.length_drop, hpl]
   have q := Clone es ((ptB B L[i]).drop 2) (by rw [hbl]; unfold room at *; omega) (by rw [hbl]; omega)
   have q : callV E "slices.Clone[[]byte,byte]" [.v (.sl (L[i].2.2 - 2) (bp ((ptB B L[i]).drop 2)))] [] = some ([.o (L[i].2.2 - 2) 1 (bp ((ptB B L[i]).drop 2))], [na], []) := by rw [← hbl]; exact q
   have ih := list_loop B hB L hL each m (i + 1) (X ++ [(L[i].1, (ptB B L[i]).drop 2)]) (by omega) (by simp [hX])
   rw [exC_add, hbl] at ih
   rw [List.drop_eq_getElem_cons hi, List.map_cons]
   rw [show X ++ (L[i].1, (ptB B L[i]).drop 2) :: (L.drop (i + 1)).map (fun p => (p.1, (ptB B p).drop 2)) = (X ++ [(L[i].1, (ptB B L[i]).drop 2)]) ++ (L.drop (i + 1)).map (fun p => (p.1, (ptB B p).drop 2)) by simp]
   exact list_step ptsC_len hi hL (by rw [exC_len, hX]) (by omega) hpl p8 (by unfold room at hB; omega) hd (by rw [List.take_of_length_le (by omega)]) hbl q ih
include e es in
theorem extwalk_List (k : Int) (B : List Nat) (hB : B.length ≤ room) (h256 : ∀ x ∈ B, x < 256) :
 callV E "extwalk.List" [vi k, vb B] [] = some ([.o (listX k B).length 2 (exC (listX k B))], [na, na], []) := by
 have q1 := extwalk_walk e k B hB h256
 obtain ⟨ok, ha⟩ := path_ok k B
 have e0 : walkX B 9 (st0 k) = pathX k B := rfl
 rw [e0] at q1
 unfold listX
 generalize pathX k B = s at *
 obtain ⟨l, fr, nx, a, cut, many⟩ := s
 unfold pathC cellP' at q1
 simp only at q1 ⊢
 by_cases hne : l = []
 ·subst hne
  rw [if_pos rfl] at q1
  have h := list_out (E := E) (c := .val (.sc (.slice none 0 0))) (X := []) (N := 0) (M := 0)
  rw [show ((0 : Nat) : Int) = 0 from rfl] at h
  show callV E "extwalk.List" [vi k, vb B] [] = some ([.o 0 2 []], [na, na], [])
  refine callV_fn e.extwalk_List fun nd hnd => ?_
  simp (maxSteps := 1000000) (disch := first | omega | (simp only [lnS] <;> omega) | assumption | fail) [extwalk_List_B, wwS, -List.getD_eq_getElem?_getD, -List.drop_drop, q1, h]
 ·rw [if_neg hne] at q1
  have h := list_loop es B hB l ok.n ok.each l.length 0 [] (by omega) rfl
  rw [show ((0 : Nat) : Int) = 0 from rfl, List.drop_zero, List.nil_append] at h
  have h : runV E (.loop [5, 11, 12, 13] extwalk_List_L0) (updT (updT (updT (updT botT 13 (ti .i64 0)) 12 (ti .i64 l.length)) 11 (.val (.sl l.length (ptsC B l)))) 5 (.own 0 2 [])) = _ := h
  rw [List.length_map]
  generalize exC (l.map fun p => (p.1, (ptB B p).drop 2)) = Y at *
  generalize ptsC B l = C at *
  refine callV_fn e.extwalk_List fun nd hnd => ?_
  simp (maxSteps := 1000000) (disch := first | omega | (simp only [lnS] <;> omega) | assumption | fail) [extwalk_List_B, wwS, -List.getD_eq_getElem?_getD, -List.drop_drop, q1, h]
end
end Go.Wb.P11

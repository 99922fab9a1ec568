/- Chapter 11: extension headers are gone over as they were written: the law's whole. -/
import Derived.Test.YtlbekhmgpfbgnaaWbvP11v
set_option maxRecDepth 100000
set_option linter.all false
namespace Go.Wb.P11
open Go Go.Wb Go.Wb.Code Go.Wb.P01
section
variable {E : EnvW} (e : WbvC11Env E)
theorem c_loop {X : Ex} {pr : Int} (w : Wrote X pr) {mm nb : Nat} {M B : List PV} {p : Int} : ∀ (m i : Nat), i + m = X.length →
 runV E (.loop [0, 1, 2, 7, 9, 10, 11] law11_ExtwalkBack_L0) (cS (exC X) X.length p mm M nb B (X.length : Int) (posX X i : Nat) (i : Int)) = some (.exit 0, cO (exC X) X.length p mm M nb B (upX X m i : Nat) (posX X (upX X m i) : Nat))
 | 0, i, hm => by
   have hi : i = X.length := by omega
   subst hi
   rw [c_out]
   rfl
 | m + 1, i, hm => by
   have hi : i < X.length := by omega
   have hn := w.n
   have ih := c_loop w (mm := mm) (nb := nb) (M := M) (B := B) (p := p) m (i + 1) (by omega)
   obtain ⟨h0, h1⟩ := ex_at (xAt_get hi)
   obtain ⟨f1, f2, _, _⟩ := err_facts hi (w.err i hi)
   have f3 := form_ge f2
   have f4 := form_le f2
   have hpos := pos_le w (i := i) (by omega)
   have hps : (posX X (i + 1) : Nat) = ((posX X i : Nat) : Int) + (((xAt X i).2.length : Int) + 2) := by
    rw [posX]; omega
   have hbl : (bp (xAt X i).2).length = (xAt X i).2.length := by simp [mp]
   have g0 : cellP (bp (xAt X i).2) 0 = some (u8c (((xAt X i).2.getD 0 0 : Nat) : Int)) := by
    have : 0 < (xAt X i).2.length := by omega
    simp [cellP, mp, List.getD, this]
   have g1 : cellP (bp (xAt X i).2) 1 = some (u8c (((xAt X i).2.getD 1 0 : Nat) : Int)) := by
    have : 1 < (xAt X i).2.length := by omega
    simp [cellP, mp, List.getD, this]
   have hC : (exC X).length = X.length * 2 := exC_len
   rw [hps] at ih
   unfold upX
   by_cases k4 : (xAt X i).1 = 44
   ·rw [k4] at h0
    by_cases z0 : 0 < (xAt X i).2.getD 0 0
    ·rw [if_pos ⟨k4, by unfold offB; omega⟩, c_stop1 hC hi (by omega) h0 h1 (by omega) (by omega) (by omega) hbl g0 (by omega), hps]
     rfl
    ·by_cases z1 : 8 ≤ (xAt X i).2.getD 1 0
     ·rw [if_pos ⟨k4, by unfold offB; omega⟩, c_stop2 hC hi (by omega) h0 h1 (by omega) (by omega) (by omega) hbl g0 g1 (by omega) (by omega), hps]
      rfl
     ·rw [if_neg (by rintro ⟨_, h⟩; unfold offB at h; omega)]
      exact c_go44 hC hi (by omega) h0 h1 (by omega) (by omega) (by omega) hbl g0 g1 (by omega) (by omega) ih
   ·rw [if_neg (fun h => k4 h.1)]
    exact c_go hC hi (by omega) h0 h1 (by omega) (by omega) (by omega) k4 ih
theorem x_loop {nb sz : Nat} {B : List PV} {k : Int} (hB : B.length = nb) (hs : sz ≤ nb) (hn : nb ≤ 1000000) (q : ∀ i, i < sz → callV E "extwalk.Go" [vi k, .v (.sl i (B.take i))] [] = some ([.v (.agg (ip [0, 0, 0, 0, 0])), .o 1 1 [.sc (.int .i64 10)]], [na, na], [])) : ∀ (m i : Nat), i + m = sz →
 runV E (.loop [7, 10, 12, 16] law11_ExtwalkBack_L1) (xS nb B sz k (i : Int)) = some (.exit 2, botT)
 | 0, i, hm => by
   have : i = sz := by omega
   subst this
   exact x_out
 | m + 1, i, hm => x_step hB (by omega) hs hn (q i (by omega)) (x_loop hB hs hn q m (i + 1) (by omega))
include e in
theorem k6 {nb sz : Nat} {B : List PV} {k : Int} (hlive : callV E "law11.live" [] [] = some ([rB true], [], []))
 (h : runV E (.loop [7, 10, 12, 16] law11_ExtwalkBack_L1) (xS nb B sz k 0) = some (.exit 2, botT)) :
 ex E [.c law11_ExtwalkBack_K6] (updT (updT (updT botT 12 (ti .i64 k)) 10 (ti .i64 (sz : Int))) 7 (.own nb 1 B)) = some (.ret, updT botT 6 (tb true)) := by
 simp (maxSteps := 1000000) (disch := first | omega | (simp only [lnS] <;> omega) | assumption | fail) [wwS, -List.getD_eq_getElem?_getD, -List.drop_drop, law11_ExtwalkBack_K6, h, hlive]
variable {C B M : List PV} {N nb mm sz U : Nat} {pr k a b nx x : Int}
abbrev k7T (C : List PV) (N : Nat) (pr : Int) (nb : Nat) (B : List PV) (U sz : Nat) (k : Int) (g : TV) : TT :=
 updT (updT (updT (updT (updT (updT (updT botT 14 g) 12 (ti .i64 k)) 10 (ti .i64 (sz : Int))) 9 (ti .i64 (U : Int))) 7 (.own nb 1 B)) 1 (ti .i64 pr)) 0 (.val (.sl N C))
theorem k7 (h6 : ex E [.c law11_ExtwalkBack_K6] (updT (updT (updT botT 12 (ti .i64 k)) 10 (ti .i64 (sz : Int))) 7 (.own nb 1 B)) = some (.ret, updT botT 6 (tb true))) (hx : U = N → nx = pr) :
 ex E [.c law11_ExtwalkBack_K7] (k7T C N pr nb B U sz k (gw nx (sz : Int) a b (U : Int))) = some (.ret, updT botT 6 (tb true)) := by
 by_cases hU : U = N
 ·have hx := hx hU
  subst hx
  subst hU
  simp (maxSteps := 1000000) (disch := first | omega | (simp only [lnS] <;> omega) | assumption | fail) [wwS, -List.getD_eq_getElem?_getD, -List.drop_drop, law11_ExtwalkBack_K7, h6]
 ·have hU : ¬ (U : Int) = N := by omega
  simp (maxSteps := 1000000) (disch := first | omega | (simp only [lnS] <;> omega) | assumption | fail) [wwS, -List.getD_eq_getElem?_getD, -List.drop_drop, law11_ExtwalkBack_K7, h6, hU]
abbrev k8T (C : List PV) (N : Nat) (pr : Int) (nb : Nat) (B : List PV) (U sz : Nat) (k : Int) (g d : TV) : TT :=
 updT (updT (updT (updT (updT (updT (updT (updT botT 15 d) 14 g) 12 (ti .i64 k)) 10 (ti .i64 (sz : Int))) 9 (ti .i64 (U : Int))) 7 (.own nb 1 B)) 1 (ti .i64 pr)) 0 (.val (.sl N C))
theorem k8a (h7 : ex E [.c law11_ExtwalkBack_K7] (k7T C N pr nb B U sz k (gw nx (sz : Int) a b (U : Int))) = some (.ret, updT botT 6 (tb true))) :
 ex E [.c law11_ExtwalkBack_K8] (k8T C N pr nb B U sz k (gw nx (sz : Int) a b (U : Int)) (.own 0 1 [])) = some (.ret, updT botT 6 (tb true)) := by
 simp (maxSteps := 1000000) (disch := first | omega | (simp only [lnS] <;> omega) | assumption | fail) [wwS, -List.getD_eq_getElem?_getD, -List.drop_drop, law11_ExtwalkBack_K8, law11_ExtwalkBack_K3, h7]
theorem k8b (hlive : callV E "law11.live" [] [] = some ([rB true], [], [])) :
 ex E [.c law11_ExtwalkBack_K8] (k8T C N pr nb B U sz k (gw 0 0 0 0 0) (.own 1 1 [.sc (.int .i64 14)])) = some (.ret, updT botT 6 (tb true)) := by
 simp (maxSteps := 1000000) (disch := first | omega | (simp only [lnS] <;> omega) | assumption | fail) [wwS, -List.getD_eq_getElem?_getD, -List.drop_drop, law11_ExtwalkBack_K8, law11_ExtwalkBack_K3, hlive]
abbrev k9T (C : List PV) (N : Nat) (pr : Int) (mm : Nat) (M : List PV) (nb : Nat) (B : List PV) (U sz : Nat) (k : Int) : TT :=
 updT (updT (updT (updT (updT (updT (updT botT 12 (ti .i64 k)) 10 (ti .i64 (sz : Int))) 9 (ti .i64 (U : Int))) 7 (.own nb 1 B)) 2 (.val (.sl mm M))) 1 (ti .i64 pr)) 0 (.val (.sl N C))
theorem k9 {g1 g2 g3 g4 g5 : Int} {n : Nat} {D : List PV} (hB : B.length = nb) (hM : M.length = mm) (hn : nb ≤ 1000000) (hm : mm ≤ 1000) (hD : D.length = n) (hn5 : n ≤ 5) (hr : hasRefs D = false)
 (q : callV E "extwalk.Go" [vi k, .v (.sl (nb + mm) (B ++ M))] [] = some ([.v (.agg [.sc (.int .i64 g1), .sc (.int .i64 g2), .sc (.int .i64 g3), .sc (.int .i64 g4), .sc (.int .i64 g5)]), .o n 1 D], [na, na], []))
 (h8 : ex E [.c law11_ExtwalkBack_K8] (k8T C N pr nb B U sz k (gw g1 g2 g3 g4 g5) (.own n 1 D)) = some (.ret, updT botT 6 (tb true))) :
 ex E [.c law11_ExtwalkBack_K9] (k9T C N pr mm M nb B U sz k) = some (.ret, updT botT 6 (tb true)) := by
 simp (maxSteps := 1000000) (disch := first | omega | (simp only [lnS] <;> omega) | assumption | fail) [wwS, -List.getD_eq_getElem?_getD, -List.drop_drop, law11_ExtwalkBack_K9, hB, hM, q, h8, hr]
theorem k10 {L : List PV} (hC : C.length = N * 2) (hU : U ≤ N) (hN : N ≤ 8) (hL : L.length = U * 2)
 (q : callV E "ref10.SameExts" [.v (.sl U L), .v (.sl U (C.take (U * 2)))] [] = some ([rB true], [na, na], []))
 (h9 : ex E [.c law11_ExtwalkBack_K9] (k9T C N pr mm M nb B U sz k) = some (.ret, updT botT 6 (tb true))) :
 ex E [.c law11_ExtwalkBack_K10] (updT (updT (updT (updT (updT (updT (updT (updT botT 13 (.own U 2 L)) 12 (ti .i64 k)) 10 (ti .i64 (sz : Int))) 9 (ti .i64 (U : Int))) 7 (.own nb 1 B)) 2 (.val (.sl mm M))) 1 (ti .i64 pr)) 0 (.val (.sl N C))) = some (.ret, updT botT 6 (tb true)) := by
 have d1 : (U : Int) ≤ N := by omega
 simp (maxSteps := 1000000) (disch := first | omega | (simp only [lnS] <;> omega) | assumption | fail) [wwS, -List.getD_eq_getElem?_getD, -List.drop_drop, law11_ExtwalkBack_K10, hC, hU, d1, q, h9]
theorem k11 {L : List PV} (hB : B.length = nb) (hM : M.length = mm) (hn : nb ≤ 1000000) (hm : mm ≤ 1000)
 (q : callV E "extwalk.List" [vi k, .v (.sl (nb + mm) (B ++ M))] [] = some ([.o U 2 L], [na, na], []))
 (h10 : ex E [.c law11_ExtwalkBack_K10] (updT (updT (updT (updT (updT (updT (updT (updT botT 13 (.own U 2 L)) 12 (ti .i64 k)) 10 (ti .i64 (sz : Int))) 9 (ti .i64 (U : Int))) 7 (.own nb 1 B)) 2 (.val (.sl mm M))) 1 (ti .i64 pr)) 0 (.val (.sl N C))) = some (.ret, updT botT 6 (tb true))) :
 ex E [.c law11_ExtwalkBack_K11] (k9T C N pr mm M nb B U sz k) = some (.ret, updT botT 6 (tb true)) := by
 cases hr : hasRefs L
 ·simp (maxSteps := 1000000) (disch := first | omega | (simp only [lnS] <;> omega) | assumption | fail) [wwS, -List.getD_eq_getElem?_getD, -List.drop_drop, law11_ExtwalkBack_K11, hB, hM, q, h10, hr]
 ·simp (maxSteps := 1000000) (disch := first | omega | (simp only [lnS] <;> omega) | assumption | fail) [wwS, -List.getD_eq_getElem?_getD, -List.drop_drop, law11_ExtwalkBack_K11, hB, hM, q, h10, hr]
theorem k12 (q : callV E "law11.first" [.v (.sl N C), vi pr] [] = some ([rk .i64 k], [na, na], []))
 (h11 : ex E [.c law11_ExtwalkBack_K11] (k9T C N pr mm M nb B U sz k) = some (.ret, updT botT 6 (tb true))) :
 ex E [.c law11_ExtwalkBack_K12] (cO C N pr mm M nb B (U : Int) (sz : Int)) = some (.ret, updT botT 6 (tb true)) := by
 simp (maxSteps := 1000000) (disch := first | omega | (simp only [lnS] <;> omega) | assumption | fail) [wwS, -List.getD_eq_getElem?_getD, -List.drop_drop, law11_ExtwalkBack_K12, q, h11]
theorem k13 (hl : runV E (.loop [0, 1, 2, 7, 9, 10, 11] law11_ExtwalkBack_L0) (cS C N pr mm M nb B (N : Int) 0 0) = some (.exit 0, cO C N pr mm M nb B (U : Int) (sz : Int)))
 (h12 : ex E [.c law11_ExtwalkBack_K12] (cO C N pr mm M nb B (U : Int) (sz : Int)) = some (.ret, updT botT 6 (tb true))) :
 ex E [.c law11_ExtwalkBack_K14] (updT (updT (updT (updT botT 7 (.own nb 1 B)) 2 (.val (.sl mm M))) 1 (ti .i64 pr)) 0 (.val (.sl N C))) = some (.ret, updT botT 6 (tb true)) := by
 simp (maxSteps := 1000000) (disch := first | omega | (simp only [lnS] <;> omega) | assumption | fail) [wwS, -List.getD_eq_getElem?_getD, -List.drop_drop, law11_ExtwalkBack_K14, law11_ExtwalkBack_K13, hl, h12]
include e in
theorem back_run {y : Int} (hlive : callV E "law11.live" [] [] = some ([rB true], [], [])) (q : callV E "extwalk.Write" [.v (.sl N C), vi pr] [] = some ([.o nb 1 B, fB x y], [na, na], []))
 (h14 : x = 0 → mm ≤ 1000 → ex E [.c law11_ExtwalkBack_K14] (updT (updT (updT (updT botT 7 (.own nb 1 B)) 2 (.val (.sl mm M))) 1 (ti .i64 pr)) 0 (.val (.sl N C))) = some (.ret, updT botT 6 (tb true))) :
 callV E "law11.ExtwalkBack" [.v (.sl N C), vi pr, .v (.sl mm M)] [] = some ([rB true], [na, na, na], []) := by
 by_cases hx : x = 0
 ·subst hx
  by_cases hm : mm ≤ 1000
  ·have h := h14 rfl hm
   have d : ¬ (1000 : Int) < mm := by omega
   refine callV_fn e.law11_ExtwalkBack fun nd hnd => ?_
   simp (maxSteps := 1000000) (disch := first | omega | (simp only [lnS] <;> omega) | assumption | fail) [law11_ExtwalkBack_B, wwS, -List.getD_eq_getElem?_getD, -List.drop_drop, law11_ExtwalkBack_K15, q, d, h]
  ·have d : (1000 : Int) < mm := by omega
   refine callV_fn e.law11_ExtwalkBack fun nd hnd => ?_
   simp (maxSteps := 1000000) (disch := first | omega | (simp only [lnS] <;> omega) | assumption | fail) [law11_ExtwalkBack_B, wwS, -List.getD_eq_getElem?_getD, -List.drop_drop, law11_ExtwalkBack_K15, q, d, hlive]
 ·refine callV_fn e.law11_ExtwalkBack fun nd hnd => ?_
  simp (maxSteps := 1000000) (disch := first | omega | (simp only [lnS] <;> omega) | assumption | fail) [law11_ExtwalkBack_B, wwS, -List.getD_eq_getElem?_getD, -List.drop_drop, law11_ExtwalkBack_K15, q, hx, hlive]
include e in
theorem first_run {X : Ex} : callV E "law11.first" [.v (.sl X.length (exC X)), vi pr] [] = some ([rk .i64 ((kindsX X pr).getD 0 0)], [na, na], []) := by
 cases X with
 | nil =>
   refine callV_fn e.law11_first fun nd hnd => ?_
   simp (maxSteps := 1000000) (disch := first | omega | (simp only [lnS] <;> omega) | assumption | fail) [law11_first_B, wwS, -List.getD_eq_getElem?_getD, -List.drop_drop, exC, kindsX]
   rfl
 | cons p l =>
   have e1 : (kindsX (p :: l) pr).getD 0 0 = p.1 := rfl
   obtain ⟨h0, _⟩ := ex_at (l := p :: l) (i := 0) (p := p) rfl
   have hC : (exC (p :: l)).length = (p :: l).length * 2 := exC_len
   have hl : (p :: l).length = l.length + 1 := rfl
   rw [e1]
   rw [hl] at hC ⊢
   generalize exC (p :: l) = C at *
   have d : (0 : Int) < ((l.length + 1 : Nat) : Int) := by omega
   rw [Nat.zero_mul] at h0
   refine callV_fn e.law11_first fun nd hnd => ?_
   simp (maxSteps := 1000000) (disch := first | omega | (simp only [lnS] <;> omega) | assumption | fail) [law11_first_B, wwS, -List.getD_eq_getElem?_getD, -List.drop_drop, h0, hC, d]
end
theorem fl_256 {X : Ex} {pr : Int} (h : ∀ p ∈ X, ∀ x ∈ p.2, x < 256) : ∀ {i : Nat}, i ≤ X.length → ∀ x ∈ flX X pr i, x < 256
 | 0, _, x, hx => by cases hx
 | i + 1, hi, x, hx => by
   rw [flX, hdr_is (by omega)] at hx
   have hx2 := h _ (List.mem_of_getElem? (xAt_get (X := X) (i := i) (by omega)))
   rcases List.mem_append.1 hx with hx | hx
   ·exact fl_256 h (by omega) x hx
   ·rcases List.mem_cons.1 hx with rfl | hx
    ·omega
    ·rcases List.mem_cons.1 hx with rfl | hx
     ·omega
     ·exact hx2 x hx
theorem ex_take {X : Ex} : ∀ {U : Nat}, exC (X.take U) = (exC X).take (U * 2) := by
 induction X with
 | nil => intro U; simp [exC]
 | cons p l ih =>
   intro U
   cases U with
   | zero => simp [exC]
   | succ U =>
     have e : ∀ l, exC (p :: l) = exV p.1 p.2.length p.2 ++ exC l := fun l => by unfold exC; simp
     rw [List.take_succ_cons, e, e, ih, show (U + 1) * 2 = 2 + U * 2 by omega, List.take_append, List.take_of_length_le (show (exV p.1 p.2.length p.2).length ≤ 2 + U * 2 by simp)]
     simp
theorem law_ExtwalkBack {E : EnvW} (e : WbvC11Env E) (es : WbvCslEnv E) (e1 : WbvC01Env E) (B : Nat) (avs : List PV) (ha : PArgs B [.sl 2 32 (.st [.int .i64, .sl 1 1 (.int .u8)]), .int .i64, .sl 1 1 (.int .u8)] avs) : ∃ o ho, callV E "law11.ExtwalkBack" (avs.map .v) [] = some ([rB true], o, ho) := by
 simp only [PArgs] at ha
 obtain ⟨v0, _, rfl, a0, v1, _, rfl, a1, v2, _, rfl, a2, rfl⟩ := ha
 obtain ⟨X, rfl, hX, hl⟩ := pv_exts a0
 obtain ⟨pr, rfl, _⟩ := pv_int a1
 obtain ⟨mo, rfl, m256, hm, _⟩ := pv_bytesR a2
 have hb : ∀ p ∈ X, p.2.length ≤ room := fun p hp => (hX p hp).2.2
 refine ⟨[na, na, na], [], ?_⟩
 have hlive := live e
 have q := extwalk_Write e es X pr hb
 refine back_run e hlive q fun hx hmm => ?_
 obtain ⟨w, hw⟩ := writeX_ok hx
 rw [hw]
 clear q hx hw
 have u : Upto X (upX X X.length 0) := up_ok X.length 0 (by omega) (fun j h => by omega)
 have cl := c_loop (E := E) w (mm := mo.length) (nb := (flX X pr X.length).length) (M := bp mo) (B := bp (flX X pr X.length)) (p := pr) X.length 0 (by omega)
 generalize upX X X.length 0 = U at *
 have hU := u.le
 have hn := w.n
 have hfl : (flX X pr X.length).length = posX X X.length := fl_len (Nat.le_refl _)
 have hp := pos_le w (Nat.le_refl X.length)
 have hpm := pos_mono (X := X) hU
 obtain ⟨R2, hR2⟩ := fl_pre (X := X) (pr := pr) hU
 have h256 : ∀ x ∈ flX X pr X.length, x < 256 := fl_256 (fun p hp => (hX p hp).2.1) (Nat.le_refl _)
 have hW : flX X pr X.length ++ mo = flX X pr U ++ (R2 ++ mo) := by rw [hR2, List.append_assoc]
 have w256 : ∀ x ∈ flX X pr X.length ++ mo, x < 256 := fun x hx => (List.mem_append.1 hx).elim (h256 x) (m256 x)
 have wl : (flX X pr X.length ++ mo).length = (flX X pr X.length).length + mo.length := List.length_append
 have wr : (flX X pr X.length ++ mo).length ≤ room := by unfold room; omega
 have g1 := extwalk_List e es ((kindsX X pr).getD 0 0) _ wr w256
 have g2 := extwalk_Go e ((kindsX X pr).getD 0 0) _ wr w256
 rw [list_back w u hW] at g1
 have gb := go_back w u hW
 have e2 : vb (flX X pr X.length ++ mo) = .v (.sl ((flX X pr X.length).length + mo.length) (bp (flX X pr X.length) ++ bp mo)) := by
  unfold vb
  rw [wl]
  simp [mp]
 rw [e2] at g1 g2
 have gc : ∀ i, i < posX X U → callV E "extwalk.Go" [vi ((kindsX X pr).getD 0 0), .v (.sl i ((bp (flX X pr X.length)).take i))] [] = some ([.v (.agg (ip [0, 0, 0, 0, 0])), .o 1 1 [.sc (.int .i64 10)]], [na, na], []) := by
  intro i hi
  have hil : ((flX X pr X.length).take i).length = i := by rw [List.length_take]; omega
  have g := extwalk_Go e ((kindsX X pr).getD 0 0) ((flX X pr X.length).take i) (by unfold room; omega) (fun x hx => h256 x (List.mem_of_mem_take hx))
  rw [cut_back w u hi] at g
  have e3 : vb ((flX X pr X.length).take i) = .v (.sl i ((bp (flX X pr X.length)).take i)) := by
   unfold vb
   rw [hil]
   simp [mp, List.map_take]
  rw [e3] at g
  exact g
 have xl := x_loop (E := E) (k := (kindsX X pr).getD 0 0) (nb := (flX X pr X.length).length) (B := bp (flX X pr X.length)) (by simp [mp]) (sz := posX X U) (by omega) (by omega) gc (posX X U) 0 (by omega)
 have h6 := k6 e hlive xl
 have h7 := fun a b => k7 (C := exC X) (N := X.length) (U := U) (nx := (kindsX X pr).getD U 0) (a := a) (b := b) h6 (pr := pr) (fun h => by rw [h, kinds_end])
 have hCl := exC_len (l := X)
 have h9 : ex E [.c law11_ExtwalkBack_K9] (k9T (exC X) X.length pr mo.length (bp mo) (flX X pr X.length).length (bp (flX X pr X.length)) U (posX X U) ((kindsX X pr).getD 0 0)) = some (.ret, updT botT 6 (tb true)) := by
  rcases gb with gb | ⟨a, b, gb⟩
  ·rw [gb] at g2
   have g2 : callV E "extwalk.Go" [vi ((kindsX X pr).getD 0 0), .v (.sl ((flX X pr X.length).length + mo.length) (bp (flX X pr X.length) ++ bp mo))] [] = some ([.v (.agg [.sc (.int .i64 0), .sc (.int .i64 0), .sc (.int .i64 0), .sc (.int .i64 0), .sc (.int .i64 0)]), .o 1 1 [.sc (.int .i64 14)]], [na, na], []) := g2
   exact k9 (n := 1) (D := [.sc (.int .i64 14)]) (by simp [mp]) (by simp [mp]) (by omega) hmm rfl (by decide) (by simp [hasRefs, hasRef]) g2 (k8b hlive)
  ·rw [gb] at g2
   have g2 : callV E "extwalk.Go" [vi ((kindsX X pr).getD 0 0), .v (.sl ((flX X pr X.length).length + mo.length) (bp (flX X pr X.length) ++ bp mo))] [] = some ([.v (.agg [.sc (.int .i64 ((kindsX X pr).getD U 0)), .sc (.int .i64 (posX X U : Int)), .sc (.int .i64 a), .sc (.int .i64 b), .sc (.int .i64 (U : Int))]), .o 0 1 []], [na, na], []) := g2
   exact k9 (n := 0) (D := []) (by simp [mp]) (by simp [mp]) (by omega) hmm rfl (by decide) (by simp [hasRefs]) g2 (k8a (h7 a b))
 have hse := SameExts e e1 (X.take U) (by rw [List.length_take]; omega) (fun p hp => hb p (List.mem_of_mem_take hp))
 have htl : (X.take U).length = U := by rw [List.length_take]; omega
 rw [htl] at hse g1
 have h10 := k10 (L := exC (X.take U)) hCl hU hn (by rw [exC_len, htl]) (by rw [← ex_take]; exact hse) h9
 have h11 := k11 (by simp [mp]) (by simp [mp]) (by omega) hmm g1 h10
 exact k13 cl (k12 (first_run e) h11)
end Go.Wb.P11

/- Chapter 9: names. -/
import Derived.Test.YtlbekhmgpfbgnaaWbvP09
set_option maxRecDepth 100000
set_option linter.all false
namespace Go.Wb.P09
open Go Go.Wb Go.Wb.Code Go.Wb.P02
theorem byte1 {z : Int} {a : Nat} (hz : z = a) : ∃ u : UInt8, u = UInt8.ofNat (48 + a) ∧ bytesOf [PV.sc (.int .u8 (48 + z))] = some [u] := by
 subst hz
 exact ⟨_, rfl, dg_of a⟩
theorem byte2 {z w : Int} {a b : Nat} (hz : z = a) (hw : w = b) : ∃ u v : UInt8, u = UInt8.ofNat (48 + a) ∧ v = UInt8.ofNat (48 + b) ∧ bytesOf [PV.sc (.int .u8 (48 + z)), PV.sc (.int .u8 (48 + w))] = some [u, v] := by
 subst hz hw
 refine ⟨_, _, rfl, rfl, ?_⟩
 have h : (48 + (a : Int)).toNat = 48 + a := by omega
 have h' : (48 + (b : Int)).toNat = 48 + b := by omega
 simp [bytesOf, byteOf, h, h']
section
variable {E : EnvW} (e : WbvC09Env E) (e2 : WbvC02Env E)
theorem fig_l1 {z : Int} (h0 : 0 ≤ z) (h1 : z < 100) : runV E (.loop [3, 6, 7, 8] point_figures_L0) (updT (updT (updT (updT botT 8 (ti .i64 0)) 7 (ti .i64 1)) 6 (.val (.sl 1 [.sc (.int .i64 z)]))) 3 (.own 0 1 [])) =
 some (.exit 0, updT botT 3 (.own 1 1 [.sc (.int .u8 (48 + z))])) := by
 refine loop_go (by simp (maxSteps := 1000000) (disch := first | omega | (simp only [lnS] <;> omega) | assumption | fail) [point_figures_L0, wwS, -List.getD_eq_getElem?_getD, -List.drop_drop]; rfl) ?_
 refine loop_out (by simp (maxSteps := 1000000) (disch := first | omega | (simp only [lnS] <;> omega) | assumption | fail) [point_figures_L0, wwS, -List.getD_eq_getElem?_getD, -List.drop_drop]; first | exact ⟨rfl, rfl⟩ | exact rfl) ?_ (by simp)
 rfl
theorem fig_l2 {z w : Int} (h0 : 0 ≤ z) (h1 : z < 100) (h2 : 0 ≤ w) (h3 : w < 100) : runV E (.loop [3, 6, 7, 8] point_figures_L0) (updT (updT (updT (updT botT 8 (ti .i64 0)) 7 (ti .i64 2)) 6 (.val (.sl 2 [.sc (.int .i64 z), .sc (.int .i64 w)]))) 3 (.own 0 1 [])) =
 some (.exit 0, updT botT 3 (.own 2 1 [.sc (.int .u8 (48 + z)), .sc (.int .u8 (48 + w))])) := by
 refine loop_go (by simp (maxSteps := 1000000) (disch := first | omega | (simp only [lnS] <;> omega) | assumption | fail) [point_figures_L0, wwS, -List.getD_eq_getElem?_getD, -List.drop_drop]; rfl) ?_
 refine loop_go (by simp (maxSteps := 1000000) (disch := first | omega | (simp only [lnS] <;> omega) | assumption | fail) [point_figures_L0, wwS, -List.getD_eq_getElem?_getD, -List.drop_drop]; rfl) ?_
 refine loop_out (by simp (maxSteps := 1000000) (disch := first | omega | (simp only [lnS] <;> omega) | assumption | fail) [point_figures_L0, wwS, -List.getD_eq_getElem?_getD, -List.drop_drop]; first | exact ⟨rfl, rfl⟩ | exact rfl) ?_ (by simp)
 rfl
include e in
theorem fig1 {z : Int} {a : Nat} (hz : z = a) (ha : a < 100) : callV E "point.figures" [.v (.sl 1 [.sc (.int .i64 z)])] [] = some ([rs (sb [48 + a])], [na], []) := by
 have h := fig_l1 (E := E) (z := z) (by omega) (by omega)
 obtain ⟨u, hu, hb⟩ := byte1 hz
 rw [show sb [48 + a] = ⟨#[u]⟩ by rw [hu]; rfl]
 refine callV_fn e.point_figures fun nd hnd => ?_
 simp (maxSteps := 1000000) (disch := first | omega | (simp only [lnS] <;> omega) | assumption | fail) [point_figures_B, wwS, -List.getD_eq_getElem?_getD, -List.drop_drop, h, hb]
include e in
theorem fig2 {z w : Int} {a b : Nat} (hz : z = a) (hw : w = b) (ha : a < 100) (hb : b < 100) : callV E "point.figures" [.v (.sl 2 [.sc (.int .i64 z), .sc (.int .i64 w)])] [] = some ([rs (sb [48 + a, 48 + b])], [na], []) := by
 have h := fig_l2 (E := E) (z := z) (w := w) (by omega) (by omega) (by omega) (by omega)
 obtain ⟨u, v, hu, hv, hb⟩ := byte2 hz hw
 rw [show sb [48 + a, 48 + b] = ⟨#[u, v]⟩ by rw [hu, hv]; rfl]
 refine callV_fn e.point_figures fun nd hnd => ?_
 simp (maxSteps := 1000000) (disch := first | omega | (simp only [lnS] <;> omega) | assumption | fail) [point_figures_B, wwS, -List.getD_eq_getElem?_getD, -List.drop_drop, h, hb]
theorem cs_app (l : List Nat) : (⟨#[99, 115]⟩ : ByteArray) ++ sb l = sb (99 :: 115 :: l) := by
 rw [show (⟨#[99, 115]⟩ : ByteArray) = sb [99, 115] from rfl, sb_app]; rfl
theorem af_app (l : List Nat) : (⟨#[97, 102]⟩ : ByteArray) ++ sb l = sb (97 :: 102 :: l) := by
 rw [show (⟨#[97, 102]⟩ : ByteArray) = sb [97, 102] from rfl, sb_app]; rfl
theorem sz2 (a b : UInt8) : (⟨#[a, b]⟩ : ByteArray).size = 2 := rfl
theorem prec_lt {d : Nat} : prec d < 4 := by unfold prec; split <;> omega
include e e2 in
theorem point_sorts (d : Nat) (hd : d < 64) : callV E "point.sorts" [vi d] [] = some ([rs (sb (sortB d)), rs (sb (nameB d))], [na], []) := by
 have q0 := point_is e d
 have q1 := point_Prec e d hd
 rw [decide_eq_true (by omega)] at q0
 have hp := prec_lt (d := d)
 unfold sortB nameB
 by_cases h1 : d % 8 = 0
 ·rw [if_pos h1, if_pos h1]
  have q2 := fig1 e (z := (d : Int) / 8) (a := d / 8) (by omega) (by omega)
  have c1 : (d : Int) % 8 = 0 := by omega
  have g := cs_app [48 + d / 8]
  have g2 := sz2 99 115
  refine callV_fn e.point_sorts fun nd hnd => ?_
  simp (maxSteps := 1000000) (disch := first | omega | (simp only [lnS] <;> omega) | assumption | fail) [point_sorts_B, wwS, -List.getD_eq_getElem?_getD, -List.drop_drop, q0, q2, c1, g, g2]
  rfl
 ·rw [if_neg h1, if_neg h1]
  have c1 : ¬ (d : Int) % 8 = 0 := by omega
  by_cases h2 : 0 < prec d
  ·rw [if_pos h2, if_pos h2]
   have q2 := fig2 e (z := (d : Int) / 8) (w := (prec d : Int)) (a := d / 8) (b := prec d) (by omega) rfl (by omega) (by omega)
   have g := af_app [48 + d / 8, 48 + prec d]
   have g2 := sz2 97 102
   generalize prec d = p at *
   refine callV_fn e.point_sorts fun nd hnd => ?_
   simp (maxSteps := 1000000) (disch := first | omega | (simp only [lnS] <;> omega) | assumption | fail) [point_sorts_B, wwS, -List.getD_eq_getElem?_getD, -List.drop_drop, q0, q1, q2, c1, h2, g, g2]
   rfl
  ·rw [if_neg h2, if_neg h2]
   have c2 : prec d = 0 := by omega
   rw [c2] at q1
   have q1 : callV E "point.Prec" [vi d] [] = some ([ri 0], [na], []) := q1
   have q3 : callV E "wide.Of" [vk .u64 d] [] = some ([.v (wA 0 d)], [na], []) := wide_Of e2 d
   have q4 := wide_Text e2 0 d (by decide) (by omega)
   rw [show nv 0 d = d by simp [nv]] at q4
   have q4 : callV E "wide.Text" [.v (wA 0 d)] [] = some ([rs (sb (txt 2 d).reverse)], [na], []) := q4
   generalize (txt 2 d).reverse = T at *
   by_cases h3 : d = 46
   ·rw [if_pos h3, if_pos h3]
    have c3 : ((d : Int) = 46) = True := eq_true (by omega)
    refine callV_fn e.point_sorts fun nd hnd => ?_
    simp (maxSteps := 1000000) (disch := first | omega | (simp only [lnS] <;> omega) | assumption | fail) [point_sorts_B, wwS, -List.getD_eq_getElem?_getD, -List.drop_drop, q0, q1, c1, c3]
    exact ⟨rfl, rfl⟩
   ·by_cases h4 : d = 44
    ·rw [if_neg h3, if_neg h3, if_pos h4, if_pos h4]
     have c3 : ¬ (d : Int) = 46 := by omega
     have c4 : ((d : Int) = 44) = True := eq_true (by omega)
     refine callV_fn e.point_sorts fun nd hnd => ?_
     simp (maxSteps := 1000000) (disch := first | omega | (simp only [lnS] <;> omega) | assumption | fail) [point_sorts_B, wwS, -List.getD_eq_getElem?_getD, -List.drop_drop, q0, q1, c1, c3, c4]
     exact ⟨rfl, rfl⟩
    ·by_cases h5 : d = 1
     ·rw [if_neg h3, if_neg h3, if_neg h4, if_neg h4, if_pos h5, if_pos h5]
      have c3 : ¬ (d : Int) = 46 := by omega
      have c4 : ¬ (d : Int) = 44 := by omega
      have c5 : ((d : Int) = 1) = True := eq_true (by omega)
      have c0 : ¬ d = 0 := by omega
      refine callV_fn e.point_sorts fun nd hnd => ?_
      simp (maxSteps := 1000000) (disch := first | omega | (simp only [lnS] <;> omega) | assumption | fail) [point_sorts_B, wwS, -List.getD_eq_getElem?_getD, -List.drop_drop, q0, q1, c0, c1, c3, c4, c5]
      exact ⟨rfl, rfl⟩
     ·rw [if_neg h3, if_neg h3, if_neg h4, if_neg h4, if_neg h5, if_neg h5]
      have c3 : ¬ (d : Int) = 46 := by omega
      have c4 : ¬ (d : Int) = 44 := by omega
      have c5 : ¬ (d : Int) = 1 := by omega
      refine callV_fn e.point_sorts fun nd hnd => ?_
      simp (maxSteps := 1000000) (disch := first | omega | (simp only [lnS] <;> omega) | assumption | fail) [point_sorts_B, wwS, -List.getD_eq_getElem?_getD, -List.drop_drop, q0, q1, q3, q4, c1, c3, c4, c5]
      rfl
include e in
theorem point_sorts0 (d : Int) (hd : ¬ (0 ≤ d ∧ d < 64)) : callV E "point.sorts" [vi d] [] = some ([rs ⟨#[]⟩, rs ⟨#[]⟩], [na], []) := by
 have q0 := point_is e d
 rw [decide_eq_false hd] at q0
 refine callV_fn e.point_sorts fun nd hnd => ?_
 simp (maxSteps := 1000000) (disch := first | omega | (simp only [lnS] <;> omega) | assumption | fail) [point_sorts_B, wwS, -List.getD_eq_getElem?_getD, -List.drop_drop, q0]
include e e2 in
theorem point_Sort (d : Nat) (hd : d < 64) : callV E "point.Sort" [vi d] [] = some ([rs (sb (sortB d))], [na], []) := by
 have q := point_sorts e e2 d hd
 refine callV_fn e.point_Sort fun nd hnd => ?_
 simp (maxSteps := 1000000) (disch := first | omega | (simp only [lnS] <;> omega) | assumption | fail) [point_Sort_B, wwS, -List.getD_eq_getElem?_getD, -List.drop_drop, q]
include e e2 in
theorem point_Name (d : Nat) (hd : d < 64) : callV E "point.Name" [vi d] [] = some ([rs (sb (nameB d))], [na], []) := by
 have q := point_sorts e e2 d hd
 refine callV_fn e.point_Name fun nd hnd => ?_
 simp (maxSteps := 1000000) (disch := first | omega | (simp only [lnS] <;> omega) | assumption | fail) [point_Name_B, wwS, -List.getD_eq_getElem?_getD, -List.drop_drop, q]
include e in
theorem point_Sort0 (d : Int) (hd : ¬ (0 ≤ d ∧ d < 64)) : callV E "point.Sort" [vi d] [] = some ([rs ⟨#[]⟩], [na], []) := by
 have q := point_sorts0 e d hd
 refine callV_fn e.point_Sort fun nd hnd => ?_
 simp (maxSteps := 1000000) (disch := first | omega | (simp only [lnS] <;> omega) | assumption | fail) [point_Sort_B, wwS, -List.getD_eq_getElem?_getD, -List.drop_drop, q]
include e in
theorem point_Name0 (d : Int) (hd : ¬ (0 ≤ d ∧ d < 64)) : callV E "point.Name" [vi d] [] = some ([rs ⟨#[]⟩], [na], []) := by
 have q := point_sorts0 e d hd
 refine callV_fn e.point_Name fun nd hnd => ?_
 simp (maxSteps := 1000000) (disch := first | omega | (simp only [lnS] <;> omega) | assumption | fail) [point_Name_B, wwS, -List.getD_eq_getElem?_getD, -List.drop_drop, q]
end
end Go.Wb.P09

/- Chapter 11: extension headers are written: the document's whole; the law. -/
import Derived.Test.YtlbekhmgpfbgnaaWbvP11q
set_option maxRecDepth 100000
set_option linter.all false
namespace Go.Wb.P11
open Go Go.Wb Go.Wb.Code Go.Wb.P01
def yR (r : List Nat × Int × Int) : AExit × TT := if r.2.1 = 0 then (.exit 0, updT (updT botT 6 (.own r.1.length 1 (bp r.1))) 5 (fb 0 0)) else (.ret, wE r.2.1 r.2.2)
theorem err_form {X : List (Int × List Nat)} {i : Nat} (hi : i < X.length) (h : errX X i = 0) : formX X[i].1 (X[i].2.length + 2) = true := by
 unfold errX at h
 rw [List.getElem?_eq_getElem hi] at h
 simp only at h
 split at h
 ·cases h
 ·split at h
  ·cases h
  ·rename_i h2
   simpa using h2
theorem lenI44 {n : Nat} : lenI 44 n = 0 := by unfold lenI; rw [if_pos rfl]
theorem lenI51 {n : Nat} : lenI 51 n = (n : Int) / 4 - 2 := by unfold lenI; rw [if_neg (by decide), if_pos rfl]
theorem lenI8 {k : Int} {n : Nat} (h4 : ¬ k = 44) (h5 : ¬ k = 51) : lenI k n = (n : Int) / 8 - 1 := by unfold lenI; rw [if_neg h4, if_neg h5]
section
variable {E : EnvW} (e : WbvC11Env E) (e1 : WbvC01Env E)
include e e1 in
theorem y_loop (X : List (Int × List Nat)) (pr : Int) {N : Nat} (hN : X.length = N) (h8 : N ≤ 8) (hb : ∀ p ∈ X, p.2.length ≤ room) : ∀ (m i : Nat) (out : List Nat), i + m = N → out.length ≤ i * 2050 →
 runV E (.loop [0, 1, 5, 6, 7] ref11_Write_L0) (yS out.length (bp out) pr N (exC X) (i : Int)) = some (yR (wrX X pr m i out))
 | 0, i, out, hm, ho => by
   have hi : i = N := by omega
   subst hi
   rw [y_out]
   rfl
 | m + 1, i, out, hm, ho => by
   have hi : i < X.length := by omega
   have hp : X[i]? = some X[i] := List.getElem?_eq_getElem hi
   have hd := ex_dr hp
   obtain ⟨h0, h1⟩ := ex_at hp
   have hC : (exC X).length = N * 2 := by rw [exC_len, hN]
   have q := ref11_wrong e X i hi (by omega) hb
   rw [hN] at q
   have hf := err_form hi
   have hH : hdrX X pr i = [(((kindsX X pr).getD (i + 1) 0) % 256).toNat, (lenI X[i].1 (X[i].2.length + 2) % 256).toNat] ++ X[i].2 := by
    unfold hdrX
    rw [hp]
   have ih : errX X i = 0 → _ := fun he => y_loop X pr hN h8 hb m (i + 1) (out ++ hdrX X pr i) (by omega)
   unfold wrX
   by_cases he : errX X i = 0
   ·have hf := hf he
    have hln := form_le hf
    have ih := ih he (by rw [hH]; simp; omega)
    rw [if_pos he, ← ih]
    rw [he] at q
    have j3 := ref01_Join3 e1 out [(((kindsX X pr).getD (i + 1) 0) % 256).toNat, (lenI X[i].1 (X[i].2.length + 2) % 256).toNat] X[i].2 (by simp [room]; omega)
    rw [List.append_assoc, ← hH] at j3
    have b2 : bp [(((kindsX X pr).getD (i + 1) 0) % 256).toNat, (lenI X[i].1 (X[i].2.length + 2) % 256).toNat] = [u8c (((kindsX X pr).getD (i + 1) 0) % 256), u8c (lenI X[i].1 (X[i].2.length + 2) % 256)] := by
     have e1 : ((((kindsX X pr).getD (i + 1) 0) % 256).toNat : Int) = ((kindsX X pr).getD (i + 1) 0) % 256 := Int.toNat_of_nonneg (Int.emod_nonneg _ (by decide))
     have e2 : ((lenI X[i].1 (X[i].2.length + 2) % 256).toNat : Int) = lenI X[i].1 (X[i].2.length + 2) % 256 := Int.toNat_of_nonneg (Int.emod_nonneg _ (by decide))
     simp only [mp, List.map_cons, List.map_nil, e1, e2]
    rw [b2] at j3
    have j3 : callV E "ref01.Join" [.v (.sl 3 [.sl out.length (bp out), .sl 2 [u8c (((kindsX X pr).getD (i + 1) 0) % 256), u8c (lenI X[i].1 (X[i].2.length + 2) % 256)], .sl X[i].2.length (bp X[i].2)])] [] = some ([.o (out ++ hdrX X pr i).length 1 (bp (out ++ hdrX X pr i))], [na], []) := j3
    clear b2 ih
    have hbl : (bp X[i].2).length = X[i].2.length := by simp [mp]
    have hol : (bp out).length = out.length := by simp [mp]
    by_cases hlast : i + 1 < N
    ·have hy : cellP (exC X) ((i + 1) * 2) = some (.sc (.int .i64 ((kindsX X pr).getD (i + 1) 0))) := by
      have hx := (ex_at (l := X) (i := i + 1) (p := X[i + 1]) (List.getElem?_eq_getElem (by omega))).1
      rw [hx]
      have : (kindsX X pr).getD (i + 1) 0 = X[i + 1].1 := by
       unfold kindsX
       rw [List.getD_eq_getElem?_getD, List.getElem?_append_left (by rw [List.length_map]; omega), List.getElem?_map, List.getElem?_eq_getElem (by omega)]
       rfl
      rw [this]
     generalize (kindsX X pr).getD (i + 1) 0 = y at *
     by_cases k4 : X[i].1 = 44
     ·rw [k4] at hd h0 j3 hf
      rw [lenI44] at j3
      exact y_44n hC (by omega) (by omega) hd h0 h1 (by omega) hol hbl hy hlast q j3 rfl
     ·by_cases k5 : X[i].1 = 51
      ·rw [k5] at hd h0 j3 hf
       rw [form51] at hf
       simp only [decide_eq_true_eq] at hf
       rw [lenI51, Int.natCast_add] at j3
       exact y_51n hC (by omega) (by omega) hd h0 h1 (by omega) hol hbl hy hlast (by omega) rfl q j3 rfl
      ·rw [form8 k4 k5] at hf
       simp only [decide_eq_true_eq] at hf
       rw [lenI8 k4 k5, Int.natCast_add] at j3
       exact y_8n hC (by omega) (by omega) hd h0 h1 (by omega) hol hbl hy hlast (by omega) k4 k5 rfl q j3 rfl
    ·have hy : (kindsX X pr).getD (i + 1) 0 = pr := by
      unfold kindsX
      rw [List.getD_eq_getElem?_getD, List.getElem?_append_right (by rw [List.length_map]; omega), List.length_map, show i + 1 - X.length = 0 by omega]
      rfl
     rw [hy] at j3
     by_cases k4 : X[i].1 = 44
     ·rw [k4] at hd h0 j3 hf
      rw [lenI44] at j3
      exact y_44l hC (by omega) (by omega) hd h0 h1 (by omega) hol hbl (by omega) q j3 rfl
     ·by_cases k5 : X[i].1 = 51
      ·rw [k5] at hd h0 j3 hf
       rw [form51] at hf
       simp only [decide_eq_true_eq] at hf
       rw [lenI51, Int.natCast_add] at j3
       exact y_51l hC (by omega) (by omega) hd h0 h1 (by omega) hol hbl (by omega) (by omega) rfl q j3 rfl
      ·rw [form8 k4 k5] at hf
       simp only [decide_eq_true_eq] at hf
       rw [lenI8 k4 k5, Int.natCast_add] at j3
       exact y_8l hC (by omega) (by omega) hd h0 h1 (by omega) hol hbl (by omega) (by omega) k4 k5 rfl q j3 rfl
   ·rw [if_neg he]
    unfold yR
    rw [if_neg he]
    exact y_bad (by omega) q he
include e in
theorem ywrite_run {pr : Int} {N : Nat} {C O : List PV} {r : AExit × TT} {F : List PV} {n : Nat} (hN : N ≤ 8) (hp : 0 ≤ pr) (hp2 : pr ≤ 255)
 (q : callV E "ref11.Is" [vi pr] [] = some ([rB false], [na], []))
 (h2 : runV E (.loop [0, 1, 5, 6, 7] ref11_Write_L0) (yS 0 [] pr N C 0) = some r)
 (hr : (r = (.exit 0, updT (updT botT 6 (.own n 1 O)) 5 (fb 0 0)) ∧ F = [.sc (.int .i64 0), .sc (.int .i64 0)]) ∨ (∃ x y, r = (.ret, wE x y) ∧ n = 0 ∧ O = [] ∧ F = [.sc (.int .i64 x), .sc (.int .i64 y)])) :
 callV E "ref11.Write" [.v (.sl N C), vi pr] [] = some ([.o n 1 O, .v (.agg F)], [na, na], []) := by
 have c1 : ¬ pr < 0 := by omega
 have c2 : ¬ 255 < pr := by omega
 have c3 : ¬ (8 : Int) < N := by omega
 rcases hr with ⟨rfl, rfl⟩ | ⟨x, y, rfl, rfl, rfl, rfl⟩
 ·refine callV_fn e.ref11_Write fun nd hnd => ?_
  simp (maxSteps := 1000000) (disch := first | omega | (simp only [lnS] <;> omega) | assumption | fail) [ref11_Write_B, wwS, -List.getD_eq_getElem?_getD, -List.drop_drop, c1, c2, c3, q, h2]
 ·refine callV_fn e.ref11_Write fun nd hnd => ?_
  simp (maxSteps := 1000000) (disch := first | omega | (simp only [lnS] <;> omega) | assumption | fail) [ref11_Write_B, wwS, -List.getD_eq_getElem?_getD, -List.drop_drop, c1, c2, c3, q, h2]
include e in
theorem ywrite_neg {C : List PV} {pr : Int} {N : Nat} (h : pr < 0) : callV E "ref11.Write" [.v (.sl N C), vi pr] [] = some ([.o 0 1 [], fB 1 0], [na, na], []) := by
 refine callV_fn e.ref11_Write fun nd hnd => ?_
 simp (maxSteps := 1000000) (disch := first | omega | (simp only [lnS] <;> omega) | assumption | fail) [ref11_Write_B, wwS, -List.getD_eq_getElem?_getD, -List.drop_drop, h]
include e in
theorem ywrite_big {C : List PV} {pr : Int} {N : Nat} (h : 255 < pr) : callV E "ref11.Write" [.v (.sl N C), vi pr] [] = some ([.o 0 1 [], fB 1 0], [na, na], []) := by
 have c : ¬ pr < 0 := by omega
 refine callV_fn e.ref11_Write fun nd hnd => ?_
 simp (maxSteps := 1000000) (disch := first | omega | (simp only [lnS] <;> omega) | assumption | fail) [ref11_Write_B, wwS, -List.getD_eq_getElem?_getD, -List.drop_drop, c, h]
include e in
theorem ywrite_is {C : List PV} {pr : Int} {N : Nat} (h1 : ¬ pr < 0) (h2 : ¬ 255 < pr) (q : callV E "ref11.Is" [vi pr] [] = some ([rB true], [na], [])) : callV E "ref11.Write" [.v (.sl N C), vi pr] [] = some ([.o 0 1 [], fB 1 0], [na, na], []) := by
 refine callV_fn e.ref11_Write fun nd hnd => ?_
 simp (maxSteps := 1000000) (disch := first | omega | (simp only [lnS] <;> omega) | assumption | fail) [ref11_Write_B, wwS, -List.getD_eq_getElem?_getD, -List.drop_drop, h1, h2, q]
include e in
theorem ywrite_many {C : List PV} {pr : Int} {N : Nat} (h1 : ¬ pr < 0) (h2 : ¬ 255 < pr) (q : callV E "ref11.Is" [vi pr] [] = some ([rB false], [na], [])) (h : 8 < N) : callV E "ref11.Write" [.v (.sl N C), vi pr] [] = some ([.o 0 1 [], fB 7 8], [na, na], []) := by
 have c : (8 : Int) < N := by omega
 refine callV_fn e.ref11_Write fun nd hnd => ?_
 simp (maxSteps := 1000000) (disch := first | omega | (simp only [lnS] <;> omega) | assumption | fail) [ref11_Write_B, wwS, -List.getD_eq_getElem?_getD, -List.drop_drop, h1, h2, q, c]
include e e1 in
theorem ref11_Write (X : List (Int × List Nat)) (pr : Int) (hb : ∀ p ∈ X, p.2.length ≤ room) :
 callV E "ref11.Write" [.v (.sl X.length (exC X)), vi pr] [] = some ([.o (writeX X pr).1.length 1 (bp (writeX X pr).1), fB (writeX X pr).2.1 (writeX X pr).2.2], [na, na], []) := by
 have q := ref11_Is e pr
 unfold writeX
 by_cases h1 : pr < 0
 ·rw [if_pos (.inl h1)]
  exact ywrite_neg e h1
 ·by_cases h2 : 255 < pr
  ·rw [if_pos (.inr (.inl h2))]
   exact ywrite_big e h2
  ·by_cases h3 : isX pr = true
   ·rw [if_pos (.inr (.inr h3))]
    rw [h3] at q
    exact ywrite_is e h1 h2 q
   ·have h3f : isX pr = false := by simpa using h3
    rw [if_neg (by rintro (h | h | h) <;> contradiction)]
    rw [h3f] at q
    by_cases h8 : 8 < X.length
    ·rw [if_pos h8]
     exact ywrite_many e h1 h2 q h8
    ·rw [if_neg h8]
     have l1 := y_loop e e1 X pr rfl (by omega) hb X.length 0 [] (by omega) (by simp)
     rw [show ((0 : Nat) : Int) = 0 from rfl] at l1
     refine ywrite_run e (r := yR (wrX X pr X.length 0 [])) (by omega) (by omega) (by omega) q l1 ?_
     have hbad := wrX_bad X pr X.length 0 []
     have hgood := wrX_good X pr X.length 0 []
     generalize wrX X pr X.length 0 [] = r at *
     obtain ⟨o, x, y⟩ := r
     simp only at hbad hgood ⊢
     by_cases hx : x = 0
     ·left
      subst hx
      refine ⟨rfl, ?_⟩
      rw [hgood rfl]
     ·right
      have := hbad hx
      subst this
      exact ⟨x, y, by unfold yR; rw [if_neg hx], rfl, rfl, rfl⟩
theorem prow_ext {B : Nat} : ∀ {rows : List (List PV)}, (∀ r ∈ rows, POk B (.st [.int .i64, .sl 1 1 (.int .u8)]) r) → ∃ X : List (Int × List Nat), X.length = rows.length ∧ rows.flatten = exC X ∧ ∀ p ∈ X, I64 p.1 ∧ (∀ x ∈ p.2, x < 256) ∧ p.2.length ≤ room
 | [], _ => ⟨[], rfl, rfl, by simp⟩
 | r :: rows, hr => by
   have h0 := hr r (by simp)
   simp only [POk, POks] at h0
   obtain ⟨c0, r0, rfl, ⟨k, rfl, hk⟩, c1, r1, rfl, h1, rfl⟩ := h0
   obtain ⟨w, rfl⟩ : ∃ w, c1 = [w] := by
    obtain ⟨ws, rfl, _⟩ := h1
    exact ⟨_, rfl⟩
   have h2 : PVal B (.sl 1 1 (.int .u8)) w := by
    simp only [PVal, Ty.agg, Bool.false_eq_true, if_false, POk]
    exact h1
   obtain ⟨b, rfl, h256, hl, _⟩ := pv_bytesR h2
   obtain ⟨X, g1, g2, g3⟩ := prow_ext (rows := rows) (fun r hm => hr r (by simp [hm]))
   refine ⟨(k, b) :: X, by simp [g1], by simp [g2, exC], fun p hp => ?_⟩
   cases hp with
   | head => exact ⟨wf_i64 hk, h256, hl⟩
   | tail _ hp => exact g3 p hp
theorem pv_exts {B : Nat} {p : PV} (hv : PVal B (.sl 2 32 (.st [.int .i64, .sl 1 1 (.int .u8)])) p) : ∃ X : List (Int × List Nat), p = .sl X.length (exC X) ∧ (∀ p ∈ X, I64 p.1 ∧ (∀ x ∈ p.2, x < 256) ∧ p.2.length ≤ room) ∧ X.length * 32 ≤ room := by
 simp only [PVal, Ty.agg, Bool.false_eq_true, if_false] at hv
 rw [POk] at hv
 obtain ⟨rows, h1, h2, h3, h4⟩ := hv
 obtain ⟨X, q1, q2, q3⟩ := prow_ext (fun r hr => (h4 r hr).2)
 refine ⟨X, ?_, q3, by rw [q1]; exact reach_room h2⟩
 rw [q1, ← q2]
 simpa using h1
theorem wrX_len (X : List (Int × List Nat)) (pr : Int) : ∀ (m i : Nat) (out : List Nat), i + m ≤ X.length → out.length ≤ i * 2050 → (wrX X pr m i out).1.length ≤ (i + m) * 2050
 | 0, i, out, _, h => by unfold wrX; simpa using h
 | m + 1, i, out, hm, h => by
   unfold wrX
   split
   ·rename_i he
    have hi : i < X.length := by omega
    have := form_le (err_form hi he)
    have e1 : (hdrX X pr i).length = 2 + X[i].2.length := by unfold hdrX; rw [List.getElem?_eq_getElem hi]; simp; omega
    have := wrX_len X pr m (i + 1) (out ++ hdrX X pr i) (by omega) (by rw [List.length_append, e1]; omega)
    omega
   ·simp
theorem writeX_len (X : List (Int × List Nat)) (pr : Int) : (writeX X pr).1.length ≤ 16400 := by
 unfold writeX
 split
 ·simp
 ·split
  ·simp
  ·have := wrX_len X pr X.length 0 [] (by omega) (by simp)
   omega
include e in
theorem writes_run {C O : List PV} {N n : Nat} {pr x y : Int} (hlive : callV E "law11.live" [] [] = some ([rB true], [], []))
 (q1 : callV E "extwalk.Write" [.v (.sl N C), vi pr] [] = some ([.o n 1 O, fB x y], [na, na], []))
 (q2 : callV E "ref11.Write" [.v (.sl N C), vi pr] [] = some ([.o n 1 O, fB x y], [na, na], []))
 (q3 : callV E "ref01.SameBytes" [.v (.sl n O), .v (.sl n O)] [] = some ([rB true], [na, na], [])) :
 callV E "law11.ExtwalkWrites" [.v (.sl N C), vi pr] [] = some ([rB true], [na, na], []) := by
 refine callV_fn e.law11_ExtwalkWrites fun nd hnd => ?_
 simp (maxSteps := 1000000) (disch := first | omega | (simp only [lnS] <;> omega) | assumption | fail) [law11_ExtwalkWrites_B, wwS, -List.getD_eq_getElem?_getD, -List.drop_drop, q1, q2, q3, hlive]
end
theorem law_ExtwalkWrites {E : EnvW} (e : WbvC11Env E) (es : WbvCslEnv E) (e1 : WbvC01Env E) (B : Nat) (avs : List PV) (ha : PArgs B [.sl 2 32 (.st [.int .i64, .sl 1 1 (.int .u8)]), .int .i64] avs) : ∃ o ho, callV E "law11.ExtwalkWrites" (avs.map .v) [] = some ([rB true], o, ho) := by
 simp only [PArgs] at ha
 obtain ⟨v0, _, rfl, a0, v1, _, rfl, a1, rfl⟩ := ha
 obtain ⟨X, rfl, hX, hl⟩ := pv_exts a0
 obtain ⟨k, rfl, _⟩ := pv_int a1
 have hb : ∀ p ∈ X, p.2.length ≤ room := fun p hp => (hX p hp).2.2
 refine ⟨[na, na], [], ?_⟩
 have q := ref01_SameBytes e1 (writeX X k).1 (writeX X k).1 (by have := writeX_len X k; unfold room; omega)
 rw [decide_eq_true rfl] at q
 exact writes_run e (live e) (extwalk_Write e es X k hb) (ref11_Write e e1 X k hb) q
end Go.Wb.P11

/- Chapter 2: sums, differences. -/
import Derived.Test.YtlbekhmgpfbgnaaWbvP02a
set_option maxRecDepth 100000
set_option linter.all false
namespace Go.Wb.P02
open Go Go.Wb Go.Wb.Code
theorem div_bit {A B m : Nat} (h : A / 2 ^ (m + 1) = B / 2 ^ (m + 1)) (hne : A / 2 ^ m % 2 ≠ B / 2 ^ m % 2) : decide (A / 2 ^ m % 2 < B / 2 ^ m % 2) = decide (A < B) := by
 rw [Nat.pow_succ, ← Nat.div_div_eq_div_mul, ← Nat.div_div_eq_div_mul] at h
 apply decide_eq_decide.2
 constructor
 ·intro hl
  exact Nat.lt_of_not_le fun hle => by
   have := Nat.div_le_div_right (c := 2 ^ m) hle
   omega
 ·intro hl
  have := Nat.div_le_div_right (c := 2 ^ m) (Nat.le_of_lt hl)
  omega
theorem div_same {A B m : Nat} (h : A / 2 ^ (m + 1) = B / 2 ^ (m + 1)) (he : A / 2 ^ m % 2 = B / 2 ^ m % 2) : A / 2 ^ m = B / 2 ^ m := by
 rw [Nat.pow_succ, ← Nat.div_div_eq_div_mul, ← Nat.div_div_eq_div_mul] at h
 omega
section
variable {E : EnvW} (e : WbvC02Env E)
theorem Less_loop (A B : Nat) (xs ys : List Int) (hx : xs.length = 128) (hy : ys.length = 128) (gx : ∀ i, i < 128 → xs.getD i 0 = ((A / 2 ^ i % 2 : Nat) : Int)) (gy : ∀ i, i < 128 → ys.getD i 0 = ((B / 2 ^ i % 2 : Nat) : Int)) :
 ∀ (m : Nat) (z : Int), z = (m : Int) - 1 → m ≤ 128 → A / 2 ^ m = B / 2 ^ m →
 runV E (.loop [5, 6, 7] ref02_Less_L0) (updT (updT (updT botT 7 (ti .i64 z)) 6 (.box (kc .i64 ys))) 5 (.box (kc .i64 xs))) =
  if A = B then some (.exit 0, botT) else some (.ret, updT botT 4 (tb (decide (A < B))))
 | 0, z, hz, hm, h => by
   have hc : ¬ (0 ≤ z) := by omega
   have : A = B := by simpa using h
   rw [if_pos this]
   refine loop_out (by simp (maxSteps := 1000000) (disch := first | omega | (simp only [lnS] <;> omega) | assumption | fail) [ref02_Less_L0, wwS, -List.getD_eq_getElem?_getD, -List.drop_drop, hc]; first | exact ⟨rfl, rfl⟩ | exact rfl) ?_ (by simp)
   rfl
 | m + 1, z, hz, hm, h => by
   have g1 := gx m (by omega)
   have g2 := gy m (by omega)
   have hz' : z = (m : Int) := by omega
   subst hz'
   have hc : 0 ≤ (m : Int) := by omega
   have c1 : (m : Int) < 128 := by omega
   by_cases he : A / 2 ^ m % 2 = B / 2 ^ m % 2
   ·have hs := div_same h he
    have ih := Less_loop A B xs ys hx hy gx gy m ((m : Int) - 1) rfl (by omega) hs
    rw [he] at g1
    generalize B / 2 ^ m % 2 = v at *
    refine loop_go (by simp (maxSteps := 1000000) (disch := first | omega | (simp only [lnS] <;> omega) | assumption | fail) [ref02_Less_L0, wwS, -List.getD_eq_getElem?_getD, -List.drop_drop, hc, c1, g1, g2, hx, hy]; rfl) ?_
    exact ih
   ·have hd := div_bit h he
    have hne : ¬ A = B := by rintro rfl; exact he rfl
    rw [if_neg hne, ← hd]
    generalize B / 2 ^ m % 2 = v at *
    generalize A / 2 ^ m % 2 = u at *
    have hv : ¬ (u : Int) = v := by omega
    refine loop_out (by simp (maxSteps := 1000000) (disch := first | omega | (simp only [lnS] <;> omega) | assumption | fail) [ref02_Less_L0, wwS, -List.getD_eq_getElem?_getD, -List.drop_drop, hc, c1, g1, g2, hx, hy, hv]; first | exact ⟨rfl, rfl⟩ | exact rfl) ?_ (by simp)
    simp
include e in
theorem ref02_Less (a b c d : Nat) (ha : a < 18446744073709551616) (hb : b < 18446744073709551616) (hc : c < 18446744073709551616) (hd : d < 18446744073709551616) :
 callV E "ref02.Less" [.v (wv a b), .v (wv c d)] [] = some ([rB (decide (nv a b < nv c d))], [na, na], []) := by
 have q1 := ref02_Bits e a b ha hb
 have q2 := ref02_Bits e c d hc hd
 have hA := nv_lt ha hb
 have hB := nv_lt hc hd
 have hl := Less_loop (E := E) (nv a b) (nv c d) (bl 128 (nv a b)) (bl 128 (nv c d)) bl_len bl_len (fun i hi => bl_get hi) (fun i hi => bl_get hi) 128 127 (by omega) (by omega) (by rw [Nat.div_eq_of_lt hA, Nat.div_eq_of_lt hB])
 have l1 : (bl 128 (nv a b)).length = 128 := bl_len
 have l2 : (bl 128 (nv c d)).length = 128 := bl_len
 have hz : (zi 128 0).length = 128 := zi_len
 generalize bl 128 (nv a b) = x1 at *
 generalize bl 128 (nv c d) = x2 at *
 generalize nv a b = A at *
 generalize nv c d = B at *
 by_cases h : A = B
 ·rw [if_pos h] at hl
  rw [decide_eq_false (by omega : ¬ A < B)]
  refine callV_fn e.ref02_Less fun nd hnd => ?_
  simp (maxSteps := 1000000) (disch := first | omega | (simp only [lnS] <;> omega) | assumption | fail) [ref02_Less_B, wwS, -List.getD_eq_getElem?_getD, -List.drop_drop, q1, q2, hl, l1, l2, hz]
 ·rw [if_neg h] at hl
  refine callV_fn e.ref02_Less fun nd hnd => ?_
  simp (maxSteps := 1000000) (disch := first | omega | (simp only [lnS] <;> omega) | assumption | fail) [ref02_Less_B, wwS, -List.getD_eq_getElem?_getD, -List.drop_drop, q1, q2, hl, l1, l2, hz]
include e in
theorem wide_Less (a b c d : Nat) (ha : a < 18446744073709551616) (hb : b < 18446744073709551616) (hc : c < 18446744073709551616) (hd : d < 18446744073709551616) :
 callV E "wide.Less" [.v (wv a b), .v (wv c d)] [] = some ([rB (decide (nv a b < nv c d))], [na, na], []) := by
 by_cases h : a = c
 ·have hn : decide (nv a b < nv c d) = decide ((b : Int) < d) := decide_eq_decide.2 (by unfold nv; omega)
  rw [hn]
  subst h
  refine callV_fn e.wide_Less fun nd hnd => ?_
  simp (maxSteps := 1000000) (disch := first | omega | (simp only [lnS] <;> omega) | assumption | fail) [wide_Less_B, wwS, -List.getD_eq_getElem?_getD, -List.drop_drop]
 ·have hn : decide (nv a b < nv c d) = decide ((a : Int) < c) := decide_eq_decide.2 (by unfold nv; omega)
  rw [hn]
  have h' : ¬ (a : Int) = c := by omega
  refine callV_fn e.wide_Less fun nd hnd => ?_
  simp (maxSteps := 1000000) (disch := first | omega | (simp only [lnS] <;> omega) | assumption | fail) [wide_Less_B, wwS, -List.getD_eq_getElem?_getD, -List.drop_drop, h, h']
include e in
theorem wide_Of (a : Nat) : callV E "wide.Of" [vk .u64 a] [] = some ([.v (wv 0 a)], [na], []) := by
 refine callV_fn e.wide_Of fun nd hnd => ?_
 simp (maxSteps := 1000000) (disch := first | omega | (simp only [lnS] <;> omega) | assumption | fail) [wide_Of_B, wwS, -List.getD_eq_getElem?_getD, -List.drop_drop]
include e in
theorem ref02_Of (a : Nat) : callV E "ref02.Of" [vk .u64 a] [] = some ([.v (wv 0 a)], [na], []) := by
 refine callV_fn e.ref02_Of fun nd hnd => ?_
 simp (maxSteps := 1000000) (disch := first | omega | (simp only [lnS] <;> omega) | assumption | fail) [ref02_Of_B, wwS, -List.getD_eq_getElem?_getD, -List.drop_drop]
include e in
theorem wide_Add (a b c d : Nat) (ha : a < 18446744073709551616) (hb : b < 18446744073709551616) (hc : c < 18446744073709551616) (hd : d < 18446744073709551616) :
 callV E "wide.Add" [.v (wv a b), .v (wv c d)] [] = some ([.v (wM ((nv a b + nv c d) % 340282366920938463463374607431768211456)), rB (decide (340282366920938463463374607431768211456 ≤ nv a b + nv c d))], [na, na], []) := by
 unfold wM
 have hlo : (nv a b + nv c d) % 340282366920938463463374607431768211456 % 18446744073709551616 = (b + d) % 18446744073709551616 := by unfold nv; omega
 have hhi : (nv a b + nv c d) % 340282366920938463463374607431768211456 / 18446744073709551616 = (a + c + (b + d) / 18446744073709551616) % 18446744073709551616 := by unfold nv; omega
 have hbe : decide (340282366920938463463374607431768211456 ≤ nv a b + nv c d) = decide (18446744073709551616 ≤ a + c + (b + d) / 18446744073709551616) := decide_eq_decide.2 (by unfold nv; omega)
 rw [hlo, hhi, hbe]
 clear hlo hhi hbe
 have w1 : IntKind.u64.wrap ((a : Int) + c) = ((a + c : Nat) % 18446744073709551616 : Nat) := by rw [IntKind.wrap_u64]; omega
 have w2 : IntKind.u64.wrap ((b : Int) + d) = ((b + d : Nat) % 18446744073709551616 : Nat) := by rw [IntKind.wrap_u64]; omega
 have w3 : IntKind.u64.wrap ((((a + c) % 18446744073709551616 : Nat) : Int) + 1) = (((a + c) % 18446744073709551616 + 1) % 18446744073709551616 : Nat) := by rw [IntKind.wrap_u64]; omega
 by_cases h : 18446744073709551616 ≤ b + d
 ·have h1 : ((((b + d) % 18446744073709551616 : Nat) : Int) < b) := by omega
  have r1 : (a + c + (b + d) / 18446744073709551616) % 18446744073709551616 = ((a + c) % 18446744073709551616 + 1) % 18446744073709551616 := by omega
  rw [r1]
  generalize hs : (b + d) % 18446744073709551616 = s at *
  by_cases g : (((a + c) % 18446744073709551616 : Nat) : Int) < a
  ·rw [decide_eq_true (by omega : 18446744073709551616 ≤ a + c + (b + d) / 18446744073709551616)]
   generalize ((a + c) % 18446744073709551616 + 1) % 18446744073709551616 = r at *
   generalize (a + c) % 18446744073709551616 = q at *
   refine callV_fn e.wide_Add fun nd hnd => ?_
   simp (maxSteps := 1000000) (disch := first | omega | (simp only [lnS] <;> omega) | assumption | fail) [wide_Add_B, wwS, -List.getD_eq_getElem?_getD, -List.drop_drop, w1, w2, w3, h1, g]
  ·have hx : decide (18446744073709551616 ≤ a + c + (b + d) / 18446744073709551616) = decide ((((((a + c) % 18446744073709551616 + 1) % 18446744073709551616 : Nat)) : Int) = 0) := decide_eq_decide.2 (by omega)
   rw [hx]
   clear hx r1
   generalize ((a + c) % 18446744073709551616 + 1) % 18446744073709551616 = r at *
   generalize (a + c) % 18446744073709551616 = q at *
   refine callV_fn e.wide_Add fun nd hnd => ?_
   simp (maxSteps := 1000000) (disch := first | omega | (simp only [lnS] <;> omega) | assumption | fail) [wide_Add_B, wwS, -List.getD_eq_getElem?_getD, -List.drop_drop, w1, w2, w3, h1, g]
 ·have h1 : ¬ ((((b + d) % 18446744073709551616 : Nat) : Int) < b) := by omega
  have r1 : (a + c + (b + d) / 18446744073709551616) = a + c := by omega
  rw [r1]
  have hx : decide (18446744073709551616 ≤ a + c) = decide ((((a + c) % 18446744073709551616 : Nat) : Int) < a) := decide_eq_decide.2 (by omega)
  rw [hx]
  clear hx r1 w3
  generalize (b + d) % 18446744073709551616 = s at *
  generalize (a + c) % 18446744073709551616 = q at *
  refine callV_fn e.wide_Add fun nd hnd => ?_
  simp (maxSteps := 1000000) (disch := first | omega | (simp only [lnS] <;> omega) | assumption | fail) [wide_Add_B, wwS, -List.getD_eq_getElem?_getD, -List.drop_drop, w1, w2, h1]
include e in
theorem wide_Sub (a b c d : Nat) (ha : a < 18446744073709551616) (hb : b < 18446744073709551616) (hc : c < 18446744073709551616) (hd : d < 18446744073709551616) :
 callV E "wide.Sub" [.v (wv a b), .v (wv c d)] [] = some ([.v (wM ((nv a b + 340282366920938463463374607431768211456 - nv c d) % 340282366920938463463374607431768211456)), rB (decide (nv a b < nv c d))], [na, na], []) := by
 have q := wide_Less e a b c d ha hb hc hd
 unfold wM
 have hlo : (nv a b + 340282366920938463463374607431768211456 - nv c d) % 340282366920938463463374607431768211456 % 18446744073709551616 = (b + 18446744073709551616 - d) % 18446744073709551616 := by unfold nv; omega
 have hhi : (nv a b + 340282366920938463463374607431768211456 - nv c d) % 340282366920938463463374607431768211456 / 18446744073709551616 = ((a + 18446744073709551616 - c) % 18446744073709551616 + (if b < d then 18446744073709551615 else 0)) % 18446744073709551616 := by unfold nv; split <;> omega
 rw [hlo, hhi]
 clear hlo hhi
 generalize decide (nv a b < nv c d) = le at *
 have w1 : IntKind.u64.wrap ((a : Int) - c) = ((a + 18446744073709551616 - c : Nat) % 18446744073709551616 : Nat) := by rw [IntKind.wrap_u64]; omega
 have w2 : IntKind.u64.wrap ((b : Int) - d) = ((b + 18446744073709551616 - d : Nat) % 18446744073709551616 : Nat) := by rw [IntKind.wrap_u64]; omega
 have w3 : ∀ p : Nat, IntKind.u64.wrap ((p : Int) - 1) = ((p + 18446744073709551615) % 18446744073709551616 : Nat) := by intro p; rw [IntKind.wrap_u64]; omega
 have w3 := w3 ((a + 18446744073709551616 - c) % 18446744073709551616)
 by_cases h : b < d
 ·rw [if_pos h]
  have h1 : (b : Int) < d := by omega
  generalize (a + 18446744073709551616 - c) % 18446744073709551616 = p at *
  generalize (p + 18446744073709551615) % 18446744073709551616 = r at *
  generalize (b + 18446744073709551616 - d) % 18446744073709551616 = s at *
  refine callV_fn e.wide_Sub fun nd hnd => ?_
  simp (maxSteps := 1000000) (disch := first | omega | (simp only [lnS] <;> omega) | assumption | fail) [wide_Sub_B, wwS, -List.getD_eq_getElem?_getD, -List.drop_drop, q, w1, w2, w3, h1]
 ·rw [if_neg h]
  have h1 : ¬ (b : Int) < d := by omega
  have r1 : ((a + 18446744073709551616 - c) % 18446744073709551616 + 0) % 18446744073709551616 = (a + 18446744073709551616 - c) % 18446744073709551616 := by rw [Nat.add_zero, Nat.mod_mod]
  rw [r1]
  clear w3 r1
  generalize (a + 18446744073709551616 - c) % 18446744073709551616 = p at *
  generalize (b + 18446744073709551616 - d) % 18446744073709551616 = s at *
  refine callV_fn e.wide_Sub fun nd hnd => ?_
  simp (maxSteps := 1000000) (disch := first | omega | (simp only [lnS] <;> omega) | assumption | fail) [wide_Sub_B, wwS, -List.getD_eq_getElem?_getD, -List.drop_drop, q, w1, w2, h1]
theorem pv_wide {B : Nat} {p : PV} (hv : PVal B (.st [.int .u64, .int .u64]) p) : ∃ a b : Nat, p = wv a b ∧ a < 18446744073709551616 ∧ b < 18446744073709551616 := by
 simp only [PVal, Ty.agg, if_true] at hv
 obtain ⟨cs, rfl, hv⟩ := hv
 simp only [POk, POks] at hv
 obtain ⟨x, y, rfl, ⟨n, rfl, hn⟩, z, w, rfl, ⟨m, rfl, hm⟩, rfl⟩ := hv
 have hn := wf_u64 hn
 have hm := wf_u64 hm
 refine ⟨n.toNat, m.toNat, ?_, by omega, by omega⟩
 unfold wv
 rw [Int.toNat_of_nonneg hn.1, Int.toNat_of_nonneg hm.1]
 rfl
include e in
theorem adds_run (hlive : callV E "law02.live" [] [] = some ([rB true], [], [])) {a b c d s1 s2 d1 d2 : Nat} {t1 t2 t3 : Bool} (q1 : callV E "wide.Add" [.v (wv a b), .v (wv c d)] [] = some ([.v (wv s1 s2), rB t1], [na, na], []))
 (q2 : callV E "ref02.Add" [.v (wv a b), .v (wv c d)] [] = some ([.v (wv s1 s2), rB t1], [na, na], [])) (q3 : callV E "wide.Sub" [.v (wv a b), .v (wv c d)] [] = some ([.v (wv d1 d2), rB t2], [na, na], []))
 (q4 : callV E "ref02.Sub" [.v (wv a b), .v (wv c d)] [] = some ([.v (wv d1 d2), rB t2], [na, na], [])) (q5 : callV E "wide.Less" [.v (wv a b), .v (wv c d)] [] = some ([rB t3], [na, na], []))
 (q6 : callV E "ref02.Less" [.v (wv a b), .v (wv c d)] [] = some ([rB t3], [na, na], [])) : callV E "law02.WideAdds" [.v (wv a b), .v (wv c d)] [] = some ([rB true], [na, na], []) := by
 have q7 := wide_Of e b
 have q8 := ref02_Of e b
 refine callV_fn e.law02_WideAdds fun nd hnd => ?_
 simp (maxSteps := 1000000) (disch := first | omega | (simp only [lnS] <;> omega) | assumption | fail) [law02_WideAdds_B, wwS, -List.getD_eq_getElem?_getD, -List.drop_drop, q1, q2, q3, q4, q5, q6, q7, q8, hlive]
include e in
theorem adds_law (hlive : callV E "law02.live" [] [] = some ([rB true], [], [])) (B : Nat) (avs : List PV) (ha : PArgs B [.st [.int .u64, .int .u64], .st [.int .u64, .int .u64]] avs) :
 ∃ o ho, callV E "law02.WideAdds" (avs.map .v) [] = some ([rB true], o, ho) := by
 simp only [PArgs] at ha
 obtain ⟨v0, _, rfl, a0, v1, _, rfl, a1, rfl⟩ := ha
 obtain ⟨a, b, rfl, ha, hb⟩ := pv_wide a0
 obtain ⟨c, d, rfl, hc, hd⟩ := pv_wide a1
 exact ⟨[na, na], [], adds_run e hlive (wide_Add e a b c d ha hb hc hd) (ref02_Add e a b c d ha hb hc hd) (wide_Sub e a b c d ha hb hc hd) (ref02_Sub e a b c d ha hb hc hd) (wide_Less e a b c d ha hb hc hd) (ref02_Less e a b c d ha hb hc hd)⟩
end
end Go.Wb.P02

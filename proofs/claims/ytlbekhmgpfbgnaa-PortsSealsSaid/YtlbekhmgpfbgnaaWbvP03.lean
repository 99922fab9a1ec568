/- Chapter 3: sums of words. -/
import Derived.Test.YtlbekhmgpfbgnaaWbvP03f
import Derived.Test.YtlbekhmgpfbgnaaWbvP01b
import Derived.Test.YtlbekhmgpfbgnaaWbvC03
set_option maxRecDepth 100000
set_option linter.all false
namespace Go.Wb.P03
open Go Go.Wb Go.Wb.Code Go.Wb.P01
def w2 : Bool → List Nat → Nat
 | _, [] => 0
 | true, a :: l => 256 * a + w2 false l
 | false, a :: l => a + w2 true l
theorem ws_w2 : ∀ (l : List Nat), ws l = w2 true l
 | [] => rfl
 | [a] => by simp only [ws, w2]; omega
 | a :: b :: l => by simp only [ws, w2, ws_w2 l]; omega
theorem w2_app : ∀ (x y : List Nat) (p : Bool), w2 p (x ++ y) = w2 p x + w2 (if x.length % 2 = 0 then p else !p) y
 | [], y, p => by simp [w2]
 | a :: x, y, true => by
   simp only [List.cons_append, w2, w2_app x y false, List.length_cons]
   rcases Nat.mod_two_eq_zero_or_one x.length with h | h
   ·rw [if_pos h, if_neg (by omega)]; simp; omega
   ·rw [if_neg (by omega), if_pos (by omega)]; simp; omega
 | a :: x, y, false => by
   simp only [List.cons_append, w2, w2_app x y true, List.length_cons]
   rcases Nat.mod_two_eq_zero_or_one x.length with h | h
   ·rw [if_pos h, if_neg (by omega)]; simp; omega
   ·rw [if_neg (by omega), if_pos (by omega)]; simp; omega
theorem w2_swap : ∀ (l : List Nat) (p : Bool), (256 * w2 p l) % 65535 = w2 (!p) l % 65535
 | [], p => by cases p <;> rfl
 | a :: l, true => by
   have := w2_swap l false
   simp only [w2, Bool.not_true, Bool.not_false] at *
   omega
 | a :: l, false => by
   have := w2_swap l true
   simp only [w2, Bool.not_true, Bool.not_false] at *
   omega
theorem w2_zero : ∀ (l : List Nat) (p : Bool), w2 p l = 0 ↔ ∀ x ∈ l, x = 0
 | [], p => by cases p <;> simp [w2]
 | a :: l, true => by
   have := w2_zero l false
   simp only [w2, List.mem_cons, forall_eq_or_imp, ← this]
   omega
 | a :: l, false => by
   have := w2_zero l true
   simp only [w2, List.mem_cons, forall_eq_or_imp, ← this]
   omega
theorem foldS_eq {m n : Int} (hm : 0 ≤ m) (hn : 0 ≤ n) (h : m % 65535 = n % 65535) (hz : m = 0 ↔ n = 0) : foldS m = foldS n := by
 unfold foldS
 split <;> split <;> omega
theorem foldS_mod {n : Int} (hn : 0 ≤ n) : foldS n % 65535 = n % 65535 := by unfold foldS; split <;> omega
theorem foldS_zero {n : Int} (hn : 0 ≤ n) : foldS n = 0 ↔ n = 0 := by unfold foldS; split <;> omega
theorem foldS_small {n : Int} (h0 : 0 ≤ n) (h1 : n < 65536) : foldS n = n := by unfold foldS; split <;> omega
def swapS (w : Int) : Int := w % 256 * 256 + w / 256
def joinS (a n b : Int) : Int := foldS (a + if n % 2 = 0 then b else swapS b)
section
variable {E : EnvW} (e : WbvC03Env E) (ef : WbvC03fEnv E) (e1 : WbvC01Env E)
include e in
theorem onesum_Sum (b : List Nat) (h256 : ∀ x ∈ b, x < 256) : callV E "onesum.Sum" [vb b] [] = some ([rk .u16 (sumS b)], [na], []) := by
 rw [callV_prim e.onesum_Sum, sumW_ok h256]
include e in
theorem ref03_rest (n : Int) (h0 : 0 ≤ n) (h1 : n < 18446744073709551616) : callV E "ref03.rest" [vk .u64 n] [] = some ([rk .u16 (foldS n)], [na], []) := by
 unfold foldS
 by_cases hz : n = 0
 ·subst hz
  refine callV_fn e.ref03_rest fun nd hnd => ?_
  simp (maxSteps := 1000000) (disch := first | omega | (simp only [lnS] <;> omega) | assumption | fail) [ref03_rest_B, wwS, -List.getD_eq_getElem?_getD, -List.drop_drop]
 ·rw [if_neg hz]
  refine callV_fn e.ref03_rest fun nd hnd => ?_
  simp (maxSteps := 1000000) (disch := first | omega | (simp only [lnS] <;> omega) | assumption | fail) [ref03_rest_B, wwS, -List.getD_eq_getElem?_getD, -List.drop_drop, hz]
include e ef in
theorem onesum_Add (a b : Int) (ha : 0 ≤ a ∧ a < 65536) (hb : 0 ≤ b ∧ b < 65536) : callV E "onesum.Add" [vk .u16 a, vk .u16 b] [] = some ([rk .u16 (foldS (a + b))], [na, na], []) := by
 have h := onesum_fold ef (a + b) (by omega) (by omega)
 refine callV_fn e.onesum_Add fun nd hnd => ?_
 simp (maxSteps := 1000000) (disch := first | omega | (simp only [lnS] <;> omega) | assumption | fail) [onesum_Add_B, wwS, -List.getD_eq_getElem?_getD, -List.drop_drop, h]
include e in
theorem ref03_Add (a b : Int) (ha : 0 ≤ a ∧ a < 65536) (hb : 0 ≤ b ∧ b < 65536) : callV E "ref03.Add" [vk .u16 a, vk .u16 b] [] = some ([rk .u16 (foldS (a + b))], [na, na], []) := by
 have h := ref03_rest e (a + b) (by omega) (by omega)
 refine callV_fn e.ref03_Add fun nd hnd => ?_
 simp (maxSteps := 1000000) (disch := first | omega | (simp only [lnS] <;> omega) | assumption | fail) [ref03_Add_B, wwS, -List.getD_eq_getElem?_getD, -List.drop_drop, h]
theorem ref03_Sum_loop (b : List Nat) (hb : b.length ≤ room) (h256 : ∀ x ∈ b, x < 256) : ∀ (m k n : Nat), k + m = b.length → n + w2 (decide (k % 2 = 0)) (b.drop k) = ws b →
 runV E (.loop [0, 3, 4] ref03_Sum_L0) (updT (updT (updT botT 4 (ti .i64 k)) 3 (ti .u64 n)) 0 (.val (.sl b.length (bp b)))) = some (.exit 0, updT botT 3 (ti .u64 (ws b : Nat)))
 | 0, k, n, hk, hn => by
   have hc : ¬ ((k : Int) < b.length) := by omega
   rw [List.drop_eq_nil_of_le (by omega)] at hn
   have : n = ws b := by cases h : decide (k % 2 = 0) <;> rw [h] at hn <;> simpa [w2] using hn
   refine loop_out (by simp (maxSteps := 1000000) (disch := first | omega | (simp only [lnS] <;> omega) | assumption | fail) [ref03_Sum_L0, wwS, -List.getD_eq_getElem?_getD, -List.drop_drop, hc]; first | exact ⟨rfl, rfl⟩ | exact rfl) ?_ (by simp)
   rw [this]
 | m + 1, k, n, hk, hn => by
   have hc : ((k : Int) < b.length) := by omega
   have hle := ws_le b h256
   have hx := h256 _ (getD_mem (show k < b.length by omega))
   have hb0 := hb
   unfold room at hb
   rw [drop_getD (by omega)] at hn
   rcases Nat.mod_two_eq_zero_or_one k with hp | hp
   ·have hpi : (k : Int) % 2 = 0 := by omega
    rw [decide_eq_true hp] at hn
    simp only [w2] at hn
    refine loop_go (by simp (maxSteps := 1000000) (disch := first | omega | (simp only [lnS] <;> omega) | assumption | fail) [ref03_Sum_L0, wwS, -List.getD_eq_getElem?_getD, -List.drop_drop, hc, hpi]; rfl) ?_
    have hq : ((n : Int) + 256 * (b.getD k 0 : Nat)) = ((n + 256 * b.getD k 0 : Nat) : Int) := by omega
    rw [hq]
    exact ref03_Sum_loop b hb0 h256 m (k + 1) _ (by omega) (by rw [decide_eq_false (by omega)]; omega)
   ·have hpi : (k : Int) % 2 = 1 := by omega
    rw [decide_eq_false (by omega)] at hn
    simp only [w2] at hn
    refine loop_go (by simp (maxSteps := 1000000) (disch := first | omega | (simp only [lnS] <;> omega) | assumption | fail) [ref03_Sum_L0, wwS, -List.getD_eq_getElem?_getD, -List.drop_drop, hc, hpi]; rfl) ?_
    have hq : ((n : Int) + (b.getD k 0 : Nat)) = ((n + b.getD k 0 : Nat) : Int) := by omega
    rw [hq]
    exact ref03_Sum_loop b hb0 h256 m (k + 1) _ (by omega) (by rw [decide_eq_true (by omega)]; omega)
include e in
theorem ref03_Sum (b : List Nat) (hb : b.length ≤ room) (h256 : ∀ x ∈ b, x < 256) : callV E "ref03.Sum" [vb b] [] = some ([rk .u16 (sumS b)], [na], []) := by
 have hl := ref03_Sum_loop (E := E) b hb h256 b.length 0 0 (by omega) (by rw [ws_w2]; simp)
 rw [show ((0 : Nat) : Int) = 0 from rfl] at hl
 have hle := ws_le b h256
 rw [sumS_eq h256 hb]
 unfold room at hb
 have hr := ref03_rest e (ws b : Nat) (by omega) (by omega)
 generalize ws b = q at *
 refine callV_fn e.ref03_Sum fun nd hnd => ?_
 simp (maxSteps := 1000000) (disch := first | omega | (simp only [lnS] <;> omega) | assumption | fail) [ref03_Sum_B, wwS, -List.getD_eq_getElem?_getD, -List.drop_drop, hl, hr]
theorem sumS_range {b : List Nat} : 0 ≤ sumS b ∧ sumS b < 65536 := by
 unfold sumS
 exact foldS_range (by rw [IntKind.wrap_u64]; omega)
include e in
theorem onesum_Check (b : List Nat) (h256 : ∀ x ∈ b, x < 256) : callV E "onesum.Check" [vb b] [] = some ([rk .u16 (65535 - sumS b)], [na], []) := by
 have h := onesum_Sum e b h256
 have hr := @sumS_range b
 generalize sumS b = s at *
 refine callV_fn e.onesum_Check fun nd hnd => ?_
 simp (maxSteps := 1000000) (disch := first | omega | (simp only [lnS] <;> omega) | assumption | fail) [onesum_Check_B, wwS, -List.getD_eq_getElem?_getD, -List.drop_drop, h]
include e in
theorem ref03_Check (b : List Nat) (hb : b.length ≤ room) (h256 : ∀ x ∈ b, x < 256) : callV E "ref03.Check" [vb b] [] = some ([rk .u16 (65535 - sumS b)], [na], []) := by
 have h := ref03_Sum e b hb h256
 have hr := @sumS_range b
 generalize sumS b = s at *
 refine callV_fn e.ref03_Check fun nd hnd => ?_
 simp (maxSteps := 1000000) (disch := first | omega | (simp only [lnS] <;> omega) | assumption | fail) [ref03_Check_B, wwS, -List.getD_eq_getElem?_getD, -List.drop_drop, h]
include e in
theorem onesum_Good (b : List Nat) (h256 : ∀ x ∈ b, x < 256) : callV E "onesum.Good" [vb b] [] = some ([rB (decide (sumS b = 65535))], [na], []) := by
 have h := onesum_Sum e b h256
 generalize sumS b = s at *
 refine callV_fn e.onesum_Good fun nd hnd => ?_
 simp (maxSteps := 1000000) (disch := first | omega | (simp only [lnS] <;> omega) | assumption | fail) [onesum_Good_B, wwS, -List.getD_eq_getElem?_getD, -List.drop_drop, h]
include e in
theorem ref03_Good (b : List Nat) (hb : b.length ≤ room) (h256 : ∀ x ∈ b, x < 256) : callV E "ref03.Good" [vb b] [] = some ([rB (decide (sumS b = 65535))], [na], []) := by
 have h := ref03_Sum e b hb h256
 generalize sumS b = s at *
 refine callV_fn e.ref03_Good fun nd hnd => ?_
 simp (maxSteps := 1000000) (disch := first | omega | (simp only [lnS] <;> omega) | assumption | fail) [ref03_Good_B, wwS, -List.getD_eq_getElem?_getD, -List.drop_drop, h]
include e in
theorem onesum_Swap (a : Int) (ha : 0 ≤ a ∧ a < 65536) : callV E "onesum.Swap" [vk .u16 a] [] = some ([rk .u16 (swapS a)], [na], []) := by
 have hor := or_u16 (x := a * 256 % 65536) (y := a / 256) 8 (by omega) (by omega) (by omega) (by omega) (by omega) (by omega)
 unfold swapS
 refine callV_fn e.onesum_Swap fun nd hnd => ?_
 simp (maxSteps := 1000000) (disch := first | omega | (simp only [lnS] <;> omega) | assumption | fail) [onesum_Swap_B, wwS, -List.getD_eq_getElem?_getD, -List.drop_drop, hor]
 omega
include e in
theorem ref03_Swap (a : Int) (ha : 0 ≤ a ∧ a < 65536) : callV E "ref03.Swap" [vk .u16 a] [] = some ([rk .u16 (swapS a)], [na], []) := by
 unfold swapS
 refine callV_fn e.ref03_Swap fun nd hnd => ?_
 simp (maxSteps := 1000000) (disch := first | omega | (simp only [lnS] <;> omega) | assumption | fail) [ref03_Swap_B, wwS, -List.getD_eq_getElem?_getD, -List.drop_drop]
omit e in
theorem swapS_range {a : Int} (ha : 0 ≤ a ∧ a < 65536) : 0 ≤ swapS a ∧ swapS a < 65536 := by unfold swapS; omega
include e ef in
theorem onesum_Join (a n b : Int) (ha : 0 ≤ a ∧ a < 65536) (hb : 0 ≤ b ∧ b < 65536) : callV E "onesum.Join" [vk .u16 a, vi n, vk .u16 b] [] = some ([rk .u16 (joinS a n b)], [na, na, na], []) := by
 unfold joinS
 by_cases h2 : n % 2 = 0
 ·rw [if_pos h2]
  have h := onesum_Add e ef a b ha hb
  refine callV_fn e.onesum_Join fun nd hnd => ?_
  simp (maxSteps := 1000000) (disch := first | omega | (simp only [lnS] <;> omega) | assumption | fail) [onesum_Join_B, wwS, -List.getD_eq_getElem?_getD, -List.drop_drop, h2, h]
 ·rw [if_neg h2]
  have hs := onesum_Swap e b hb
  have h := onesum_Add e ef a (swapS b) ha (swapS_range hb)
  have h2' : n % 2 = 1 := by omega
  refine callV_fn e.onesum_Join fun nd hnd => ?_
  simp (maxSteps := 1000000) (disch := first | omega | (simp only [lnS] <;> omega) | assumption | fail) [onesum_Join_B, wwS, -List.getD_eq_getElem?_getD, -List.drop_drop, h2', h, hs]
include e in
theorem ref03_Join (a n b : Int) (ha : 0 ≤ a ∧ a < 65536) (hb : 0 ≤ b ∧ b < 65536) : callV E "ref03.Join" [vk .u16 a, vi n, vk .u16 b] [] = some ([rk .u16 (joinS a n b)], [na, na, na], []) := by
 unfold joinS
 by_cases h2 : n % 2 = 0
 ·rw [if_pos h2]
  have ht : n.tmod 2 = 0 := Int.tmod_eq_zero_of_dvd (Int.dvd_of_emod_eq_zero h2)
  have h := ref03_Add e a b ha hb
  refine callV_fn e.ref03_Join fun nd hnd => ?_
  simp (maxSteps := 1000000) (disch := first | omega | (simp only [lnS] <;> omega) | assumption | fail) [ref03_Join_B, wwS, -List.getD_eq_getElem?_getD, -List.drop_drop, ht, h]
 ·rw [if_neg h2]
  have hs := ref03_Swap e b hb
  have h := ref03_Add e a (swapS b) ha (swapS_range hb)
  have ht : ¬ n.tmod 2 = 0 := fun h => h2 (Int.emod_eq_zero_of_dvd (Int.dvd_of_tmod_eq_zero h))
  refine callV_fn e.ref03_Join fun nd hnd => ?_
  simp (maxSteps := 1000000) (disch := first | omega | (simp only [lnS] <;> omega) | assumption | fail) [ref03_Join_B, wwS, -List.getD_eq_getElem?_getD, -List.drop_drop, ht, h, hs]
def fillS (b : List Nat) (a : Int) : List Nat × Int :=
 if a < 0 ∨ a % 2 ≠ 0 then ([], 1) else if (putS b a 2 0).2 ≠ 0 then ([], (putS b a 2 0).2) else putS (putS b a 2 0).1 a 2 (65535 - sumS (putS b a 2 0).1).toNat
omit e in
theorem dig_256 : ∀ (k n : Nat), ∀ x ∈ dig k n, x < 256
 | 0, n, x, hx => by simp [dig] at hx
 | k + 1, n, x, hx => by
   simp only [dig, List.mem_cons] at hx
   rcases hx with rfl | hx
   ·exact Nat.mod_lt _ (by decide)
   ·exact dig_256 k n x hx
omit e in
theorem putS_256 {b : List Nat} {a w : Int} {n : Nat} (h : ∀ x ∈ b, x < 256) : ∀ x ∈ (putS b a w n).1, x < 256 := by
 unfold putS
 split
 ·intro x hx
  simp only [List.mem_append] at hx
  rcases hx with hx | hx | hx
  ·exact h x (List.mem_of_mem_take hx)
  ·exact dig_256 _ _ x hx
  ·exact h x (List.mem_of_mem_drop hx)
 ·intro x hx; simp at hx
omit e in
theorem putE_zero {len a w : Int} {n : Nat} (h : putE len a w n = 0) : 0 ≤ a ∧ 1 ≤ w ∧ w ≤ 8 ∧ a + w ≤ len ∧ n < 256 ^ w.toNat := by
 unfold putE at h
 split at h
 ·omega
 ·rename_i h2
  have := spansE_zero h
  omega
omit e in
theorem putS_len {b : List Nat} {a w : Int} {n : Nat} : (putS b a w n).1.length ≤ b.length := by
 unfold putS
 split
 ·rename_i h
  have := putE_zero h
  simp; omega
 ·simp
omit e in
theorem putS_len0 {b : List Nat} {a w : Int} {n : Nat} (h : (putS b a w n).2 = 0) : (putS b a w n).1.length = b.length ∧ putE b.length a w n = 0 := by
 unfold putS at *
 split at h
 ·rename_i h2
  have := putE_zero h2
  rw [if_pos h2]
  exact ⟨by simp; omega, h2⟩
 ·rename_i h2; exact absurd h h2
include e e1 in
theorem onesum_Fill (b : List Nat) (hb : b.length ≤ room) (h256 : ∀ x ∈ b, x < 256) (a : Int) (ha : I64 a) : callV E "onesum.Fill" [vb b, vi a] [] = some ([ro (fillS b a).1, ri (fillS b a).2], [na, na], []) := by
 have p1 := octet_Put e1 b hb a 2 ha (by unfold I64; omega) 0 (by decide)
 rw [show ((0 : Nat) : Int) = 0 from rfl] at p1
 have hl := @putS_len b a 2 0
 have h2 := @putS_256 b a 2 0 h256
 unfold fillS
 by_cases g1 : a < 0
 ·rw [if_pos (.inl g1)]
  refine callV_fn e.onesum_Fill fun nd hnd => ?_
  simp (maxSteps := 1000000) (disch := first | omega | (simp only [lnS] <;> omega) | assumption | fail) [onesum_Fill_B, wwS, -List.getD_eq_getElem?_getD, -List.drop_drop, g1]
 ·by_cases g2 : a % 2 = 0
  ·rw [if_neg (by omega)]
   generalize putS b a 2 0 = z at *
   by_cases g3 : z.2 = 0
   ·simp only [g3, ne_eq, not_true_eq_false, if_false]
    have hc := onesum_Check e z.1 h2
    have hr := @sumS_range z.1
    have p2 := octet_Put e1 z.1 (by omega) a 2 ha (by unfold I64; omega) (65535 - sumS z.1).toNat (by omega)
    rw [show (((65535 - sumS z.1).toNat : Nat) : Int) = 65535 - sumS z.1 by omega] at p2
    generalize putS z.1 a 2 (65535 - sumS z.1).toNat = y at *
    generalize sumS z.1 = s at *
    refine callV_fn e.onesum_Fill fun nd hnd => ?_
    simp (maxSteps := 1000000) (disch := first | omega | (simp only [lnS] <;> omega) | assumption | fail) [onesum_Fill_B, wwS, -List.getD_eq_getElem?_getD, -List.drop_drop, g1, g2, g3, p1, p2, hc]
   ·rw [if_pos g3]
    refine callV_fn e.onesum_Fill fun nd hnd => ?_
    simp (maxSteps := 1000000) (disch := first | omega | (simp only [lnS] <;> omega) | assumption | fail) [onesum_Fill_B, wwS, -List.getD_eq_getElem?_getD, -List.drop_drop, g1, g2, g3, p1]
  ·rw [if_pos (.inr g2)]
   have g2' : a % 2 = 1 := by omega
   refine callV_fn e.onesum_Fill fun nd hnd => ?_
   simp (maxSteps := 1000000) (disch := first | omega | (simp only [lnS] <;> omega) | assumption | fail) [onesum_Fill_B, wwS, -List.getD_eq_getElem?_getD, -List.drop_drop, g1, g2']
include e e1 in
theorem ref03_Fill (b : List Nat) (hb : b.length ≤ room) (h256 : ∀ x ∈ b, x < 256) (a : Int) (ha : I64 a) : callV E "ref03.Fill" [vb b, vi a] [] = some ([ro (fillS b a).1, ri (fillS b a).2], [na, na], []) := by
 have p1 := ref01_Put e1 b hb a 2 ha (by unfold I64; omega) 0 (by decide)
 rw [show ((0 : Nat) : Int) = 0 from rfl] at p1
 have hl := @putS_len b a 2 0
 have h2 := @putS_256 b a 2 0 h256
 unfold fillS
 by_cases g1 : a < 0
 ·rw [if_pos (.inl g1)]
  refine callV_fn e.ref03_Fill fun nd hnd => ?_
  simp (maxSteps := 1000000) (disch := first | omega | (simp only [lnS] <;> omega) | assumption | fail) [ref03_Fill_B, wwS, -List.getD_eq_getElem?_getD, -List.drop_drop, g1]
 ·by_cases g2 : a % 2 = 0
  ·rw [if_neg (by omega)]
   generalize putS b a 2 0 = z at *
   by_cases g3 : z.2 = 0
   ·simp only [g3, ne_eq, not_true_eq_false, if_false]
    have hc := ref03_Check e z.1 (by omega) h2
    have hr := @sumS_range z.1
    have p2 := ref01_Put e1 z.1 (by omega) a 2 ha (by unfold I64; omega) (65535 - sumS z.1).toNat (by omega)
    rw [show (((65535 - sumS z.1).toNat : Nat) : Int) = 65535 - sumS z.1 by omega] at p2
    generalize putS z.1 a 2 (65535 - sumS z.1).toNat = y at *
    generalize sumS z.1 = s at *
    refine callV_fn e.ref03_Fill fun nd hnd => ?_
    simp (maxSteps := 1000000) (disch := first | omega | (simp only [lnS] <;> omega) | assumption | fail) [ref03_Fill_B, wwS, -List.getD_eq_getElem?_getD, -List.drop_drop, g1, g2, g3, p1, p2, hc]
   ·rw [if_pos g3]
    refine callV_fn e.ref03_Fill fun nd hnd => ?_
    simp (maxSteps := 1000000) (disch := first | omega | (simp only [lnS] <;> omega) | assumption | fail) [ref03_Fill_B, wwS, -List.getD_eq_getElem?_getD, -List.drop_drop, g1, g2, g3, p1]
  ·rw [if_pos (.inr g2)]
   have g2' : a % 2 = 1 := by omega
   refine callV_fn e.ref03_Fill fun nd hnd => ?_
   simp (maxSteps := 1000000) (disch := first | omega | (simp only [lnS] <;> omega) | assumption | fail) [ref03_Fill_B, wwS, -List.getD_eq_getElem?_getD, -List.drop_drop, g1, g2']
end
end Go.Wb.P03

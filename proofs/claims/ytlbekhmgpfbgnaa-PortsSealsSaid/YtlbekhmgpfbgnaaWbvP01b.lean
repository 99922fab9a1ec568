/- Chapter 1: a number put at a place; got, as the document does. -/
import Derived.Test.YtlbekhmgpfbgnaaWbA6
import Derived.Test.YtlbekhmgpfbgnaaWbvP01
import Derived.Test.YtlbekhmgpfbgnaaWbvP00
set_option maxRecDepth 100000
set_option linter.all false
namespace Go.Wb.P01
open Go Go.Wb Go.Wb.Code
def dig : Nat → Nat → List Nat
 | 0, _ => []
 | k + 1, n => (n / 256 ^ k % 256) :: dig k n
@[simp] theorem dig_len : ∀ {k n : Nat}, (dig k n).length = k
  | 0, _ => rfl
  | k + 1, n => by simp [dig, dig_len]
theorem set_dig {b l : List Nat} {m x : Nat} (h : m + 1 ≤ b.length) : (b.take (m + 1) ++ l).set m x = b.take m ++ x :: l := by
 rw [take_succ_getD (by omega), List.append_assoc, List.set_append_right _ _ (by rw [List.length_take]; omega)]
 rw [show m - (List.take m b).length = 0 by rw [List.length_take]; omega]
 simp
section
variable {E : EnvW} (e : WbvC01Env E)
theorem octet_Put_loop (b : List Nat) (hb : b.length ≤ room) (n : Nat) (hn : n < 18446744073709551616) (a w : Nat) (hw : w ≤ 8) (haw : a + w ≤ b.length) : ∀ (m k N : Nat) (X : List Nat), k + m = w → X = b.take (a + m) ++ (dig k n ++ b.drop (a + w)) → N = X.length →
 runV E (.loop [1, 2, 3, 11, 40, 41] octet_Put_L0) (updT (updT (updT (updT (updT (updT botT 41 (ti .i64 k)) 40 (ti .i64 w)) 11 (.own N 1 (bp X))) 3 (ti .u64 n)) 2 (ti .i64 w)) 1 (ti .i64 a)) =
  some (.exit 0, updT botT 11 (.own b.length 1 (bp (b.take a ++ (dig w n ++ b.drop (a + w))))))
 | 0, k, N, X, hk, hX, hN => by
   have hc : ¬ ((k : Int) < w) := by omega
   have hkw : k = w := by omega
   have hl : X.length = b.length := by rw [hX]; simp; omega
   refine loop_out (by simp (maxSteps := 1000000) (disch := first | omega | (simp only [lnS] <;> omega) | assumption | fail) [octet_Put_L0, wwS, -List.getD_eq_getElem?_getD, -List.drop_drop, hc]; first | exact ⟨rfl, rfl⟩ | exact rfl) ?_ (by simp)
   rw [hN, hl, hX, hkw, Nat.add_zero]
 | m + 1, k, N, X, hk, hX, hN => by
   have hc : ((k : Int) < w) := by omega
   have hl : X.length = b.length := by rw [hX]; simp; omega
   have hb0 := hb
   unfold room at hb
   have h8 : min (8 * k) 64 = 8 * k := by omega
   have h8' : (8 * (k : Int)).toNat = 8 * k := by omega
   have hi : ((a : Int) + w - 1 - k).toNat = a + m := by omega
   refine loop_go (by simp (maxSteps := 1000000) (disch := first | omega | (simp only [lnS] <;> omega) | assumption | fail) [octet_Put_L0, wwS, -List.getD_eq_getElem?_getD, -List.drop_drop, hc, h8, h8', hi]; rfl) ?_
   have hd : ((n : Int) / 2 ^ (8 * k) % 256).toNat = n / 256 ^ k % 256 := by
    have : ((n : Int) / ((2 ^ 8 : Nat) ^ k : Nat) % 256) = ((n / 256 ^ k % 256 : Nat) : Int) := by simp
    have e2 : (2 : Int) ^ (8 * k) = ((2 ^ 8 : Nat) ^ k : Nat) := by rw [Int.pow_mul]; simp
    rw [e2, this]; exact Int.toNat_natCast _
   rw [hd]
   exact octet_Put_loop b hb0 n hn a w hw haw m (k + 1) _ _ (by omega) (by rw [hX, Nat.add_succ, set_dig (by omega)]; rfl) (by simp; omega)
theorem shr_pow (n k : Nat) : ((n : Int) / 2 ^ (8 * k)) = ((n / 256 ^ k : Nat) : Int) := by
 have e2 : (2 : Int) ^ (8 * k) = ((256 ^ k : Nat) : Int) := by rw [Int.pow_mul]; simp
 rw [e2]; simp
theorem ref01_Put_loop (b : List Nat) (hb : b.length ≤ room) (n0 : Nat) (hn : n0 < 18446744073709551616) (a w : Nat) (haw : a + w ≤ b.length) : ∀ (m k n N : Nat) (z : Int) (X : List Nat), k + m = w → n = n0 / 256 ^ k → z = (m : Int) - 1 → X = b.take (a + m) ++ (dig k n0 ++ b.drop (a + w)) → N = X.length →
 runV E (.loop [1, 3, 11, 12] ref01_Put_L0) (updT (updT (updT (updT botT 12 (ti .i64 z)) 11 (.own N 1 (bp X))) 3 (ti .u64 n)) 1 (ti .i64 a)) =
  some (.exit 0, updT botT 11 (.own b.length 1 (bp (b.take a ++ (dig w n0 ++ b.drop (a + w))))))
 | 0, k, n, N, z, X, hk, hn', hz, hX, hN => by
   have hc : ¬ (0 ≤ z) := by omega
   have hkw : k = w := by omega
   have hl : X.length = b.length := by rw [hX]; simp; omega
   refine loop_out (by simp (maxSteps := 1000000) (disch := first | omega | (simp only [lnS] <;> omega) | assumption | fail) [ref01_Put_L0, wwS, -List.getD_eq_getElem?_getD, -List.drop_drop, hc]; first | exact ⟨rfl, rfl⟩ | exact rfl) ?_ (by simp)
   rw [hN, hl, hX, hkw, Nat.add_zero]
 | m + 1, k, n, N, z, X, hk, hn', hz, hX, hN => by
   have hz' : z = m := by omega
   subst hz'
   have hl : X.length = b.length := by rw [hX]; simp; omega
   have hb0 := hb
   unfold room at hb
   have hle : n ≤ n0 := by rw [hn']; exact Nat.div_le_self _ _
   have hc : (0 : Int) ≤ (m : Int) := by omega
   have hi : ((a : Int) + m).toNat = a + m := by omega
   have hd : ((n : Int) % 256).toNat = n % 256 := by omega
   refine loop_go (by simp (maxSteps := 1000000) (disch := first | omega | (simp only [lnS] <;> omega) | assumption | fail) [ref01_Put_L0, wwS, -List.getD_eq_getElem?_getD, -List.drop_drop, hc, hi, hd]; rfl) ?_
   have hq : ((n : Int) / 256) = ((n / 256 : Nat) : Int) := by omega
   rw [hq]
   exact ref01_Put_loop b hb0 n0 hn a w haw m (k + 1) _ _ _ _ (by omega) (by rw [hn', Nat.pow_succ, Nat.div_div_eq_div_mul]) rfl (by rw [hX, Nat.add_succ, set_dig (by omega), hn']; rfl) (by simp; omega)
theorem fits_loop (w : Nat) (hw : w ≤ 8) (n0 : Nat) (hn : n0 < 18446744073709551616) : ∀ (m k n : Nat), k + m = w → n = n0 / 256 ^ k →
 runV E (.loop [0, 1, 5] ref01_fits_L0) (updT (updT (updT botT 5 (ti .i64 k)) 1 (ti .i64 w)) 0 (ti .u64 n)) = some (.exit 0, updT botT 0 (ti .u64 (n0 / 256 ^ w : Nat)))
 | 0, k, n, hk, hn' => by
   have hc : ¬ ((k : Int) < w) := by omega
   have hkw : k = w := by omega
   refine loop_out (by simp (maxSteps := 1000000) (disch := first | omega | (simp only [lnS] <;> omega) | assumption | fail) [ref01_fits_L0, wwS, -List.getD_eq_getElem?_getD, -List.drop_drop, hc]; first | exact ⟨rfl, rfl⟩ | exact rfl) ?_ (by simp)
   rw [hn', hkw]
 | m + 1, k, n, hk, hn' => by
   have hc : ((k : Int) < w) := by omega
   have hle : n ≤ n0 := by rw [hn']; exact Nat.div_le_self _ _
   refine loop_go (by simp (maxSteps := 1000000) (disch := first | omega | (simp only [lnS] <;> omega) | assumption | fail) [ref01_fits_L0, wwS, -List.getD_eq_getElem?_getD, -List.drop_drop, hc]; rfl) ?_
   have hq : ((n : Int) / 256) = ((n / 256 : Nat) : Int) := by omega
   rw [hq]
   exact fits_loop w hw n0 hn m (k + 1) _ (by omega) (by rw [hn', Nat.pow_succ, Nat.div_div_eq_div_mul])
include e in
theorem ref01_fits (n w : Nat) (hw : w ≤ 8) (hn : n < 18446744073709551616) : callV E "ref01.fits" [vk .u64 n, vi w] [] = some ([rB (decide (n < 256 ^ w))], [na, na], []) := by
 have hl := fits_loop (E := E) w hw n hn w 0 n (by omega) (by simp)
 rw [show ((0 : Nat) : Int) = 0 from rfl] at hl
 have hd : n / 256 ^ w = 0 ↔ n < 256 ^ w := Nat.div_eq_zero_iff_lt (Nat.pow_pos (by decide))
 generalize n / 256 ^ w = q at *
 refine callV_fn e.ref01_fits fun nd hnd => ?_
 simp (maxSteps := 1000000) (disch := first | omega | (simp only [lnS] <;> omega) | assumption | fail) [ref01_fits_B, wwS, -List.getD_eq_getElem?_getD, -List.drop_drop, hl]
 exact hd
def putE (len a w : Int) (n : Nat) : Int := if spansE len a w = 1 ∨ 256 ^ w.toNat ≤ n then 1 else spansE len a w
def putS (b : List Nat) (a w : Int) (n : Nat) : List Nat × Int := if putE b.length a w n = 0 then (b.take a.toNat ++ (dig w.toNat n ++ b.drop (a.toNat + w.toNat)), 0) else ([], putE b.length a w n)
omit e in
theorem spansE_cases (len a w : Int) (h0 : 0 ≤ len) : (spansE len a w = 1 ∧ (w < 1 ∨ 8 < w ∨ a < 0)) ∨ (1 ≤ w ∧ w ≤ 8 ∧ 0 ≤ a ∧ ((spansE len a w = 2 ∧ len < a + w) ∨ (spansE len a w = 0 ∧ a + w ≤ len))) := by
 unfold spansE
 split
 ·exact .inl ⟨rfl, by omega⟩
 ·right
  refine ⟨by omega, by omega, by omega, ?_⟩
  split
  ·exact .inl ⟨rfl, by omega⟩
  ·exact .inr ⟨rfl, by omega⟩
include e in
theorem octet_Put (b : List Nat) (hb : b.length ≤ room) (a w : Int) (ha : I64 a) (hw : I64 w) (n : Nat) (hn : n < 18446744073709551616) :
 callV E "octet.Put" [vb b, vi a, vi w, vk .u64 n] [] = some ([ro (putS b a w n).1, ri (putS b a w n).2], [na, na, na, na], []) := by
 have hsp := octet_spans e b hb a w ha hw
 have hlb := hb
 unfold room at hlb
 unfold putS putE
 rcases spansE_cases b.length a w (by omega) with ⟨h1, _⟩ | ⟨w1, w8, a0, hc⟩
 ·rw [h1] at hsp
  simp only [h1, true_or, if_true]
  unfold I64 at *
  refine callV_fn e.octet_Put fun nd hnd => ?_
  simp (maxSteps := 1000000) (disch := first | omega | (simp only [lnS] <;> omega) | assumption | fail) [octet_Put_B, wwS, -List.getD_eq_getElem?_getD, -List.drop_drop, hsp]
 ·obtain ⟨w', rfl⟩ : ∃ w' : Nat, w = w' := ⟨w.toNat, by omega⟩
  obtain ⟨a', rfl⟩ : ∃ a' : Nat, a = a' := ⟨a.toNat, by omega⟩
  simp only [Int.toNat_natCast]
  have h8' : (8 * (w' : Int)).toNat = 8 * w' := by omega
  have hs := shr_pow n w'
  have hne : spansE b.length a' w' ≠ 1 := by rcases hc with ⟨h, _⟩ | ⟨h, _⟩ <;> rw [h] <;> decide
  simp only [hne, false_or]
  by_cases hbig : 256 ^ w' ≤ n
  ·rw [if_pos hbig]
   have hw8 : w' ≠ 8 := by rintro rfl; omega
   have hwl : (w' : Int) < 8 := by omega
   have hm : min (8 * w') 64 = 8 * w' := by omega
   have hq : 1 ≤ n / 256 ^ w' := (Nat.one_le_div_iff (Nat.pow_pos (by decide))).2 hbig
   generalize hQ : n / 256 ^ w' = q at *
   have hz : ¬ (q = 0) := by omega
   unfold I64 at *
   refine callV_fn e.octet_Put fun nd hnd => ?_
   simp (maxSteps := 1000000) (disch := first | omega | (simp only [lnS] <;> omega) | assumption | fail) [octet_Put_B, wwS, -List.getD_eq_getElem?_getD, -List.drop_drop, hsp, hne, hwl, hm, h8', hs, hz]
  ·rw [if_neg hbig]
   have hq : n / 256 ^ w' = 0 := Nat.div_eq_of_lt (by omega)
   rw [hq] at hs
   rcases hc with ⟨h, h2⟩ | ⟨h, h2⟩
   ·rw [h] at hsp ⊢
    unfold I64 at *
    by_cases hwl : (w' : Int) < 8
    ·have hm : min (8 * w') 64 = 8 * w' := by omega
     refine callV_fn e.octet_Put fun nd hnd => ?_
     simp (maxSteps := 1000000) (disch := first | omega | (simp only [lnS] <;> omega) | assumption | fail) [octet_Put_B, wwS, -List.getD_eq_getElem?_getD, -List.drop_drop, hsp, hwl, hm, h8', hs]
    ·refine callV_fn e.octet_Put fun nd hnd => ?_
     simp (maxSteps := 1000000) (disch := first | omega | (simp only [lnS] <;> omega) | assumption | fail) [octet_Put_B, wwS, -List.getD_eq_getElem?_getD, -List.drop_drop, hsp, hwl]
   ·rw [h] at hsp ⊢
    have hloop := octet_Put_loop (E := E) b hb n hn a' w' (by omega) (by omega) w' 0 b.length b (by omega) (by simp [dig]) rfl
    rw [show ((0 : Nat) : Int) = 0 from rfl] at hloop
    unfold I64 at *
    rw [if_pos rfl]
    by_cases hwl : (w' : Int) < 8
    ·have hm : min (8 * w') 64 = 8 * w' := by omega
     refine callV_fn e.octet_Put fun nd hnd => ?_
     simp (maxSteps := 1000000) (disch := first | omega | (simp only [lnS] <;> omega) | assumption | fail) [octet_Put_B, wwS, -List.getD_eq_getElem?_getD, -List.drop_drop, hsp, hwl, hm, h8', hs, hloop]
     omega
    ·refine callV_fn e.octet_Put fun nd hnd => ?_
     simp (maxSteps := 1000000) (disch := first | omega | (simp only [lnS] <;> omega) | assumption | fail) [octet_Put_B, wwS, -List.getD_eq_getElem?_getD, -List.drop_drop, hsp, hwl, hloop]
     omega
include e in
theorem ref01_Put (b : List Nat) (hb : b.length ≤ room) (a w : Int) (ha : I64 a) (hw : I64 w) (n : Nat) (hn : n < 18446744073709551616) :
 callV E "ref01.Put" [vb b, vi a, vi w, vk .u64 n] [] = some ([ro (putS b a w n).1, ri (putS b a w n).2], [na, na, na, na], []) := by
 have hsp := ref01_place e b hb a w ha hw
 have hj := ref01_Join1 e b hb
 have hlb := hb
 unfold room at hlb
 unfold putS putE
 rcases spansE_cases b.length a w (by omega) with ⟨h1, hbad⟩ | ⟨w1, w8, a0, hc⟩
 ·simp only [h1, true_or, if_true]
  unfold I64 at *
  by_cases g1 : w < 1
  ·refine callV_fn e.ref01_Put fun nd hnd => ?_
   simp (maxSteps := 1000000) (disch := first | omega | (simp only [lnS] <;> omega) | assumption | fail) [ref01_Put_B, wwS, -List.getD_eq_getElem?_getD, -List.drop_drop, g1]
  ·by_cases g2 : 8 < w
   ·refine callV_fn e.ref01_Put fun nd hnd => ?_
    simp (maxSteps := 1000000) (disch := first | omega | (simp only [lnS] <;> omega) | assumption | fail) [ref01_Put_B, wwS, -List.getD_eq_getElem?_getD, -List.drop_drop, g1, g2]
   ·have g3 : a < 0 := by omega
    refine callV_fn e.ref01_Put fun nd hnd => ?_
    simp (maxSteps := 1000000) (disch := first | omega | (simp only [lnS] <;> omega) | assumption | fail) [ref01_Put_B, wwS, -List.getD_eq_getElem?_getD, -List.drop_drop, g1, g2, g3]
 ·obtain ⟨w', rfl⟩ : ∃ w' : Nat, w = w' := ⟨w.toNat, by omega⟩
  obtain ⟨a', rfl⟩ : ∃ a' : Nat, a = a' := ⟨a.toNat, by omega⟩
  simp only [Int.toNat_natCast]
  have hf := ref01_fits e n w' (by omega) hn
  have g1 : ¬ ((w' : Int) < 1) := by omega
  have g2 : ¬ ((8 : Int) < w') := by omega
  have g3 : ¬ ((a' : Int) < 0) := by omega
  have hne : spansE b.length a' w' ≠ 1 := by rcases hc with ⟨h, _⟩ | ⟨h, _⟩ <;> rw [h] <;> decide
  simp only [hne, false_or]
  by_cases hbig : 256 ^ w' ≤ n
  ·rw [if_pos hbig]
   rw [decide_eq_false (by omega)] at hf
   unfold I64 at *
   refine callV_fn e.ref01_Put fun nd hnd => ?_
   simp (maxSteps := 1000000) (disch := first | omega | (simp only [lnS] <;> omega) | assumption | fail) [ref01_Put_B, wwS, -List.getD_eq_getElem?_getD, -List.drop_drop, hf, g1, g2, g3]
  ·rw [if_neg hbig]
   rw [decide_eq_true (by omega)] at hf
   rcases hc with ⟨h, h2⟩ | ⟨h, h2⟩
   ·rw [h] at hsp ⊢
    unfold I64 at *
    refine callV_fn e.ref01_Put fun nd hnd => ?_
    simp (maxSteps := 1000000) (disch := first | omega | (simp only [lnS] <;> omega) | assumption | fail) [ref01_Put_B, wwS, -List.getD_eq_getElem?_getD, -List.drop_drop, hf, hsp, g1, g2, g3]
   ·rw [h] at hsp ⊢
    have hloop := fun z hz => ref01_Put_loop (E := E) b hb n hn a' w' (by omega) w' 0 n b.length z b (by omega) (by simp) hz (by simp [dig]) rfl
    unfold I64 at *
    rw [if_pos rfl]
    have hloop := hloop _ rfl
    refine callV_fn e.ref01_Put fun nd hnd => ?_
    simp (maxSteps := 1000000) (disch := first | omega | (simp only [lnS] <;> omega) | assumption | fail) [ref01_Put_B, wwS, -List.getD_eq_getElem?_getD, -List.drop_drop, hf, hsp, hj, hloop, g1, g2, g3]
    omega
theorem ref01_Get_loop (b : List Nat) (hb : b.length ≤ room) (h256 : ∀ x ∈ b, x < 256) (a w : Nat) (hw : w ≤ 8) (haw : a + w ≤ b.length) : ∀ (m k acc : Nat), k + m = w → acc = num ((b.drop a).take k) →
 runV E (.loop [0, 1, 2, 9, 10] ref01_Get_L0) (updT (updT (updT (updT (updT botT 10 (ti .i64 k)) 9 (ti .u64 acc)) 2 (ti .i64 w)) 1 (ti .i64 a)) 0 (.val (.sl b.length (bp b)))) = some (.exit 0, updT botT 9 (ti .u64 (num ((b.drop a).take w) : Nat)))
 | 0, k, acc, hk, ha => by
   have hc : ¬ ((k : Int) < w) := by omega
   have hkw : k = w := by omega
   refine loop_out (by simp (maxSteps := 1000000) (disch := first | omega | (simp only [lnS] <;> omega) | assumption | fail) [ref01_Get_L0, wwS, -List.getD_eq_getElem?_getD, -List.drop_drop, hc]; first | exact ⟨rfl, rfl⟩ | exact rfl) ?_ (by simp)
   rw [ha, hkw]
 | m + 1, k, acc, hk, ha => by
   have hc : ((k : Int) < w) := by omega
   have hb0 := hb
   unfold room at hb
   have hx : b.getD (a + k) 0 < 256 := h256 _ (getD_mem (by omega))
   have h1 := num_lt ((b.drop a).take k) (fun x hx => h256 x (List.mem_of_mem_drop (List.mem_of_mem_take hx)))
   have h2 : 256 ^ ((b.drop a).take k).length ≤ 256 ^ 7 := Nat.pow_le_pow_right (by decide) (by rw [List.length_take]; omega)
   have hi : ((a : Int) + k).toNat = a + k := by omega
   refine loop_go (by simp (maxSteps := 1000000) (disch := first | omega | (simp only [lnS] <;> omega) | assumption | fail) [ref01_Get_L0, wwS, -List.getD_eq_getElem?_getD, -List.drop_drop, hc, hi]; rfl) ?_
   have hq : ((acc : Int) * 256 + (b.getD (a + k) 0 : Nat)) = ((acc * 256 + b.getD (a + k) 0 : Nat) : Int) := by omega
   rw [hq]
   refine ref01_Get_loop b hb0 h256 a w hw haw m (k + 1) _ (by omega) ?_
   rw [take_succ_getD (by rw [List.length_drop]; omega), num_snoc, ha]
   congr 1
   simp [List.getD, List.getElem?_drop]
include e in
theorem ref01_Get (b : List Nat) (hb : b.length ≤ room) (h256 : ∀ x ∈ b, x < 256) (a w : Int) (ha : I64 a) (hw : I64 w) :
 callV E "ref01.Get" [vb b, vi a, vi w] [] = some ([rk .u64 (getS b a w).1, ri (getS b a w).2], [na, na, na], []) := by
 have hsp := ref01_place e b hb a w ha hw
 have hlb := hb
 unfold room at hlb
 unfold getS
 by_cases hz : spansE b.length a w = 0
 ·rw [if_pos hz]
  rw [hz] at hsp
  have hz' := spansE_zero hz
  obtain ⟨w', rfl⟩ : ∃ w' : Nat, w = w' := ⟨w.toNat, by omega⟩
  obtain ⟨a', rfl⟩ : ∃ a' : Nat, a = a' := ⟨a.toNat, by omega⟩
  have hloop := ref01_Get_loop (E := E) b hb h256 a' w' (by omega) (by omega) w' 0 0 (by omega) (by simp [num])
  rw [show ((0 : Nat) : Int) = 0 from rfl] at hloop
  simp only [Int.toNat_natCast]
  unfold I64 at *
  refine callV_fn e.ref01_Get fun nd hnd => ?_
  simp (maxSteps := 1000000) (disch := first | omega | (simp only [lnS] <;> omega) | assumption | fail) [ref01_Get_B, wwS, -List.getD_eq_getElem?_getD, -List.drop_drop, hsp, hloop]
 ·rw [if_neg hz]
  unfold I64 at *
  refine callV_fn e.ref01_Get fun nd hnd => ?_
  simp (maxSteps := 1000000) (disch := first | omega | (simp only [lnS] <;> omega) | assumption | fail) [ref01_Get_B, wwS, -List.getD_eq_getElem?_getD, -List.drop_drop, hsp, hz]
end
end Go.Wb.P01

/- Chapter 3: a word of a sum. -/
import Derived.Test.YtlbekhmgpfbgnaaWbA6
import Derived.Test.YtlbekhmgpfbgnaaWbvC03f
set_option maxRecDepth 100000
set_option linter.all false
namespace Go.Wb.P03
open Go Go.Wb Go.Wb.Code
theorem foldS_step {n : Int} (h : 65535 < n) : foldS (n / 65536 + n % 65536) = foldS n := by
 unfold foldS
 rw [if_neg (by omega), if_neg (by omega)]
 omega
section
variable {E : EnvW} (e : WbvC03fEnv E)
theorem fold_loop : ∀ (m : Nat) (n : Int), 0 ≤ n → n < 18446744073709551616 → n.toNat ≤ m →
 runV E (.loop [0] onesum_fold_L0) (updT botT 0 (ti .u64 n)) = some (.exit 0, updT botT 0 (ti .u64 (foldS n)))
 | 0, n, h0, h1, hm => by
   have hz : n = 0 := by omega
   subst hz
   refine loop_out (by simp (maxSteps := 1000000) (disch := first | omega | (simp only [lnS] <;> omega) | assumption | fail) [onesum_fold_L0, wwS, -List.getD_eq_getElem?_getD, -List.drop_drop]; first | exact ⟨rfl, rfl⟩ | exact rfl) ?_ (by simp)
   rfl
 | m + 1, n, h0, h1, hm => by
   by_cases hc : 65535 < n
   ·refine loop_go (by simp (maxSteps := 1000000) (disch := first | omega | (simp only [lnS] <;> omega) | assumption | fail) [onesum_fold_L0, wwS, -List.getD_eq_getElem?_getD, -List.drop_drop, hc]; rfl) ?_
    rw [← foldS_step hc]
    exact fold_loop m _ (by omega) (by omega) (by omega)
   ·have hf : foldS n = n := by unfold foldS; split <;> omega
    rw [hf]
    refine loop_out (by simp (maxSteps := 1000000) (disch := first | omega | (simp only [lnS] <;> omega) | assumption | fail) [onesum_fold_L0, wwS, -List.getD_eq_getElem?_getD, -List.drop_drop, hc]; first | exact ⟨rfl, rfl⟩ | exact rfl) ?_ (by simp)
    rfl
include e in
theorem onesum_fold (n : Int) (h0 : 0 ≤ n) (h1 : n < 18446744073709551616) : callV E "onesum.fold" [vk .u64 n] [] = some ([rk .u16 (foldS n)], [na], []) := by
 have hl := fold_loop (E := E) n.toNat n h0 h1 (Nat.le_refl _)
 have hr := foldS_range h0
 refine callV_fn e.onesum_fold fun nd hnd => ?_
 simp (maxSteps := 1000000) (disch := first | omega | (simp only [lnS] <;> omega) | assumption | fail) [onesum_fold_B, wwS, -List.getD_eq_getElem?_getD, -List.drop_drop, hl]
end
end Go.Wb.P03

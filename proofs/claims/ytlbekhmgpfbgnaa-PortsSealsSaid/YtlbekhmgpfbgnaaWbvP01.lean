/- Chapter 1: octets. -/
import Derived.Test.YtlbekhmgpfbgnaaWbA6
import Derived.Test.YtlbekhmgpfbgnaaWbvC01
set_option maxRecDepth 100000
set_option linter.all false
namespace Go.Wb.P01
open Go Go.Wb Go.Wb.Code
def spansE (len at_ w : Int) : Int := if w < 1 ∨ 8 < w ∨ at_ < 0 then 1 else if len < at_ ∨ len - at_ < w then 2 else 0
section
variable {E : EnvW} (e : WbvC01Env E)
include e
theorem octet_spans (b : List Nat) (hb : b.length ≤ room) (a w : Int) (ha : I64 a) (hw : I64 w) :
 callV E "octet.spans" [vb b, vi a, vi w] [] = some ([ri (spansE b.length a w)], [na, na, na], []) := by
 unfold I64 room at *
 refine callV_fn e.octet_spans fun nd hnd => ?_
 simp (maxSteps := 1000000) (disch := first | omega | (simp only [lnS] <;> omega) | assumption | fail) [octet_spans_B, wwS, -List.getD_eq_getElem?_getD, -List.drop_drop]
 iterate 6 (all_goals (try (refine iteV_split (fun h => ?_) (fun h => ?_) <;> (try rw [later_eq]) <;> (try rw [laterD_eq]) <;> (try simp only [decide_eq_true_eq, decide_eq_false_iff_not, Bool.not_eq_true', Bool.not_eq_false'] at h) <;> first | (exfalso; omega) | simp (maxSteps := 1000000) (disch := first | omega | (simp only [lnS] <;> omega) | assumption | fail) [h, wwS, -List.getD_eq_getElem?_getD, -List.drop_drop])))
 all_goals (unfold spansE; split <;> (try split) <;> first | rfl | omega)
theorem ref01_place (b : List Nat) (hb : b.length ≤ room) (a w : Int) (ha : I64 a) (hw : I64 w) :
 callV E "ref01.place" [vb b, vi a, vi w] [] = some ([ri (spansE b.length a w)], [na, na, na], []) := by
 unfold I64 room at *
 refine callV_fn e.ref01_place fun nd hnd => ?_
 simp (maxSteps := 1000000) (disch := first | omega | (simp only [lnS] <;> omega) | assumption | fail) [ref01_place_B, wwS, -List.getD_eq_getElem?_getD, -List.drop_drop]
 iterate 6 (all_goals (try (refine iteV_split (fun h => ?_) (fun h => ?_) <;> (try rw [later_eq]) <;> (try rw [laterD_eq]) <;> (try simp only [decide_eq_true_eq, decide_eq_false_iff_not, Bool.not_eq_true', Bool.not_eq_false'] at h) <;> first | (exfalso; omega) | simp (maxSteps := 1000000) (disch := first | omega | (simp only [lnS] <;> omega) | assumption | fail) [h, wwS, -List.getD_eq_getElem?_getD, -List.drop_drop])))
 all_goals (unfold spansE; split <;> (try split) <;> first | rfl | omega)
omit e in
theorem octet_Get_loop (l : List Nat) (hl : l.length ≤ 8) (hb : ∀ x ∈ l, x < 256) : ∀ (m k acc : Nat), k + m = l.length → acc = num (l.take k) →
 runV E (.loop [9, 24, 25, 26] octet_Get_L0) (updT (updT (updT (updT botT 26 (ti .i64 k)) 25 (ti .i64 (l.length : Nat))) 24 (.val (.sl l.length (bp l)))) 9 (ti .u64 (acc : Nat))) = some (.exit 0, updT botT 9 (ti .u64 (num l : Nat)))
 | 0, k, acc, hk, ha => by
   have hn : ¬ ((k : Int) < l.length) := by omega
   rw [List.take_of_length_le (by omega)] at ha
   refine loop_out (by simp (maxSteps := 1000000) (disch := first | omega | (simp only [lnS] <;> omega) | assumption | fail) [octet_Get_L0, wwS, -List.getD_eq_getElem?_getD, -List.drop_drop, hn]; first | exact ⟨rfl, rfl⟩ | exact rfl) ?_ (by simp)
   rw [ha]
 | m + 1, k, acc, hk, ha => by
   have hn : ((k : Int) < l.length) := by omega
   have hk' : k < l.length := by omega
   have hc : l.getD k 0 < 256 := hb _ (getD_mem hk')
   have h1 := num_lt (l.take k) (fun x hx => hb x (List.mem_of_mem_take hx))
   have h2 : 256 ^ (l.take k).length ≤ 256 ^ 7 := Nat.pow_le_pow_right (by decide) (by rw [List.length_take]; omega)
   have hor := or_byte acc (l.getD k 0) (by omega) hc
   refine loop_go (by simp (maxSteps := 1000000) (disch := first | omega | (simp only [lnS] <;> omega) | assumption | fail) [octet_Get_L0, wwS, -List.getD_eq_getElem?_getD, -List.drop_drop, hn, hor]; rfl) ?_
   exact octet_Get_loop l hl hb m (k + 1) _ (by omega) (by rw [take_succ_getD hk', num_snoc, ha])
omit e in
theorem octet_Get_loop0 (l : List Nat) (hb : ∀ x ∈ l, x < 256) {N : Nat} {n z : Int} (hl : l.length ≤ 8) (hN : N = l.length) (hn : n = N) (hz : z = 0) :
 runV E (.loop [9, 24, 25, 26] octet_Get_L0) (updT (updT (updT (updT botT 26 (ti .i64 z)) 25 (ti .i64 n)) 24 (.val (.sl N (bp l)))) 9 (ti .u64 z)) = some (.exit 0, updT botT 9 (ti .u64 (num l : Nat))) := by
 subst hn hN hz
 exact octet_Get_loop l hl hb l.length 0 0 (by omega) (by simp [num])
def getS (b : List Nat) (a w : Int) : Nat × Int := if spansE b.length a w = 0 then (num ((b.drop a.toNat).take w.toNat), 0) else (0, spansE b.length a w)
omit e in
theorem spansE_zero {n a w : Int} (hz : spansE n a w = 0) : 0 ≤ a ∧ 1 ≤ w ∧ w ≤ 8 ∧ a ≤ n ∧ w ≤ n - a := by
 unfold spansE at hz
 split at hz
 ·omega
 ·split at hz <;> omega
theorem octet_Get (b : List Nat) (hb : b.length ≤ room) (h256 : ∀ x ∈ b, x < 256) (a w : Int) (ha : I64 a) (hw : I64 w) :
 callV E "octet.Get" [vb b, vi a, vi w] [] = some ([rk .u64 (getS b a w).1, ri (getS b a w).2], [na, na, na], []) := by
 have hsp := octet_spans e b hb a w ha hw
 unfold getS
 unfold I64 room at *
 by_cases hz : spansE b.length a w = 0
 ·rw [if_pos hz]
  rw [hz] at hsp
  have hz' := spansE_zero hz
  have hwn : (a + w).toNat - a.toNat = w.toNat := by omega
  have hloop := @octet_Get_loop0 E ((b.drop a.toNat).take w.toNat) (fun x hx => h256 x (List.mem_of_mem_drop (List.mem_of_mem_take hx)))
  refine callV_fn e.octet_Get fun nd hnd => ?_
  simp (maxSteps := 1000000) (disch := first | omega | (simp only [lnS] <;> omega) | assumption | fail) [octet_Get_B, wwS, -List.getD_eq_getElem?_getD, -List.drop_drop, hsp, hwn, hloop]
 ·rw [if_neg hz]
  refine callV_fn e.octet_Get fun nd hnd => ?_
  simp (maxSteps := 1000000) (disch := first | omega | (simp only [lnS] <;> omega) | assumption | fail) [octet_Get_B, wwS, -List.getD_eq_getElem?_getD, -List.drop_drop, hsp, hz]
end
end Go.Wb.P01

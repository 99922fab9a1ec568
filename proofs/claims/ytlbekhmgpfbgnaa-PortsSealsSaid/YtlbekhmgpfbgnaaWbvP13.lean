/- Chapter 13: ports: what its functions come to. -/
import Derived.Test.YtlbekhmgpfbgnaaWbvP01
import Derived.Test.YtlbekhmgpfbgnaaWbvP00
import Derived.Test.YtlbekhmgpfbgnaaWbvC13
import Derived.Test.YtlbekhmgpfbgnaaWbA6
set_option maxRecDepth 100000
set_option linter.all false
namespace Go.Wb.P13
open Go Go.Wb Go.Wb.Code Go.Wb.P01
def leastS (p : Int) : Int := if p = 6 then 20 else if p = 17 then 8 else if p = 132 then 12 else 0
def w16 (b : List Nat) (a : Nat) : Nat := b.getD a 0 * 256 + b.getD (a + 1) 0
theorem getS_two {b : List Nat} {a : Nat} (h : a + 2 ≤ b.length) : getS b a 2 = (w16 b a, 0) := by
 have hs : spansE b.length a 2 = 0 := by
  unfold spansE
  rw [if_neg (by omega), if_neg (by omega)]
 unfold getS
 rw [if_pos hs, Int.toNat_natCast]
 have e1 : (2 : Int).toNat = 2 := rfl
 rw [e1, List.drop_eq_getElem_cons (by omega), List.drop_eq_getElem_cons (by omega)]
 simp only [List.take_succ_cons, List.take_zero, num, List.foldl_cons, List.foldl_nil, w16, List.getD_eq_getElem?_getD]
 rw [List.getElem?_eq_getElem (by omega), List.getElem?_eq_getElem (by omega)]
 simp
theorem w16_lt {b : List Nat} (h256 : ∀ x ∈ b, x < 256) {a : Nat} (h : a + 2 ≤ b.length) : w16 b a < 65536 := by
 have h1 := h256 _ (getD_mem (by omega : a < b.length))
 have h2 := h256 _ (getD_mem (by omega : a + 1 < b.length))
 unfold w16
 omega
def soundS (p : Int) (b : List Nat) (first : Bool) : Bool :=
 if p = 6 then decide (20 ≤ 4 * (b.getD 12 0 / 16)) && decide (4 * (b.getD 12 0 / 16) ≤ b.length)
 else if p = 17 then decide (8 ≤ w16 b 4) && (first || decide (w16 b 4 ≤ b.length)) else true
def readS (p : Int) (b : List Nat) (first : Bool) : Nat × Nat × Int :=
 if leastS p = 0 then (0, 0, 0) else if (b.length : Int) < leastS p then (0, 0, 15) else if soundS p b first then (w16 b 0, w16 b 2, 0) else (0, 0, 16)
section
variable {E : EnvW} (e : WbvC13Env E) (e1 : WbvC01Env E)
include e in
theorem ports_Least (p : Int) (hp : I64 p) : callV E "ports.Least" [vi p] [] = some ([ri (leastS p)], [na], []) := by
 unfold I64 at hp
 unfold leastS
 refine callV_fn e.ports_Least fun nd hnd => ?_
 simp (maxSteps := 1000000) (disch := first | omega | (simp only [lnS] <;> omega) | assumption | fail) [ports_Least_B, wwS, -List.getD_eq_getElem?_getD, -List.drop_drop]
 iterate 6 (all_goals (try (refine iteV_split (fun h => ?_) (fun h => ?_) <;> (try rw [later_eq]) <;> (try rw [laterD_eq]) <;> (try simp only [decide_eq_true_eq, decide_eq_false_iff_not, Bool.not_eq_true', Bool.not_eq_false'] at h) <;> first | (exfalso; omega) | simp (maxSteps := 1000000) (disch := first | omega | (simp only [lnS] <;> omega) | assumption | fail) [h, wwS, -List.getD_eq_getElem?_getD, -List.drop_drop])))
 all_goals ((repeat' split) <;> first | rfl | omega)
include e in
theorem ref13_Least (p : Int) (hp : I64 p) : callV E "ref13.Least" [vi p] [] = some ([ri (leastS p)], [na], []) := by
 unfold I64 at hp
 unfold leastS
 refine callV_fn e.ref13_Least fun nd hnd => ?_
 simp (maxSteps := 1000000) (disch := first | omega | (simp only [lnS] <;> omega) | assumption | fail) [ref13_Least_B, wwS, -List.getD_eq_getElem?_getD, -List.drop_drop]
 iterate 6 (all_goals (try (refine iteV_split (fun h => ?_) (fun h => ?_) <;> (try rw [later_eq]) <;> (try rw [laterD_eq]) <;> (try simp only [decide_eq_true_eq, decide_eq_false_iff_not, Bool.not_eq_true', Bool.not_eq_false'] at h) <;> first | (exfalso; omega) | simp (maxSteps := 1000000) (disch := first | omega | (simp only [lnS] <;> omega) | assumption | fail) [h, wwS, -List.getD_eq_getElem?_getD, -List.drop_drop])))
 all_goals ((repeat' split) <;> first | rfl | omega)
include e e1 in
theorem ports_field (b : List Nat) (hb : b.length ≤ room) (h256 : ∀ x ∈ b, x < 256) {z : Int} (a : Nat) (hz : z = a) (ha : a + 2 ≤ b.length) :
 callV E "ports.field" [vb b, vi z] [] = some ([ri (w16 b a : Nat)], [na, na], []) := by
 subst hz
 have hlb := hb
 unfold room at hlb
 have hg := octet_Get e1 b hb h256 a 2 (by unfold I64; omega) (by unfold I64; omega)
 have hlt := w16_lt h256 ha
 rw [getS_two ha] at hg
 generalize w16 b a = x at *
 refine callV_fn e.ports_field fun nd hnd => ?_
 simp (maxSteps := 1000000) (disch := first | omega | (simp only [lnS] <;> omega) | assumption | fail) [ports_field_B, wwS, -List.getD_eq_getElem?_getD, -List.drop_drop, hg]
include e in
theorem ref13_two (b : List Nat) (hb : b.length ≤ room) (h256 : ∀ x ∈ b, x < 256) {z : Int} (a : Nat) (hz : z = a) (ha : a + 2 ≤ b.length) :
 callV E "ref13.two" [vb b, vi z] [] = some ([ri (w16 b a : Nat)], [na, na], []) := by
 subst hz
 unfold room at hb
 have c1 := h256 _ (getD_mem (by omega : a < b.length))
 have c2 := h256 _ (getD_mem (by omega : a + 1 < b.length))
 unfold w16
 refine callV_fn e.ref13_two fun nd hnd => ?_
 simp (maxSteps := 1000000) (disch := first | omega | (simp only [lnS] <;> omega) | assumption | fail) [ref13_two_B, wwS, -List.getD_eq_getElem?_getD, -List.drop_drop]
include e e1 in
theorem ports_sound (b : List Nat) (hb : b.length ≤ room) (h256 : ∀ x ∈ b, x < 256) (p : Int) (hp : I64 p) (first : Bool) (h0 : leastS p ≠ 0) (hl : leastS p ≤ b.length) :
 callV E "ports.sound" [vi p, vb b, vB first] [] = some ([rB (soundS p b first)], [na, na, na], []) := by
 have hlb := hb
 unfold room at hlb
 unfold leastS at h0 hl
 unfold I64 at hp
 unfold soundS
 by_cases h1 : p = 6
 ·rw [if_pos h1] at hl ⊢
  have c1 := h256 _ (getD_mem (by omega : 12 < b.length))
  refine callV_fn e.ports_sound fun nd hnd => ?_
  simp (maxSteps := 1000000) (disch := first | omega | (simp only [lnS] <;> omega) | assumption | fail) [ports_sound_B, wwS, -List.getD_eq_getElem?_getD, -List.drop_drop, h1]
  iterate 6 (all_goals (try (refine iteV_split (fun h => ?_) (fun h => ?_) <;> (try rw [later_eq]) <;> (try rw [laterD_eq]) <;> (try simp only [decide_eq_true_eq, decide_eq_false_iff_not, Bool.not_eq_true', Bool.not_eq_false'] at h) <;> first | (exfalso; omega) | simp (maxSteps := 1000000) (disch := first | omega | (simp only [lnS] <;> omega) | assumption | fail) [h, wwS, -List.getD_eq_getElem?_getD, -List.drop_drop])))
  all_goals (first | rfl | omega | (intros; omega) | (rw [Bool.eq_iff_iff]; simp [-List.getD_eq_getElem?_getD]; omega) | (rw [Bool.eq_iff_iff]; simp; done) | (split <;> first | (simp; done) | (exfalso; omega) | (simp_all; done) | (simp_all; omega)))
 ·rw [if_neg h1] at hl ⊢
  by_cases h2 : p = 17
  ·rw [if_pos h2] at hl ⊢
   have hf := ports_field e e1 b hb h256 (z := 4) 4 rfl (by omega)
   have hlt := w16_lt h256 (a := 4) (by omega)
   generalize w16 b 4 = q at *
   refine callV_fn e.ports_sound fun nd hnd => ?_
   simp (maxSteps := 1000000) (disch := first | omega | (simp only [lnS] <;> omega) | assumption | fail) [ports_sound_B, wwS, -List.getD_eq_getElem?_getD, -List.drop_drop, h1, h2, hf]
   iterate 6 (all_goals (try (refine iteV_split (fun h => ?_) (fun h => ?_) <;> (try rw [later_eq]) <;> (try rw [laterD_eq]) <;> (try simp only [decide_eq_true_eq, decide_eq_false_iff_not, Bool.not_eq_true', Bool.not_eq_false'] at h) <;> first | (exfalso; omega) | simp (maxSteps := 1000000) (disch := first | omega | (simp only [lnS] <;> omega) | assumption | fail) [h, wwS, -List.getD_eq_getElem?_getD, -List.drop_drop])))
   all_goals (first | rfl | omega | (intros; omega) | (rw [Bool.eq_iff_iff]; simp [-List.getD_eq_getElem?_getD]; omega) | (rw [Bool.eq_iff_iff]; simp; done) | (split <;> first | (simp; done) | (exfalso; omega) | (simp_all; done) | (simp_all; omega)))
  ·refine callV_fn e.ports_sound fun nd hnd => ?_
   simp (maxSteps := 1000000) (disch := first | omega | (simp only [lnS] <;> omega) | assumption | fail) [ports_sound_B, wwS, -List.getD_eq_getElem?_getD, -List.drop_drop, h1, h2]
include e e1 in
theorem ports_Read (b : List Nat) (hb : b.length ≤ room) (h256 : ∀ x ∈ b, x < 256) (p : Int) (hp : I64 p) (first : Bool) :
 callV E "ports.Read" [vi p, vb b, vB first] [] = some ([ri (readS p b first).1, ri (readS p b first).2.1, ri (readS p b first).2.2], [na, na, na], []) := by
 have hl := ports_Least e p hp
 have hlb := hb
 unfold room at hlb
 have hle : leastS p = 0 ∨ 8 ≤ leastS p ∧ leastS p ≤ 20 := by
  unfold leastS
  (repeat' split) <;> omega
 unfold I64 at hp
 unfold readS
 by_cases h1 : leastS p = 0
 ·refine callV_fn e.ports_Read fun nd hnd => ?_
  simp (maxSteps := 1000000) (disch := first | omega | (simp only [lnS] <;> omega) | assumption | fail) [ports_Read_B, wwS, -List.getD_eq_getElem?_getD, -List.drop_drop, hl, h1]
 ·by_cases h2 : (b.length : Int) < leastS p
  ·refine callV_fn e.ports_Read fun nd hnd => ?_
   simp (maxSteps := 1000000) (disch := first | omega | (simp only [lnS] <;> omega) | assumption | fail) [ports_Read_B, wwS, -List.getD_eq_getElem?_getD, -List.drop_drop, hl, h1, h2]
  ·have hs := ports_sound e e1 b hb h256 p hp first h1 (by omega)
   have f0 := ports_field e e1 b hb h256 (z := 0) 0 rfl (by omega)
   have f2 := ports_field e e1 b hb h256 (z := 2) 2 rfl (by omega)
   cases h3 : soundS p b first <;> rw [h3] at hs
   ·refine callV_fn e.ports_Read fun nd hnd => ?_
    simp (maxSteps := 1000000) (disch := first | omega | (simp only [lnS] <;> omega) | assumption | fail) [ports_Read_B, wwS, -List.getD_eq_getElem?_getD, -List.drop_drop, hl, h1, h2, hs]
   ·refine callV_fn e.ports_Read fun nd hnd => ?_
    simp (maxSteps := 1000000) (disch := first | omega | (simp only [lnS] <;> omega) | assumption | fail) [ports_Read_B, wwS, -List.getD_eq_getElem?_getD, -List.drop_drop, hl, h1, h2, hs, f0, f2]
include e in
theorem ref13_Read (b : List Nat) (hb : b.length ≤ room) (h256 : ∀ x ∈ b, x < 256) (p : Int) (hp : I64 p) (first : Bool) :
 callV E "ref13.Read" [vi p, vb b, vB first] [] = some ([ri (readS p b first).1, ri (readS p b first).2.1, ri (readS p b first).2.2], [na, na, na], []) := by
 have hl := ref13_Least e p hp
 have hlb := hb
 unfold room at hlb
 have hle : leastS p = 0 ∨ 8 ≤ leastS p ∧ leastS p ≤ 20 := by
  unfold leastS
  (repeat' split) <;> omega
 unfold I64 at hp
 unfold readS
 by_cases h1 : leastS p = 0
 ·refine callV_fn e.ref13_Read fun nd hnd => ?_
  simp (maxSteps := 1000000) (disch := first | omega | (simp only [lnS] <;> omega) | assumption | fail) [ref13_Read_B, wwS, -List.getD_eq_getElem?_getD, -List.drop_drop, hl, h1]
 ·by_cases h2 : (b.length : Int) < leastS p
  ·refine callV_fn e.ref13_Read fun nd hnd => ?_
   simp (maxSteps := 1000000) (disch := first | omega | (simp only [lnS] <;> omega) | assumption | fail) [ref13_Read_B, wwS, -List.getD_eq_getElem?_getD, -List.drop_drop, hl, h1, h2]
  ·have f0 := ref13_two e b hb h256 (z := 0) 0 rfl (by omega)
   have f2 := ref13_two e b hb h256 (z := 2) 2 rfl (by omega)
   have f4 := ref13_two e b hb h256 (z := 4) 4 rfl (by omega)
   have hlt := w16_lt h256 (a := 4) (by omega)
   unfold soundS
   rw [if_neg h1, if_neg h2]
   by_cases p6 : p = 6
   ·subst p6
    have hl6 : leastS 6 = 20 := rfl
    rw [hl6] at hl h2
    have c1 := h256 _ (getD_mem (by omega : 12 < b.length))
    rw [if_pos rfl]
    refine callV_fn e.ref13_Read fun nd hnd => ?_
    simp (maxSteps := 1000000) (disch := first | omega | (simp only [lnS] <;> omega) | assumption | fail) [ref13_Read_B, wwS, -List.getD_eq_getElem?_getD, -List.drop_drop, hl, h1, h2]
    iterate 6 (all_goals (try (refine iteV_split (fun h => ?_) (fun h => ?_) <;> (try rw [later_eq]) <;> (try rw [laterD_eq]) <;> (try simp only [decide_eq_true_eq, decide_eq_false_iff_not, Bool.not_eq_true', Bool.not_eq_false'] at h) <;> first | (exfalso; omega) | simp (maxSteps := 1000000) (disch := first | omega | (simp only [lnS] <;> omega) | assumption | fail) [h, wwS, -List.getD_eq_getElem?_getD, -List.drop_drop, f0, f2])))
    all_goals (first | rfl | omega | (intros; omega) | (rw [Bool.eq_iff_iff]; simp [-List.getD_eq_getElem?_getD]; omega) | (rw [Bool.eq_iff_iff]; simp; done) | (split <;> first | (simp; done) | (exfalso; omega) | (simp_all; done) | (simp_all; omega)))
   ·by_cases p17 : p = 17
    ·subst p17
     have hl6 : leastS 17 = 8 := rfl
     rw [hl6] at hl h2
     rw [if_neg p6, if_pos rfl]
     refine callV_fn e.ref13_Read fun nd hnd => ?_
     simp (maxSteps := 1000000) (disch := first | omega | (simp only [lnS] <;> omega) | assumption | fail) [ref13_Read_B, wwS, -List.getD_eq_getElem?_getD, -List.drop_drop, hl, h1, h2, f4]
     iterate 6 (all_goals (try (refine iteV_split (fun h => ?_) (fun h => ?_) <;> (try rw [later_eq]) <;> (try rw [laterD_eq]) <;> (try simp only [decide_eq_true_eq, decide_eq_false_iff_not, Bool.not_eq_true', Bool.not_eq_false'] at h) <;> first | (exfalso; omega) | simp (maxSteps := 1000000) (disch := first | omega | (simp only [lnS] <;> omega) | assumption | fail) [h, wwS, -List.getD_eq_getElem?_getD, -List.drop_drop, f0, f2])))
     all_goals (first | rfl | omega | (intros; omega) | (rw [Bool.eq_iff_iff]; simp [-List.getD_eq_getElem?_getD]; omega) | (rw [Bool.eq_iff_iff]; simp; done) | (split <;> first | (simp; done) | (exfalso; omega) | (simp_all; done) | (simp_all; omega)))
    ·rw [if_neg p6, if_neg p17]
     refine callV_fn e.ref13_Read fun nd hnd => ?_
     simp (maxSteps := 1000000) (disch := first | omega | (simp only [lnS] <;> omega) | assumption | fail) [ref13_Read_B, wwS, -List.getD_eq_getElem?_getD, -List.drop_drop, hl, h1, h2, p6, p17, f0, f2]
include e in
theorem live : callV E "law13.live" [] [] = some ([rB true], [], []) := by
 rw [callV_prim e.law13_live]; rfl
include e e1 in
theorem law_PortsReads (B : Nat) (avs : List PV) (ha : PArgs B [.int .i64, .sl 1 1 (.int .u8), .bool] avs) :
 ∃ o ho, callV E "law13.PortsReads" (avs.map .v) [] = some ([rB true], o, ho) := by
 simp only [PArgs] at ha
 obtain ⟨v0, _, rfl, a0, v1, _, rfl, a1, v2, _, rfl, a2, rfl⟩ := ha
 obtain ⟨p, rfl, hp⟩ := pv_int a0
 obtain ⟨b, rfl, h256, hlen, _⟩ := pv_bytesR a1
 obtain ⟨first, rfl⟩ := pv_bool a2
 have hp := wf_i64 hp
 have q1 := ports_Read e e1 b hlen h256 p hp first
 have q2 := ref13_Read e b hlen h256 p hp first
 have q3 := ports_Least e p hp
 have q4 := ref13_Least e p hp
 have hlive := live e
 refine ⟨[na, na, na], [], ?_⟩
 rw [List.map_cons, List.map_cons, List.map_cons, List.map_nil]
 refine callV_fn e.law13_PortsReads fun nd hnd => ?_
 simp (maxSteps := 1000000) (disch := first | omega | (simp only [lnS] <;> omega) | assumption | fail) [law13_PortsReads_B, wwS, -List.getD_eq_getElem?_getD, -List.drop_drop, q1, q2, q3, q4, hlive]
def hdrS (p src dst : Int) (n : Nat) : List Nat :=
 [(src / 256).toNat, (src % 256).toNat, (dst / 256).toNat, (dst % 256).toNat] ++
   (if p = 6 then [0, 0, 0, 0, 0, 0, 0, 0, 80, 0, 0, 0, 0, 0, 0, 0] else if p = 17 then [(8 + n) / 256, (8 + n) % 256, 0, 0] else [0, 0, 0, 0, 0, 0, 0, 0])
def writeS (p src dst : Int) (d : List Nat) : List Nat × Int :=
 if leastS p = 0 then ([], 10) else if src < 0 ∨ 65535 < src ∨ dst < 0 ∨ 65535 < dst then ([], 1)
 else if 65535 - leastS p < d.length then ([], 18) else (hdrS p src dst d.length ++ d, 0)
include e in
theorem ports_Write (p src dst : Int) (d : List Nat) (hd : d.length ≤ room) (hp : I64 p) (hs : I64 src) (ht : I64 dst) :
 callV E "ports.Write" [vi p, vi src, vi dst, vb d] [] = some ([ro (writeS p src dst d).1, ri (writeS p src dst d).2], [na, na, na, na], []) := by
 have hl := ports_Least e p hp
 have hle : leastS p = 0 ∨ 8 ≤ leastS p ∧ leastS p ≤ 20 := by
  unfold leastS
  (repeat' split) <;> omega
 unfold I64 room at *
 unfold writeS
 by_cases h1 : leastS p = 0
 ·refine callV_fn e.ports_Write fun nd hnd => ?_
  simp (maxSteps := 1000000) (disch := first | omega | (simp only [lnS] <;> omega) | assumption | fail) [ports_Write_B, wwS, -List.getD_eq_getElem?_getD, -List.drop_drop, hl, h1]
 ·rw [if_neg h1]
  by_cases h2 : src < 0 ∨ 65535 < src ∨ dst < 0 ∨ 65535 < dst
  ·rw [if_pos h2]
   refine callV_fn e.ports_Write fun nd hnd => ?_
   simp (maxSteps := 1000000) (disch := first | omega | (simp only [lnS] <;> omega) | assumption | fail) [ports_Write_B, wwS, -List.getD_eq_getElem?_getD, -List.drop_drop, hl, h1]
   iterate 8 (all_goals (try (refine iteV_split (fun h => ?_) (fun h => ?_) <;> (try rw [later_eq]) <;> (try rw [laterD_eq]) <;> (try simp only [decide_eq_true_eq, decide_eq_false_iff_not, Bool.not_eq_true', Bool.not_eq_false'] at h) <;> first | (exfalso; omega) | simp (maxSteps := 1000000) (disch := first | omega | (simp only [lnS] <;> omega) | assumption | fail) [h, wwS, -List.getD_eq_getElem?_getD, -List.drop_drop])))
   all_goals (first | rfl | omega | (intros; omega) | (rw [Bool.eq_iff_iff]; simp [-List.getD_eq_getElem?_getD]; omega) | (rw [Bool.eq_iff_iff]; simp; done) | (split <;> first | (simp; done) | (exfalso; omega) | (simp_all; done) | (simp_all; omega)))
  ·rw [if_neg h2]
   have g1 : ¬ src < 0 := by omega
   have g2 : ¬ 65535 < src := by omega
   have g3 : ¬ dst < 0 := by omega
   have g4 : ¬ 65535 < dst := by omega
   by_cases h3 : 65535 - leastS p < d.length
   ·refine callV_fn e.ports_Write fun nd hnd => ?_
    simp (maxSteps := 1000000) (disch := first | omega | (simp only [lnS] <;> omega) | assumption | fail) [ports_Write_B, wwS, -List.getD_eq_getElem?_getD, -List.drop_drop, hl, h1, g1, g2, g3, g4, h3]
   ·rw [if_neg h3]
    unfold hdrS
    by_cases p6 : p = 6
    ·subst p6
     have hl6 : leastS 6 = 20 := rfl
     rw [hl6] at hl h3
     refine callV_fn e.ports_Write fun nd hnd => ?_
     simp (maxSteps := 1000000) (disch := first | omega | (simp only [lnS] <;> omega) | assumption | fail) [ports_Write_B, wwS, -List.getD_eq_getElem?_getD, -List.drop_drop, hl, g1, g2, g3, g4]
     iterate 2 (all_goals (try (refine iteV_split (fun h => ?_) (fun h => ?_) <;> (try rw [later_eq]) <;> (try rw [laterD_eq]) <;> (try simp only [decide_eq_true_eq, decide_eq_false_iff_not, Bool.not_eq_true', Bool.not_eq_false'] at h) <;> first | (exfalso; omega) | simp (maxSteps := 1000000) (disch := first | omega | (simp only [lnS] <;> omega) | assumption | fail) [h, wwS, -List.getD_eq_getElem?_getD, -List.drop_drop])))
     omega
    ·by_cases p17 : p = 17
     ·subst p17
      have hl6 : leastS 17 = 8 := rfl
      rw [hl6] at hl h3
      refine callV_fn e.ports_Write fun nd hnd => ?_
      simp (maxSteps := 1000000) (disch := first | omega | (simp only [lnS] <;> omega) | assumption | fail) [ports_Write_B, wwS, -List.getD_eq_getElem?_getD, -List.drop_drop, hl, g1, g2, g3, g4]
      iterate 2 (all_goals (try (refine iteV_split (fun h => ?_) (fun h => ?_) <;> (try rw [later_eq]) <;> (try rw [laterD_eq]) <;> (try simp only [decide_eq_true_eq, decide_eq_false_iff_not, Bool.not_eq_true', Bool.not_eq_false'] at h) <;> first | (exfalso; omega) | simp (maxSteps := 1000000) (disch := first | omega | (simp only [lnS] <;> omega) | assumption | fail) [h, wwS, -List.getD_eq_getElem?_getD, -List.drop_drop])))
      exact ⟨by omega, by rw [show ((8 + (d.length : Int)) / 256).toNat = (8 + d.length) / 256 by omega, show ((8 + (d.length : Int)) % 256).toNat = (8 + d.length) % 256 by omega]⟩
     ·have p132 : p = 132 := by
       by_cases h : p = 132
       ·exact h
       ·exact absurd (by unfold leastS; rw [if_neg p6, if_neg p17, if_neg h]) h1
      subst p132
      have hl6 : leastS 132 = 12 := rfl
      rw [hl6] at hl h3
      refine callV_fn e.ports_Write fun nd hnd => ?_
      simp (maxSteps := 1000000) (disch := first | omega | (simp only [lnS] <;> omega) | assumption | fail) [ports_Write_B, wwS, -List.getD_eq_getElem?_getD, -List.drop_drop, hl, g1, g2, g3, g4]
      iterate 2 (all_goals (try (refine iteV_split (fun h => ?_) (fun h => ?_) <;> (try rw [later_eq]) <;> (try rw [laterD_eq]) <;> (try simp only [decide_eq_true_eq, decide_eq_false_iff_not, Bool.not_eq_true', Bool.not_eq_false'] at h) <;> first | (exfalso; omega) | simp (maxSteps := 1000000) (disch := first | omega | (simp only [lnS] <;> omega) | assumption | fail) [h, wwS, -List.getD_eq_getElem?_getD, -List.drop_drop])))
      omega
include e e1 in
theorem ref13_Write (p src dst : Int) (d : List Nat) (hd : d.length ≤ room) (hp : I64 p) (hs : I64 src) (ht : I64 dst) :
 callV E "ref13.Write" [vi p, vi src, vi dst, vb d] [] = some ([ro (writeS p src dst d).1, ri (writeS p src dst d).2], [na, na, na, na], []) := by
 have hl := ref13_Least e p hp
 have hle : leastS p = 0 ∨ 8 ≤ leastS p ∧ leastS p ≤ 20 := by
  unfold leastS
  (repeat' split) <;> omega
 unfold I64 at *
 have hd' := hd
 unfold room at hd'
 unfold writeS
 by_cases h1 : leastS p = 0
 ·refine callV_fn e.ref13_Write fun nd hnd => ?_
  simp (maxSteps := 1000000) (disch := first | omega | (simp only [lnS] <;> omega) | assumption | fail) [ref13_Write_B, wwS, -List.getD_eq_getElem?_getD, -List.drop_drop, hl, h1]
 ·rw [if_neg h1]
  by_cases h2 : src < 0 ∨ 65535 < src ∨ dst < 0 ∨ 65535 < dst
  ·rw [if_pos h2]
   refine callV_fn e.ref13_Write fun nd hnd => ?_
   simp (maxSteps := 1000000) (disch := first | omega | (simp only [lnS] <;> omega) | assumption | fail) [ref13_Write_B, wwS, -List.getD_eq_getElem?_getD, -List.drop_drop, hl, h1]
   iterate 8 (all_goals (try (refine iteV_split (fun h => ?_) (fun h => ?_) <;> (try rw [later_eq]) <;> (try rw [laterD_eq]) <;> (try simp only [decide_eq_true_eq, decide_eq_false_iff_not, Bool.not_eq_true', Bool.not_eq_false'] at h) <;> first | (exfalso; omega) | simp (maxSteps := 1000000) (disch := first | omega | (simp only [lnS] <;> omega) | assumption | fail) [h, wwS, -List.getD_eq_getElem?_getD, -List.drop_drop])))
   all_goals (first | rfl | omega | (intros; omega) | (rw [Bool.eq_iff_iff]; simp [-List.getD_eq_getElem?_getD]; omega) | (rw [Bool.eq_iff_iff]; simp; done) | (split <;> first | (simp; done) | (exfalso; omega) | (simp_all; done) | (simp_all; omega)))
  ·rw [if_neg h2]
   have g1 : ¬ src < 0 := by omega
   have g2 : ¬ 65535 < src := by omega
   have g3 : ¬ dst < 0 := by omega
   have g4 : ¬ 65535 < dst := by omega
   by_cases h3 : 65535 - leastS p < d.length
   ·refine callV_fn e.ref13_Write fun nd hnd => ?_
    simp (maxSteps := 1000000) (disch := first | omega | (simp only [lnS] <;> omega) | assumption | fail) [ref13_Write_B, wwS, -List.getD_eq_getElem?_getD, -List.drop_drop, hl, h1, g1, g2, g3, g4, h3]
   ·rw [if_neg h3]
    have hj : ∀ (a : List Nat) (N : Nat), N = a.length → a.length ≤ 20 → callV E "ref01.Join" [.v (.sl 2 [.sl N (bp a), .sl d.length (bp d)])] [] = some ([ro (a ++ d)], [na], []) := by
     intro a N hN ha
     rw [hN]
     exact ref01_Join2 e1 a d (by unfold room; omega)
    unfold hdrS
    by_cases p6 : p = 6
    ·subst p6
     have hl6 : leastS 6 = 20 := rfl
     rw [hl6] at hl h3
     refine callV_fn e.ref13_Write fun nd hnd => ?_
     simp (maxSteps := 1000000) (disch := first | omega | (simp only [lnS] <;> omega) | assumption | fail) [ref13_Write_B, wwS, -List.getD_eq_getElem?_getD, -List.drop_drop, hl, g1, g2, g3, g4]
     iterate 2 (all_goals (try (refine iteV_split (fun h => ?_) (fun h => ?_) <;> (try rw [later_eq]) <;> (try rw [laterD_eq]) <;> (try simp only [decide_eq_true_eq, decide_eq_false_iff_not, Bool.not_eq_true', Bool.not_eq_false'] at h) <;> first | (exfalso; omega) | simp (maxSteps := 1000000) (disch := first | omega | (simp only [lnS] <;> omega) | assumption | fail) [h, wwS, -List.getD_eq_getElem?_getD, -List.drop_drop, hl, g1, g2, g3, g4, hj])))
    ·by_cases p17 : p = 17
     ·subst p17
      have hl6 : leastS 17 = 8 := rfl
      rw [hl6] at hl h3
      refine callV_fn e.ref13_Write fun nd hnd => ?_
      simp (maxSteps := 1000000) (disch := first | omega | (simp only [lnS] <;> omega) | assumption | fail) [ref13_Write_B, wwS, -List.getD_eq_getElem?_getD, -List.drop_drop, hl, g1, g2, g3, g4]
      iterate 2 (all_goals (try (refine iteV_split (fun h => ?_) (fun h => ?_) <;> (try rw [later_eq]) <;> (try rw [laterD_eq]) <;> (try simp only [decide_eq_true_eq, decide_eq_false_iff_not, Bool.not_eq_true', Bool.not_eq_false'] at h) <;> first | (exfalso; omega) | simp (maxSteps := 1000000) (disch := first | omega | (simp only [lnS] <;> omega) | assumption | fail) [h, wwS, -List.getD_eq_getElem?_getD, -List.drop_drop, hl, g1, g2, g3, g4, hj])))
      rw [show (((d.length : Int) + 8) / 256).toNat = (8 + d.length) / 256 by omega, show (((d.length : Int) + 8) % 256).toNat = (8 + d.length) % 256 by omega]
     ·have p132 : p = 132 := by
       by_cases h : p = 132
       ·exact h
       ·exact absurd (by unfold leastS; rw [if_neg p6, if_neg p17, if_neg h]) h1
      subst p132
      have hl6 : leastS 132 = 12 := rfl
      rw [hl6] at hl h3
      refine callV_fn e.ref13_Write fun nd hnd => ?_
      simp (maxSteps := 1000000) (disch := first | omega | (simp only [lnS] <;> omega) | assumption | fail) [ref13_Write_B, wwS, -List.getD_eq_getElem?_getD, -List.drop_drop, hl, g1, g2, g3, g4]
      iterate 2 (all_goals (try (refine iteV_split (fun h => ?_) (fun h => ?_) <;> (try rw [later_eq]) <;> (try rw [laterD_eq]) <;> (try simp only [decide_eq_true_eq, decide_eq_false_iff_not, Bool.not_eq_true', Bool.not_eq_false'] at h) <;> first | (exfalso; omega) | simp (maxSteps := 1000000) (disch := first | omega | (simp only [lnS] <;> omega) | assumption | fail) [h, wwS, -List.getD_eq_getElem?_getD, -List.drop_drop, hl, g1, g2, g3, g4, hj])))
theorem writeS_len (p x y : Int) (d : List Nat) : (writeS p x y d).1.length ≤ 65555 := by
 have h0 : 0 ≤ leastS p := by
  unfold leastS
  (repeat' split) <;> omega
 unfold writeS hdrS
 (repeat' split) <;> simp <;> omega
include e e1 in
theorem law_PortsWrites (B : Nat) (avs : List PV) (ha : PArgs B [.int .i64, .arr 2 (.int .i64), .sl 1 1 (.int .u8)] avs) :
 ∃ o ho, callV E "law13.PortsWrites" (avs.map .v) [] = some ([rB true], o, ho) := by
 simp only [PArgs] at ha
 obtain ⟨v0, _, rfl, a0, v1, _, rfl, a1, v2, _, rfl, a2, rfl⟩ := ha
 obtain ⟨p, rfl, hp⟩ := pv_int a0
 obtain ⟨l, hl, rfl, hw⟩ := pv_arr a1
 obtain ⟨d, rfl, h256, hlen, _⟩ := pv_bytesR a2
 match l, hl with
 | [x, y], _ =>
 have hp := wf_i64 hp
 have hx := wf_i64 (hw x (by simp))
 have hy := wf_i64 (hw y (by simp))
 have q1 := ports_Write e p x y d hlen hp hx hy
 have q2 := ref13_Write e e1 p x y d hlen hp hx hy
 have hle : (writeS p x y d).1.length ≤ room := Nat.le_trans (writeS_len p x y d) (by unfold room; omega)
 have q3 := ref01_SameBytes e1 (writeS p x y d).1 (writeS p x y d).1 hle
 have hlive := live e
 refine ⟨[na, na, na], [], ?_⟩
 rw [List.map_cons, List.map_cons, List.map_cons, List.map_nil, show mp (fun n : Int => PV.sc (.int .i64 n)) [x, y] = [.sc (.int .i64 x), .sc (.int .i64 y)] from rfl]
 refine callV_fn e.law13_PortsWrites fun nd hnd => ?_
 simp (maxSteps := 1000000) (disch := first | omega | (simp only [lnS] <;> omega) | assumption | fail) [law13_PortsWrites_B, wwS, -List.getD_eq_getElem?_getD, -List.drop_drop, q1, q2, q3, hlive]
omit e e1 in
theorem vb_take {b : List Nat} {n : Nat} (h : n ≤ b.length) : vb (b.take n) = .v (.sl n (bp (b.take n))) := by
 have : (b.take n).length = n := by rw [List.length_take]; omega
 unfold vb
 rw [this]
theorem take_getD {b : List Nat} {n i : Nat} (h : i < n) : (b.take n).getD i 0 = b.getD i 0 := by
 simp [List.getD, List.getElem?_take, h]
theorem w16_take {b : List Nat} {n i : Nat} (h : i + 2 ≤ n) : w16 (b.take n) i = w16 b i := by
 unfold w16
 rw [take_getD (by omega), take_getD (by omega)]
theorem leastS_cases {p : Int} (h : leastS p ≠ 0) : (p = 6 ∧ leastS p = 20) ∨ (p = 17 ∧ leastS p = 8) ∨ (p = 132 ∧ leastS p = 12) := by
 unfold leastS at *
 by_cases h1 : p = 6
 ·simp [h1]
 ·by_cases h2 : p = 17
  ·simp [h2]
  ·by_cases h3 : p = 132
   ·simp [h3]
   ·simp [h1, h2, h3] at h
theorem hdr_len {p x y : Int} {n : Nat} (h : leastS p ≠ 0) : ((hdrS p x y n).length : Int) = leastS p := by
 rcases leastS_cases h with ⟨rfl, e⟩ | ⟨rfl, e⟩ | ⟨rfl, e⟩ <;> rw [e] <;> simp [hdrS]
theorem read_back {p x y : Int} {d : List Nat} (h : leastS p ≠ 0) (hx : 0 ≤ x ∧ x < 65536) (hy : 0 ≤ y ∧ y < 65536) {n : Nat} {f : Bool} (hn : leastS p ≤ n) (hn2 : (n : Int) ≤ leastS p + d.length) (hf : f = true ∨ (n : Int) = leastS p + d.length) :
 readS p ((hdrS p x y d.length ++ d).take n) f = (x.toNat, y.toNat, 0) := by
 have hl := hdr_len (x := x) (y := y) (n := d.length) h
 have hlen : ((hdrS p x y d.length ++ d).take n).length = n := by
  rw [List.length_take, List.length_append]; omega
 have h8 : 8 ≤ n := by rcases leastS_cases h with ⟨rfl, e⟩ | ⟨rfl, e⟩ | ⟨rfl, e⟩ <;> omega
 have hs : soundS p ((hdrS p x y d.length ++ d).take n) f = true := by
  unfold soundS
  rw [hlen, w16_take (by omega)]
  rcases leastS_cases h with ⟨rfl, e⟩ | ⟨rfl, e⟩ | ⟨rfl, e⟩
  ·rw [take_getD (by omega)]
   simp [hdrS]
   omega
  ·have : w16 (hdrS 17 x y d.length ++ d) 4 = 8 + d.length := by
    simp [hdrS, w16]
    omega
   rw [this]
   rcases hf with rfl | hf
   ·simp
   ·simp
    right; omega
  ·simp
 unfold readS
 rw [if_neg h, if_neg (by rw [hlen]; omega), if_pos hs, w16_take (by omega), w16_take (by omega)]
 have h0 : w16 (hdrS p x y d.length ++ d) 0 = x.toNat := by
  simp [hdrS, w16]; omega
 have h2 : w16 (hdrS p x y d.length ++ d) 2 = y.toNat := by
  simp [hdrS, w16]; omega
 rw [h0, h2]
theorem read_short {p : Int} {b : List Nat} {n : Nat} {f : Bool} (h : leastS p ≠ 0) (hn : (n : Int) < leastS p) : readS p (b.take n) f = (0, 0, 15) := by
 unfold readS
 rw [if_neg h, if_pos (by rw [List.length_take]; omega)]
theorem hdr_256 {p x y : Int} {n : Nat} (hx : 0 ≤ x ∧ x < 65536) (hy : 0 ≤ y ∧ y < 65536) (hn : n ≤ 65000) : ∀ c ∈ hdrS p x y n, c < 256 := by
 intro c hc
 unfold hdrS at hc
 rw [List.mem_append] at hc
 rcases hc with hc | hc
 ·simp at hc
  omega
 ·split at hc
  ·simp at hc; omega
  ·split at hc
   ·simp at hc; omega
   ·simp at hc; omega
include e e1 in
theorem back_one (k : Int) (hk : 0 ≤ k ∧ k < 256) (p : Int) (h0 : leastS p ≠ 0) (hkp : (k % 3 = 0 ∧ p = 6) ∨ (k % 3 = 1 ∧ p = 17) ∨ (k % 3 = 2 ∧ p = 132)) (x y : Int) (hx : 0 ≤ x ∧ x < 65536) (hy : 0 ≤ y ∧ y < 65536) (d : List Nat) (hd : d.length ≤ room) (h256 : ∀ c ∈ d, c < 256) :
 callV E "law13.PortsBack" [vk .u8 k, .v (.agg [.sc (.int .u16 x), .sc (.int .u16 y)]), vb d] [] = some ([rB true], [na, na, na], []) := by
 have hp : I64 p := by unfold I64; omega
 have hw := ports_Write e p x y d hd hp (by unfold I64; omega) (by unfold I64; omega)
 have hq := ports_Least e p hp
 have hlive := live e
 have hle := leastS_cases h0
 by_cases hlong : (60000 : Int) < d.length
 ·generalize writeS p x y d = w at *
  rcases hkp with ⟨hm, rfl⟩ | ⟨hm, rfl⟩ | ⟨hm, rfl⟩
  ·refine callV_fn e.law13_PortsBack fun nd hnd => ?_
   simp (maxSteps := 1000000) (disch := first | omega | (simp only [lnS] <;> omega) | assumption | fail) [law13_PortsBack_B, wwS, -List.getD_eq_getElem?_getD, -List.drop_drop, hm, hw, hlong, hlive]
  ·refine callV_fn e.law13_PortsBack fun nd hnd => ?_
   simp (maxSteps := 1000000) (disch := first | omega | (simp only [lnS] <;> omega) | assumption | fail) [law13_PortsBack_B, wwS, -List.getD_eq_getElem?_getD, -List.drop_drop, hm, hw, hlong, hlive]
  ·refine callV_fn e.law13_PortsBack fun nd hnd => ?_
   simp (maxSteps := 1000000) (disch := first | omega | (simp only [lnS] <;> omega) | assumption | fail) [law13_PortsBack_B, wwS, -List.getD_eq_getElem?_getD, -List.drop_drop, hm, hw, hlong, hlive]
 ·have hl := hdr_len (x := x) (y := y) (n := d.length) h0
  have hws : writeS p x y d = (hdrS p x y d.length ++ d, 0) := by
   unfold writeS
   rw [if_neg h0, if_neg (by omega), if_neg (by omega)]
  rw [hws] at hw
  have rb := fun n f => @read_back p x y d h0 hx hy n f
  have rsh := fun n f => @read_short p (hdrS p x y d.length ++ d) n f h0
  have hb256 : ∀ c ∈ hdrS p x y d.length ++ d, c < 256 := by
   intro c hc
   rcases List.mem_append.1 hc with hc | hc
   ·exact hdr_256 hx hy (by omega) c hc
   ·exact h256 c hc
  have hbl : ((hdrS p x y d.length ++ d).length : Int) = leastS p + d.length := by rw [List.length_append]; omega
  generalize hdrS p x y d.length ++ d = b at *
  have r1 := ports_Read e e1 b (by unfold room; omega) hb256 p hp (decide (k % 2 = 0))
  have hb1 := rb b.length (decide (k % 2 = 0)) (by omega) (by omega) (.inr hbl)
  rw [List.take_length] at hb1
  rw [hb1] at r1
  have hc1 : 0 ≤ k % ((b.length : Int) + 1) := Int.emod_nonneg _ (by omega)
  have hc2 : k % ((b.length : Int) + 1) < (b.length : Int) + 1 := Int.emod_lt_of_pos _ (by omega)
  have r2 := ports_Read e e1 (b.take (k % ((b.length : Int) + 1)).toNat) (by rw [List.length_take]; unfold room; omega) (fun c hc => hb256 c (List.mem_of_mem_take hc)) p hp true
  rw [vb_take (by omega)] at r2
  by_cases hcut : k % ((b.length : Int) + 1) < leastS p
  ·rw [rsh (k % ((b.length : Int) + 1)).toNat true (by omega)] at r2
   rcases hkp with ⟨hm, rfl⟩ | ⟨hm, rfl⟩ | ⟨hm, rfl⟩
   ·have hl6 : leastS 6 = 20 := rfl
    rw [hl6] at hcut hq hbl
    have hnz : ¬ ((b.length : Int) + 1 = 0) := by omega
    refine callV_fn e.law13_PortsBack fun nd hnd => ?_
    simp (maxSteps := 1000000) (disch := first | omega | (simp only [lnS] <;> omega) | assumption | fail) [law13_PortsBack_B, wwS, -List.getD_eq_getElem?_getD, -List.drop_drop, hm, hw, hlong, hlive, r1, hq]
    iterate 8 (all_goals (try (refine iteV_split (fun h => ?_) (fun h => ?_) <;> (try rw [later_eq]) <;> (try rw [laterD_eq]) <;> (try simp only [decide_eq_true_eq, decide_eq_false_iff_not, Bool.not_eq_true', Bool.not_eq_false'] at h) <;> first | (exfalso; omega) | simp (maxSteps := 1000000) (disch := first | omega | (simp only [lnS] <;> omega) | assumption | fail) [h, wwS, -List.getD_eq_getElem?_getD, -List.drop_drop, hm, hlive, r2, hq, hcut, hnz])))
    all_goals (first | rfl | omega | (intros; omega) | (rw [Bool.eq_iff_iff]; simp [-List.getD_eq_getElem?_getD]; omega) | (rw [Bool.eq_iff_iff]; simp; done) | (split <;> first | (simp; done) | (exfalso; omega) | (simp_all; done) | (simp_all; omega)))
   ·have hl6 : leastS 17 = 8 := rfl
    rw [hl6] at hcut hq hbl
    have hnz : ¬ ((b.length : Int) + 1 = 0) := by omega
    refine callV_fn e.law13_PortsBack fun nd hnd => ?_
    simp (maxSteps := 1000000) (disch := first | omega | (simp only [lnS] <;> omega) | assumption | fail) [law13_PortsBack_B, wwS, -List.getD_eq_getElem?_getD, -List.drop_drop, hm, hw, hlong, hlive, r1, hq]
    iterate 8 (all_goals (try (refine iteV_split (fun h => ?_) (fun h => ?_) <;> (try rw [later_eq]) <;> (try rw [laterD_eq]) <;> (try simp only [decide_eq_true_eq, decide_eq_false_iff_not, Bool.not_eq_true', Bool.not_eq_false'] at h) <;> first | (exfalso; omega) | simp (maxSteps := 1000000) (disch := first | omega | (simp only [lnS] <;> omega) | assumption | fail) [h, wwS, -List.getD_eq_getElem?_getD, -List.drop_drop, hm, hlive, r2, hq, hcut, hnz])))
    all_goals (first | rfl | omega | (intros; omega) | (rw [Bool.eq_iff_iff]; simp [-List.getD_eq_getElem?_getD]; omega) | (rw [Bool.eq_iff_iff]; simp; done) | (split <;> first | (simp; done) | (exfalso; omega) | (simp_all; done) | (simp_all; omega)))
   ·have hl6 : leastS 132 = 12 := rfl
    rw [hl6] at hcut hq hbl
    have hnz : ¬ ((b.length : Int) + 1 = 0) := by omega
    refine callV_fn e.law13_PortsBack fun nd hnd => ?_
    simp (maxSteps := 1000000) (disch := first | omega | (simp only [lnS] <;> omega) | assumption | fail) [law13_PortsBack_B, wwS, -List.getD_eq_getElem?_getD, -List.drop_drop, hm, hw, hlong, hlive, r1, hq]
    iterate 8 (all_goals (try (refine iteV_split (fun h => ?_) (fun h => ?_) <;> (try rw [later_eq]) <;> (try rw [laterD_eq]) <;> (try simp only [decide_eq_true_eq, decide_eq_false_iff_not, Bool.not_eq_true', Bool.not_eq_false'] at h) <;> first | (exfalso; omega) | simp (maxSteps := 1000000) (disch := first | omega | (simp only [lnS] <;> omega) | assumption | fail) [h, wwS, -List.getD_eq_getElem?_getD, -List.drop_drop, hm, hlive, r2, hq, hcut, hnz])))
    all_goals (first | rfl | omega | (intros; omega) | (rw [Bool.eq_iff_iff]; simp [-List.getD_eq_getElem?_getD]; omega) | (rw [Bool.eq_iff_iff]; simp; done) | (split <;> first | (simp; done) | (exfalso; omega) | (simp_all; done) | (simp_all; omega)))
  ·rw [rb (k % ((b.length : Int) + 1)).toNat true (by omega) (by omega) (.inl rfl)] at r2
   rcases hkp with ⟨hm, rfl⟩ | ⟨hm, rfl⟩ | ⟨hm, rfl⟩
   ·have hl6 : leastS 6 = 20 := rfl
    rw [hl6] at hcut hq hbl
    have hnz : ¬ ((b.length : Int) + 1 = 0) := by omega
    refine callV_fn e.law13_PortsBack fun nd hnd => ?_
    simp (maxSteps := 1000000) (disch := first | omega | (simp only [lnS] <;> omega) | assumption | fail) [law13_PortsBack_B, wwS, -List.getD_eq_getElem?_getD, -List.drop_drop, hm, hw, hlong, hlive, r1, hq]
    iterate 8 (all_goals (try (refine iteV_split (fun h => ?_) (fun h => ?_) <;> (try rw [later_eq]) <;> (try rw [laterD_eq]) <;> (try simp only [decide_eq_true_eq, decide_eq_false_iff_not, Bool.not_eq_true', Bool.not_eq_false'] at h) <;> first | (exfalso; omega) | simp (maxSteps := 1000000) (disch := first | omega | (simp only [lnS] <;> omega) | assumption | fail) [h, wwS, -List.getD_eq_getElem?_getD, -List.drop_drop, hm, hlive, r2, hq, hcut, hnz])))
    all_goals (first | rfl | omega | (intros; omega) | (rw [Bool.eq_iff_iff]; simp [-List.getD_eq_getElem?_getD]; omega) | (rw [Bool.eq_iff_iff]; simp; done) | (split <;> first | (simp; done) | (exfalso; omega) | (simp_all; done) | (simp_all; omega)))
   ·have hl6 : leastS 17 = 8 := rfl
    rw [hl6] at hcut hq hbl
    have hnz : ¬ ((b.length : Int) + 1 = 0) := by omega
    refine callV_fn e.law13_PortsBack fun nd hnd => ?_
    simp (maxSteps := 1000000) (disch := first | omega | (simp only [lnS] <;> omega) | assumption | fail) [law13_PortsBack_B, wwS, -List.getD_eq_getElem?_getD, -List.drop_drop, hm, hw, hlong, hlive, r1, hq]
    iterate 8 (all_goals (try (refine iteV_split (fun h => ?_) (fun h => ?_) <;> (try rw [later_eq]) <;> (try rw [laterD_eq]) <;> (try simp only [decide_eq_true_eq, decide_eq_false_iff_not, Bool.not_eq_true', Bool.not_eq_false'] at h) <;> first | (exfalso; omega) | simp (maxSteps := 1000000) (disch := first | omega | (simp only [lnS] <;> omega) | assumption | fail) [h, wwS, -List.getD_eq_getElem?_getD, -List.drop_drop, hm, hlive, r2, hq, hcut, hnz])))
    all_goals (first | rfl | omega | (intros; omega) | (rw [Bool.eq_iff_iff]; simp [-List.getD_eq_getElem?_getD]; omega) | (rw [Bool.eq_iff_iff]; simp; done) | (split <;> first | (simp; done) | (exfalso; omega) | (simp_all; done) | (simp_all; omega)))
   ·have hl6 : leastS 132 = 12 := rfl
    rw [hl6] at hcut hq hbl
    have hnz : ¬ ((b.length : Int) + 1 = 0) := by omega
    refine callV_fn e.law13_PortsBack fun nd hnd => ?_
    simp (maxSteps := 1000000) (disch := first | omega | (simp only [lnS] <;> omega) | assumption | fail) [law13_PortsBack_B, wwS, -List.getD_eq_getElem?_getD, -List.drop_drop, hm, hw, hlong, hlive, r1, hq]
    iterate 8 (all_goals (try (refine iteV_split (fun h => ?_) (fun h => ?_) <;> (try rw [later_eq]) <;> (try rw [laterD_eq]) <;> (try simp only [decide_eq_true_eq, decide_eq_false_iff_not, Bool.not_eq_true', Bool.not_eq_false'] at h) <;> first | (exfalso; omega) | simp (maxSteps := 1000000) (disch := first | omega | (simp only [lnS] <;> omega) | assumption | fail) [h, wwS, -List.getD_eq_getElem?_getD, -List.drop_drop, hm, hlive, r2, hq, hcut, hnz])))
    all_goals (first | rfl | omega | (intros; omega) | (rw [Bool.eq_iff_iff]; simp [-List.getD_eq_getElem?_getD]; omega) | (rw [Bool.eq_iff_iff]; simp; done) | (split <;> first | (simp; done) | (exfalso; omega) | (simp_all; done) | (simp_all; omega)))
include e e1 in
theorem law_PortsBack (B : Nat) (avs : List PV) (ha : PArgs B [.int .u8, .arr 2 (.int .u16), .sl 1 1 (.int .u8)] avs) :
 ∃ o ho, callV E "law13.PortsBack" (avs.map .v) [] = some ([rB true], o, ho) := by
 simp only [PArgs] at ha
 obtain ⟨v0, _, rfl, a0, v1, _, rfl, a1, v2, _, rfl, a2, rfl⟩ := ha
 obtain ⟨k, rfl, hk⟩ := pv_int a0
 obtain ⟨l, hl, rfl, hw⟩ := pv_arr a1
 obtain ⟨d, rfl, h256, hlen, _⟩ := pv_bytesR a2
 match l, hl with
 | [x, y], _ =>
 have hk := wf_u8 hk
 have hx := wf_u16 (hw x (by simp))
 have hy := wf_u16 (hw y (by simp))
 refine ⟨[na, na, na], [], ?_⟩
 rw [List.map_cons, List.map_cons, List.map_cons, List.map_nil, show mp (fun n : Int => PV.sc (.int .u16 n)) [x, y] = [.sc (.int .u16 x), .sc (.int .u16 y)] from rfl]
 have hm : k % 3 = 0 ∨ k % 3 = 1 ∨ k % 3 = 2 := by omega
 rcases hm with hm | hm | hm
 ·exact back_one e e1 k hk 6 (by decide) (by simp [hm]) x y hx hy d hlen h256
 ·exact back_one e e1 k hk 17 (by decide) (by simp [hm]) x y hx hy d hlen h256
 ·exact back_one e e1 k hk 132 (by decide) (by simp [hm]) x y hx hy d hlen h256
end
end Go.Wb.P13

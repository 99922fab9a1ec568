/- Chapter 13: ports: what its functions come to. -/
import Derived.Test.YtikejeihmhpabaaWbvP01
import Derived.Test.YtikejeihmhpabaaWbvC13
import Derived.Test.YtikejeihmhpabaaWbA5
set_option maxRecDepth 100000
set_option linter.all false
namespace Go.Wb.P13
open Go Go.Wb Go.Wb.Code Go.Wb.P01

def leastS (p : Int) : Int := if p = 6 then 20 else if p = 17 then 8 else if p = 132 then 12 else 0

def w16 (b : List Nat) (a : Nat) : Nat := b.getD a 0 * 256 + b.getD (a + 1) 0

theorem getS_two {b : List Nat} {a : Nat} (h : a + 2 ≤ b.length) : getS b a 2 = (w16 b a, 0) := by
  have hs : spansE b.length a 2 = 0 := by
    unfold spansE
    rw [if_neg (by omega), if_neg (by omega)]
  unfold getS
  rw [if_pos hs, Int.toNat_natCast]
  have e1 : (2 : Int).toNat = 2 := rfl
  rw [e1, List.drop_eq_getElem_cons (by omega), List.drop_eq_getElem_cons (by omega)]
  simp only [List.take_succ_cons, List.take_zero, num, List.foldl_cons, List.foldl_nil, w16, List.getD_eq_getElem?_getD]
  rw [List.getElem?_eq_getElem (by omega), List.getElem?_eq_getElem (by omega)]
  simp

theorem w16_lt {b : List Nat} (h256 : ∀ x ∈ b, x < 256) {a : Nat} (h : a + 2 ≤ b.length) : w16 b a < 65536 := by
  have h1 := h256 _ (getD_mem (by omega : a < b.length))
  have h2 := h256 _ (getD_mem (by omega : a + 1 < b.length))
  unfold w16
  omega

def soundS (p : Int) (b : List Nat) (first : Bool) : Bool :=
  if p = 6 then decide (20 ≤ 4 * (b.getD 12 0 / 16)) && decide (4 * (b.getD 12 0 / 16) ≤ b.length)
  else if p = 17 then decide (8 ≤ w16 b 4) && (first || decide (w16 b 4 ≤ b.length)) else true

/-- What 'Read' tells. -/
def readS (p : Int) (b : List Nat) (first : Bool) : Nat × Nat × Int :=
  if leastS p = 0 then (0, 0, 0) else if (b.length : Int) < leastS p then (0, 0, 15) else if soundS p b first then (w16 b 0, w16 b 2, 0) else (0, 0, 16)

section
variable {E : EnvW} (e : WbvC13Env E) (e1 : WbvC01Env E)

include e in
theorem ports_Least (p : Int) (hp : I64 p) : callV E "ports.Least" [vi p] [] = some ([ri (leastS p)], [na], []) := by
  unfold I64 at hp
  unfold leastS
  refine callV_fn e.ports_Least fun nd hnd => ?_
  simp (disch := first | omega | (simp only [mp_len, Nat.mul_one, Nat.one_mul, List.length_take, List.length_drop, List.length_append, List.length_set, List.length_cons, List.length_nil, List.length_replicate] <;> omega) | fail) [ports_Least_B, hidB, wrap_i64, wrap_u64, wrap_u32, wrap_u16, wrap_u8, -List.getD_eq_getElem?_getD, -List.drop_drop]
  iterate 6 (all_goals (try (refine iteV_split (fun h => ?_) (fun h => ?_) <;> (try rw [later_eq]) <;> (try simp only [decide_eq_true_eq, decide_eq_false_iff_not, Bool.not_eq_true', Bool.not_eq_false'] at h) <;> simp (disch := first | omega | (simp only [mp_len, Nat.mul_one, Nat.one_mul, List.length_take, List.length_drop, List.length_append, List.length_set, List.length_cons, List.length_nil, List.length_replicate] <;> omega) | fail) [h, hidB, wrap_i64, wrap_u64, wrap_u32, wrap_u16, wrap_u8, -List.getD_eq_getElem?_getD, -List.drop_drop])))
  all_goals ((repeat' split) <;> first | rfl | omega)

include e in
theorem ref13_Least (p : Int) (hp : I64 p) : callV E "ref13.Least" [vi p] [] = some ([ri (leastS p)], [na], []) := by
  unfold I64 at hp
  unfold leastS
  refine callV_fn e.ref13_Least fun nd hnd => ?_
  simp (disch := first | omega | (simp only [mp_len, Nat.mul_one, Nat.one_mul, List.length_take, List.length_drop, List.length_append, List.length_set, List.length_cons, List.length_nil, List.length_replicate] <;> omega) | fail) [ref13_Least_B, hidB, wrap_i64, wrap_u64, wrap_u32, wrap_u16, wrap_u8, -List.getD_eq_getElem?_getD, -List.drop_drop]
  iterate 6 (all_goals (try (refine iteV_split (fun h => ?_) (fun h => ?_) <;> (try rw [later_eq]) <;> (try simp only [decide_eq_true_eq, decide_eq_false_iff_not, Bool.not_eq_true', Bool.not_eq_false'] at h) <;> simp (disch := first | omega | (simp only [mp_len, Nat.mul_one, Nat.one_mul, List.length_take, List.length_drop, List.length_append, List.length_set, List.length_cons, List.length_nil, List.length_replicate] <;> omega) | fail) [h, hidB, wrap_i64, wrap_u64, wrap_u32, wrap_u16, wrap_u8, -List.getD_eq_getElem?_getD, -List.drop_drop])))
  all_goals ((repeat' split) <;> first | rfl | omega)

include e e1 in
theorem ports_field (b : List Nat) (hb : b.length ≤ reach) (h256 : ∀ x ∈ b, x < 256) {z : Int} (a : Nat) (hz : z = a) (ha : a + 2 ≤ b.length) :
    callV E "ports.field" [vb b, vi z] [] = some ([ri (w16 b a : Nat)], [na, na], []) := by
  subst hz
  have hlb := hb
  unfold reach reachBytes at hlb
  have hg := octet_Get e1 b hb h256 a 2 (by unfold I64; omega) (by unfold I64; omega)
  have hlt := w16_lt h256 ha
  rw [getS_two ha] at hg
  generalize w16 b a = x at *
  refine callV_fn e.ports_field fun nd hnd => ?_
  simp (disch := first | omega | (simp only [mp_len, Nat.mul_one, Nat.one_mul, List.length_take, List.length_drop, List.length_append, List.length_set, List.length_cons, List.length_nil, List.length_replicate] <;> omega) | fail) [ports_field_B, hidB, wrap_i64, wrap_u64, wrap_u32, wrap_u16, wrap_u8, -List.getD_eq_getElem?_getD, -List.drop_drop, hg]

include e in
theorem ref13_two (b : List Nat) (hb : b.length ≤ reach) (h256 : ∀ x ∈ b, x < 256) {z : Int} (a : Nat) (hz : z = a) (ha : a + 2 ≤ b.length) :
    callV E "ref13.two" [vb b, vi z] [] = some ([ri (w16 b a : Nat)], [na, na], []) := by
  subst hz
  unfold reach reachBytes at hb
  have c1 := h256 _ (getD_mem (by omega : a < b.length))
  have c2 := h256 _ (getD_mem (by omega : a + 1 < b.length))
  unfold w16
  refine callV_fn e.ref13_two fun nd hnd => ?_
  simp (disch := first | omega | (simp only [mp_len, Nat.mul_one, Nat.one_mul, List.length_take, List.length_drop, List.length_append, List.length_set, List.length_cons, List.length_nil, List.length_replicate] <;> omega) | fail) [ref13_two_B, hidB, wrap_i64, wrap_u64, wrap_u32, wrap_u16, wrap_u8, -List.getD_eq_getElem?_getD, -List.drop_drop]

include e e1 in
theorem ports_sound (b : List Nat) (hb : b.length ≤ reach) (h256 : ∀ x ∈ b, x < 256) (p : Int) (hp : I64 p) (first : Bool) (h0 : leastS p ≠ 0) (hl : leastS p ≤ b.length) :
    callV E "ports.sound" [vi p, vb b, vB first] [] = some ([rB (soundS p b first)], [na, na, na], []) := by
  have hlb := hb
  unfold reach reachBytes at hlb
  unfold leastS at h0 hl
  unfold I64 at hp
  unfold soundS
  by_cases h1 : p = 6
  · rw [if_pos h1] at hl ⊢
    have c1 := h256 _ (getD_mem (by omega : 12 < b.length))
    refine callV_fn e.ports_sound fun nd hnd => ?_
    simp (disch := first | omega | (simp only [mp_len, Nat.mul_one, Nat.one_mul, List.length_take, List.length_drop, List.length_append, List.length_set, List.length_cons, List.length_nil, List.length_replicate] <;> omega) | fail) [ports_sound_B, hidB, wrap_i64, wrap_u64, wrap_u32, wrap_u16, wrap_u8, -List.getD_eq_getElem?_getD, -List.drop_drop, h1]
    iterate 6 (all_goals (try (refine iteV_split (fun h => ?_) (fun h => ?_) <;> (try rw [later_eq]) <;> (try simp only [decide_eq_true_eq, decide_eq_false_iff_not, Bool.not_eq_true', Bool.not_eq_false'] at h) <;> simp (disch := first | omega | (simp only [mp_len, Nat.mul_one, Nat.one_mul, List.length_take, List.length_drop, List.length_append, List.length_set, List.length_cons, List.length_nil, List.length_replicate] <;> omega) | fail) [h, hidB, wrap_i64, wrap_u64, wrap_u32, wrap_u16, wrap_u8, -List.getD_eq_getElem?_getD, -List.drop_drop])))
    all_goals (first | rfl | omega | (intros; omega) | (rw [Bool.eq_iff_iff]; simp [-List.getD_eq_getElem?_getD]; omega) | (rw [Bool.eq_iff_iff]; simp; done) | (split <;> first | (simp; done) | (exfalso; omega) | (simp_all; done) | (simp_all; omega)))
  · rw [if_neg h1] at hl ⊢
    by_cases h2 : p = 17
    · rw [if_pos h2] at hl ⊢
      have hf := ports_field e e1 b hb h256 (z := 4) 4 rfl (by omega)
      have hlt := w16_lt h256 (a := 4) (by omega)
      generalize w16 b 4 = q at *
      refine callV_fn e.ports_sound fun nd hnd => ?_
      simp (disch := first | omega | (simp only [mp_len, Nat.mul_one, Nat.one_mul, List.length_take, List.length_drop, List.length_append, List.length_set, List.length_cons, List.length_nil, List.length_replicate] <;> omega) | fail) [ports_sound_B, hidB, wrap_i64, wrap_u64, wrap_u32, wrap_u16, wrap_u8, -List.getD_eq_getElem?_getD, -List.drop_drop, h1, h2, hf]
      iterate 6 (all_goals (try (refine iteV_split (fun h => ?_) (fun h => ?_) <;> (try rw [later_eq]) <;> (try simp only [decide_eq_true_eq, decide_eq_false_iff_not, Bool.not_eq_true', Bool.not_eq_false'] at h) <;> simp (disch := first | omega | (simp only [mp_len, Nat.mul_one, Nat.one_mul, List.length_take, List.length_drop, List.length_append, List.length_set, List.length_cons, List.length_nil, List.length_replicate] <;> omega) | fail) [h, hidB, wrap_i64, wrap_u64, wrap_u32, wrap_u16, wrap_u8, -List.getD_eq_getElem?_getD, -List.drop_drop])))
      all_goals (first | rfl | omega | (intros; omega) | (rw [Bool.eq_iff_iff]; simp [-List.getD_eq_getElem?_getD]; omega) | (rw [Bool.eq_iff_iff]; simp; done) | (split <;> first | (simp; done) | (exfalso; omega) | (simp_all; done) | (simp_all; omega)))
    · refine callV_fn e.ports_sound fun nd hnd => ?_
      simp (disch := first | omega | (simp only [mp_len, Nat.mul_one, Nat.one_mul, List.length_take, List.length_drop, List.length_append, List.length_set, List.length_cons, List.length_nil, List.length_replicate] <;> omega) | fail) [ports_sound_B, hidB, wrap_i64, wrap_u64, wrap_u32, wrap_u16, wrap_u8, -List.getD_eq_getElem?_getD, -List.drop_drop, h1, h2]

include e e1 in
theorem ports_Read (b : List Nat) (hb : b.length ≤ reach) (h256 : ∀ x ∈ b, x < 256) (p : Int) (hp : I64 p) (first : Bool) :
    callV E "ports.Read" [vi p, vb b, vB first] [] = some ([ri (readS p b first).1, ri (readS p b first).2.1, ri (readS p b first).2.2], [na, na, na], []) := by
  have hl := ports_Least e p hp
  have hlb := hb
  unfold reach reachBytes at hlb
  have hle : leastS p = 0 ∨ 8 ≤ leastS p ∧ leastS p ≤ 20 := by
    unfold leastS
    (repeat' split) <;> omega
  unfold I64 at hp
  unfold readS
  by_cases h1 : leastS p = 0
  · refine callV_fn e.ports_Read fun nd hnd => ?_
    simp (disch := first | omega | (simp only [mp_len, Nat.mul_one, Nat.one_mul, List.length_take, List.length_drop, List.length_append, List.length_set, List.length_cons, List.length_nil, List.length_replicate] <;> omega) | fail) [ports_Read_B, hidB, wrap_i64, wrap_u64, wrap_u32, wrap_u16, wrap_u8, -List.getD_eq_getElem?_getD, -List.drop_drop, hl, h1]
  · by_cases h2 : (b.length : Int) < leastS p
    · refine callV_fn e.ports_Read fun nd hnd => ?_
      simp (disch := first | omega | (simp only [mp_len, Nat.mul_one, Nat.one_mul, List.length_take, List.length_drop, List.length_append, List.length_set, List.length_cons, List.length_nil, List.length_replicate] <;> omega) | fail) [ports_Read_B, hidB, wrap_i64, wrap_u64, wrap_u32, wrap_u16, wrap_u8, -List.getD_eq_getElem?_getD, -List.drop_drop, hl, h1, h2]
    · have hs := ports_sound e e1 b hb h256 p hp first h1 (by omega)
      have f0 := ports_field e e1 b hb h256 (z := 0) 0 rfl (by omega)
      have f2 := ports_field e e1 b hb h256 (z := 2) 2 rfl (by omega)
      cases h3 : soundS p b first <;> rw [h3] at hs
      · refine callV_fn e.ports_Read fun nd hnd => ?_
        simp (disch := first | omega | (simp only [mp_len, Nat.mul_one, Nat.one_mul, List.length_take, List.length_drop, List.length_append, List.length_set, List.length_cons, List.length_nil, List.length_replicate] <;> omega) | fail) [ports_Read_B, hidB, wrap_i64, wrap_u64, wrap_u32, wrap_u16, wrap_u8, -List.getD_eq_getElem?_getD, -List.drop_drop, hl, h1, h2, hs]
      · refine callV_fn e.ports_Read fun nd hnd => ?_
        simp (disch := first | omega | (simp only [mp_len, Nat.mul_one, Nat.one_mul, List.length_take, List.length_drop, List.length_append, List.length_set, List.length_cons, List.length_nil, List.length_replicate] <;> omega) | fail) [ports_Read_B, hidB, wrap_i64, wrap_u64, wrap_u32, wrap_u16, wrap_u8, -List.getD_eq_getElem?_getD, -List.drop_drop, hl, h1, h2, hs, f0, f2]

include e in
theorem ref13_Read (b : List Nat) (hb : b.length ≤ reach) (h256 : ∀ x ∈ b, x < 256) (p : Int) (hp : I64 p) (first : Bool) :
    callV E "ref13.Read" [vi p, vb b, vB first] [] = some ([ri (readS p b first).1, ri (readS p b first).2.1, ri (readS p b first).2.2], [na, na, na], []) := by
  have hl := ref13_Least e p hp
  have hlb := hb
  unfold reach reachBytes at hlb
  have hle : leastS p = 0 ∨ 8 ≤ leastS p ∧ leastS p ≤ 20 := by
    unfold leastS
    (repeat' split) <;> omega
  unfold I64 at hp
  unfold readS
  by_cases h1 : leastS p = 0
  · refine callV_fn e.ref13_Read fun nd hnd => ?_
    simp (disch := first | omega | (simp only [mp_len, Nat.mul_one, Nat.one_mul, List.length_take, List.length_drop, List.length_append, List.length_set, List.length_cons, List.length_nil, List.length_replicate] <;> omega) | fail) [ref13_Read_B, hidB, wrap_i64, wrap_u64, wrap_u32, wrap_u16, wrap_u8, -List.getD_eq_getElem?_getD, -List.drop_drop, hl, h1]
  · by_cases h2 : (b.length : Int) < leastS p
    · refine callV_fn e.ref13_Read fun nd hnd => ?_
      simp (disch := first | omega | (simp only [mp_len, Nat.mul_one, Nat.one_mul, List.length_take, List.length_drop, List.length_append, List.length_set, List.length_cons, List.length_nil, List.length_replicate] <;> omega) | fail) [ref13_Read_B, hidB, wrap_i64, wrap_u64, wrap_u32, wrap_u16, wrap_u8, -List.getD_eq_getElem?_getD, -List.drop_drop, hl, h1, h2]
    · have f0 := ref13_two e b hb h256 (z := 0) 0 rfl (by omega)
      have f2 := ref13_two e b hb h256 (z := 2) 2 rfl (by omega)
      have f4 := ref13_two e b hb h256 (z := 4) 4 rfl (by omega)
      have hlt := w16_lt h256 (a := 4) (by omega)
      unfold soundS
      rw [if_neg h1, if_neg h2]
      by_cases p6 : p = 6
      · subst p6
        have hl6 : leastS 6 = 20 := rfl
        rw [hl6] at hl h2
        have c1 := h256 _ (getD_mem (by omega : 12 < b.length))
        rw [if_pos rfl]
        refine callV_fn e.ref13_Read fun nd hnd => ?_
        simp (disch := first | omega | (simp only [mp_len, Nat.mul_one, Nat.one_mul, List.length_take, List.length_drop, List.length_append, List.length_set, List.length_cons, List.length_nil, List.length_replicate] <;> omega) | fail) [ref13_Read_B, hidB, wrap_i64, wrap_u64, wrap_u32, wrap_u16, wrap_u8, -List.getD_eq_getElem?_getD, -List.drop_drop, hl, h1, h2]
        iterate 6 (all_goals (try (refine iteV_split (fun h => ?_) (fun h => ?_) <;> (try rw [later_eq]) <;> (try simp only [decide_eq_true_eq, decide_eq_false_iff_not, Bool.not_eq_true', Bool.not_eq_false'] at h) <;> simp (disch := first | omega | (simp only [mp_len, Nat.mul_one, Nat.one_mul, List.length_take, List.length_drop, List.length_append, List.length_set, List.length_cons, List.length_nil, List.length_replicate] <;> omega) | fail) [h, hidB, wrap_i64, wrap_u64, wrap_u32, wrap_u16, wrap_u8, -List.getD_eq_getElem?_getD, -List.drop_drop, f0, f2])))
        all_goals (first | rfl | omega | (intros; omega) | (rw [Bool.eq_iff_iff]; simp [-List.getD_eq_getElem?_getD]; omega) | (rw [Bool.eq_iff_iff]; simp; done) | (split <;> first | (simp; done) | (exfalso; omega) | (simp_all; done) | (simp_all; omega)))
      · by_cases p17 : p = 17
        · subst p17
          have hl6 : leastS 17 = 8 := rfl
          rw [hl6] at hl h2
          rw [if_neg p6, if_pos rfl]
          refine callV_fn e.ref13_Read fun nd hnd => ?_
          simp (disch := first | omega | (simp only [mp_len, Nat.mul_one, Nat.one_mul, List.length_take, List.length_drop, List.length_append, List.length_set, List.length_cons, List.length_nil, List.length_replicate] <;> omega) | fail) [ref13_Read_B, hidB, wrap_i64, wrap_u64, wrap_u32, wrap_u16, wrap_u8, -List.getD_eq_getElem?_getD, -List.drop_drop, hl, h1, h2, f4]
          iterate 6 (all_goals (try (refine iteV_split (fun h => ?_) (fun h => ?_) <;> (try rw [later_eq]) <;> (try simp only [decide_eq_true_eq, decide_eq_false_iff_not, Bool.not_eq_true', Bool.not_eq_false'] at h) <;> simp (disch := first | omega | (simp only [mp_len, Nat.mul_one, Nat.one_mul, List.length_take, List.length_drop, List.length_append, List.length_set, List.length_cons, List.length_nil, List.length_replicate] <;> omega) | fail) [h, hidB, wrap_i64, wrap_u64, wrap_u32, wrap_u16, wrap_u8, -List.getD_eq_getElem?_getD, -List.drop_drop, f0, f2])))
          all_goals (first | rfl | omega | (intros; omega) | (rw [Bool.eq_iff_iff]; simp [-List.getD_eq_getElem?_getD]; omega) | (rw [Bool.eq_iff_iff]; simp; done) | (split <;> first | (simp; done) | (exfalso; omega) | (simp_all; done) | (simp_all; omega)))
        · rw [if_neg p6, if_neg p17]
          refine callV_fn e.ref13_Read fun nd hnd => ?_
          simp (disch := first | omega | (simp only [mp_len, Nat.mul_one, Nat.one_mul, List.length_take, List.length_drop, List.length_append, List.length_set, List.length_cons, List.length_nil, List.length_replicate] <;> omega) | fail) [ref13_Read_B, hidB, wrap_i64, wrap_u64, wrap_u32, wrap_u16, wrap_u8, -List.getD_eq_getElem?_getD, -List.drop_drop, hl, h1, h2, p6, p17, f0, f2]

include e in
theorem live : callV E "law13.live" [] [] = some ([rB true], [], []) := by
  rw [callV_prim e.law13_live]; rfl

include e e1 in
theorem law_PortsReads (B : Nat) (avs : List PV) (ha : PArgs B [.int .i64, .sl 1 1 (.int .u8), .bool] avs) :
    ∃ o ho, callV E "law13.PortsReads" (avs.map .v) [] = some ([rB true], o, ho) := by
  simp only [PArgs] at ha
  obtain ⟨v0, _, rfl, a0, v1, _, rfl, a1, v2, _, rfl, a2, rfl⟩ := ha
  obtain ⟨p, rfl, hp⟩ := pv_int a0
  obtain ⟨b, rfl, h256, hlen, _⟩ := pv_bytes a1
  obtain ⟨first, rfl⟩ := pv_bool a2
  have hp := wf_i64 hp
  have q1 := ports_Read e e1 b hlen h256 p hp first
  have q2 := ref13_Read e b hlen h256 p hp first
  have q3 := ports_Least e p hp
  have q4 := ref13_Least e p hp
  have hlive := live e
  refine ⟨[na, na, na], [], ?_⟩
  rw [List.map_cons, List.map_cons, List.map_cons, List.map_nil]
  refine callV_fn e.law13_PortsReads fun nd hnd => ?_
  simp (disch := first | omega | (simp only [mp_len, Nat.mul_one, Nat.one_mul, List.length_take, List.length_drop, List.length_append, List.length_set, List.length_cons, List.length_nil, List.length_replicate] <;> omega) | fail) [law13_PortsReads_B, hidB, wrap_i64, wrap_u64, wrap_u32, wrap_u16, wrap_u8, -List.getD_eq_getElem?_getD, -List.drop_drop, q1, q2, q3, q4, hlive]
end
end Go.Wb.P13

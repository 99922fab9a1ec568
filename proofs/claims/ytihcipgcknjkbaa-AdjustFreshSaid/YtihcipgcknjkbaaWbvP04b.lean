/- Chapter 4: a word put at a place of bytes. -/
import Derived.Test.YtihcipgcknjkbaaWbvP04
set_option maxRecDepth 100000
set_option linter.all false
namespace Go.Wb.P04
open Go Go.Wb Go.Wb.Code Go.Wb.P01 Go.Wb.P03

section
variable {E : EnvW} (e : WbvC04Env E) (e3 : WbvC03Env E) (ef : WbvC03fEnv E) (e1 : WbvC01Env E)

theorem getS_range {b : List Nat} (h : ∀ x ∈ b, x < 256) (a : Int) : (getS b a 2).1 < 65536 := by
  unfold getS
  split
  · have := num_lt ((b.drop a.toNat).take (2 : Int).toNat) (fun x hx => h x (List.mem_of_mem_drop (List.mem_of_mem_take hx)))
    refine Nat.lt_of_lt_of_le this ?_
    have h2 : ((b.drop a.toNat).take (2 : Int).toNat).length ≤ 2 := by rw [List.length_take]; exact Nat.min_le_left _ _
    exact Nat.pow_le_pow_right (by decide) h2
  · show 0 < 65536; decide

/-- What a word put at a place comes to. -/
def atS (b : List Nat) (f a w : Int) : List Nat × Int :=
  if f < 0 ∨ a < 0 ∨ f % 2 ≠ 0 ∨ a % 2 ≠ 0 ∨ f = a then ([], 1)
  else if (getS b f 2).2 ≠ 0 then ([], (getS b f 2).2)
  else if (getS b a 2).2 ≠ 0 then ([], (getS b a 2).2)
  else putS (putS b a 2 w.toNat).1 f 2 (cleanS (wordS (getS b f 2).1 (getS b a 2).1 w)).toNat

include e in
theorem adjust_even (a : Int) (ha : I64 a) : callV E "adjust.even" [vi a] [] = some ([rB (decide (0 ≤ a) && decide (a % 2 = 0))], [na], []) := by
  unfold I64 at ha
  by_cases h : 0 ≤ a
  · refine callV_fn e.adjust_even fun nd hnd => ?_
    simp (maxSteps := 1000000) (disch := first | omega | (simp only [mp_len, Nat.mul_one, Nat.one_mul, List.length_take, List.length_drop, List.length_append, List.length_set, List.length_cons, List.length_nil, List.length_replicate] <;> omega) | assumption | fail) [adjust_even_B, hidB, wrap_i64, IntKind.wrap_u64, IntKind.wrap_u32, wrap_u16, IntKind.wrap_u8, Int.emod_eq_of_lt, Int.tdiv_eq_ediv_of_nonneg, Int.tmod_eq_emod_of_nonneg, -List.getD_eq_getElem?_getD, -List.drop_drop, h]
  · refine callV_fn e.adjust_even fun nd hnd => ?_
    simp (maxSteps := 1000000) (disch := first | omega | (simp only [mp_len, Nat.mul_one, Nat.one_mul, List.length_take, List.length_drop, List.length_append, List.length_set, List.length_cons, List.length_nil, List.length_replicate] <;> omega) | assumption | fail) [adjust_even_B, hidB, wrap_i64, IntKind.wrap_u64, IntKind.wrap_u32, wrap_u16, IntKind.wrap_u8, Int.emod_eq_of_lt, Int.tdiv_eq_ediv_of_nonneg, Int.tmod_eq_emod_of_nonneg, -List.getD_eq_getElem?_getD, -List.drop_drop, h]

include e1 in
theorem At_loop (b : List Nat) (hb : b.length ≤ room) (h256 : ∀ x ∈ b, x < 256) (f a w : Int) (hf : I64 f) (ha : I64 a) :
    runV E (.loop [0, 1, 2, 3, 10, 32, 33] adjust_At_L0) (updT (updT (updT (updT (updT (updT (updT botT 33 (ti .i64 0)) 32 (.val (.agg [.sc (.int .i64 f), .sc (.int .i64 a)]))) 10 (.box [.v (.sc (.int .u16 0)), .v (.sc (.int .u16 0))])) 3 (ti .u16 w)) 2 (ti .i64 a)) 1 (ti .i64 f)) 0 (.val (.sl b.length (bp b)))) =
      if (getS b f 2).2 ≠ 0 then some (.ret, updT (updT botT 9 (ti .i64 (getS b f 2).2)) 8 (.own 0 1 []))
      else if (getS b a 2).2 ≠ 0 then some (.ret, updT (updT botT 9 (ti .i64 (getS b a 2).2)) 8 (.own 0 1 []))
      else some (.exit 0, updT (updT (updT (updT (updT botT 10 (.box [.v (.sc (.int .u16 (getS b f 2).1)), .v (.sc (.int .u16 (getS b a 2).1))])) 3 (ti .u16 w)) 2 (ti .i64 a)) 1 (ti .i64 f)) 0 (.val (.sl b.length (bp b)))) := by
  have q1 := octet_Get e1 b hb h256 f 2 hf (by unfold I64; omega)
  have q2 := octet_Get e1 b hb h256 a 2 ha (by unfold I64; omega)
  have g1 := getS_range h256 f
  have g2 := getS_range h256 a
  generalize getS b f 2 = x at *
  generalize getS b a 2 = y at *
  by_cases hx : x.2 = 0
  · rw [if_neg (by omega)]
    by_cases hy : y.2 = 0
    · rw [if_neg (by omega)]
      refine loop_go (by simp (maxSteps := 1000000) (disch := first | omega | (simp only [mp_len, Nat.mul_one, Nat.one_mul, List.length_take, List.length_drop, List.length_append, List.length_set, List.length_cons, List.length_nil, List.length_replicate] <;> omega) | assumption | fail) [adjust_At_L0, hidB, wrap_i64, IntKind.wrap_u64, IntKind.wrap_u32, wrap_u16, IntKind.wrap_u8, Int.emod_eq_of_lt, Int.tdiv_eq_ediv_of_nonneg, Int.tmod_eq_emod_of_nonneg, -List.getD_eq_getElem?_getD, -List.drop_drop, q1, q2, hx, hy]; rfl) ?_
      refine loop_go (by simp (maxSteps := 1000000) (disch := first | omega | (simp only [mp_len, Nat.mul_one, Nat.one_mul, List.length_take, List.length_drop, List.length_append, List.length_set, List.length_cons, List.length_nil, List.length_replicate] <;> omega) | assumption | fail) [adjust_At_L0, hidB, wrap_i64, IntKind.wrap_u64, IntKind.wrap_u32, wrap_u16, IntKind.wrap_u8, Int.emod_eq_of_lt, Int.tdiv_eq_ediv_of_nonneg, Int.tmod_eq_emod_of_nonneg, -List.getD_eq_getElem?_getD, -List.drop_drop, q1, q2, hx, hy]; rfl) ?_
      refine loop_out (by simp (maxSteps := 1000000) (disch := first | omega | (simp only [mp_len, Nat.mul_one, Nat.one_mul, List.length_take, List.length_drop, List.length_append, List.length_set, List.length_cons, List.length_nil, List.length_replicate] <;> omega) | assumption | fail) [adjust_At_L0, hidB, wrap_i64, IntKind.wrap_u64, IntKind.wrap_u32, wrap_u16, IntKind.wrap_u8, Int.emod_eq_of_lt, Int.tdiv_eq_ediv_of_nonneg, Int.tmod_eq_emod_of_nonneg, -List.getD_eq_getElem?_getD, -List.drop_drop, q1]; first | exact ⟨rfl, rfl⟩ | exact rfl) ?_ (by simp)
      rfl
    · rw [if_pos hy]
      refine loop_go (by simp (maxSteps := 1000000) (disch := first | omega | (simp only [mp_len, Nat.mul_one, Nat.one_mul, List.length_take, List.length_drop, List.length_append, List.length_set, List.length_cons, List.length_nil, List.length_replicate] <;> omega) | assumption | fail) [adjust_At_L0, hidB, wrap_i64, IntKind.wrap_u64, IntKind.wrap_u32, wrap_u16, IntKind.wrap_u8, Int.emod_eq_of_lt, Int.tdiv_eq_ediv_of_nonneg, Int.tmod_eq_emod_of_nonneg, -List.getD_eq_getElem?_getD, -List.drop_drop, q1, q2, hx, hy]; rfl) ?_
      refine loop_out (by simp (maxSteps := 1000000) (disch := first | omega | (simp only [mp_len, Nat.mul_one, Nat.one_mul, List.length_take, List.length_drop, List.length_append, List.length_set, List.length_cons, List.length_nil, List.length_replicate] <;> omega) | assumption | fail) [adjust_At_L0, hidB, wrap_i64, IntKind.wrap_u64, IntKind.wrap_u32, wrap_u16, IntKind.wrap_u8, Int.emod_eq_of_lt, Int.tdiv_eq_ediv_of_nonneg, Int.tmod_eq_emod_of_nonneg, -List.getD_eq_getElem?_getD, -List.drop_drop, q1, q2, hx, hy]; first | exact ⟨rfl, rfl⟩ | exact rfl) ?_ (by simp)
      rfl
  · rw [if_pos hx]
    refine loop_out (by simp (maxSteps := 1000000) (disch := first | omega | (simp only [mp_len, Nat.mul_one, Nat.one_mul, List.length_take, List.length_drop, List.length_append, List.length_set, List.length_cons, List.length_nil, List.length_replicate] <;> omega) | assumption | fail) [adjust_At_L0, hidB, wrap_i64, IntKind.wrap_u64, IntKind.wrap_u32, wrap_u16, IntKind.wrap_u8, Int.emod_eq_of_lt, Int.tdiv_eq_ediv_of_nonneg, Int.tmod_eq_emod_of_nonneg, -List.getD_eq_getElem?_getD, -List.drop_drop, q1, q2, hx]; first | exact ⟨rfl, rfl⟩ | exact rfl) ?_ (by simp)
    rfl

theorem spans_of_get {b : List Nat} {a : Int} (h : (getS b a 2).2 = 0) : spansE b.length a 2 = 0 := by
  unfold getS at h
  split at h
  · assumption
  · exact h
theorem put_of_get {b : List Nat} {a : Int} (h : (getS b a 2).2 = 0) {n : Nat} (hn : n < 65536) : (putS b a 2 n).2 = 0 := by
  have hs := spans_of_get h
  have : putE b.length a 2 n = 0 := by
    unfold putE
    rw [hs, if_neg]
    have : 256 ^ (2 : Int).toNat = 65536 := by decide
    rw [this]; omega
  unfold putS
  rw [if_pos this]

include e e1 e3 ef in
theorem adjust_At (b : List Nat) (hb : b.length ≤ room) (h256 : ∀ x ∈ b, x < 256) (f a w : Int) (hf : I64 f) (ha : I64 a) (hw : W16 w) :
    callV E "adjust.At" [vb b, vi f, vi a, vk .u16 w] [] = some ([ro (atS b f a w).1, ri (atS b f a w).2], [na, na, na, na], []) := by
  have q1 := adjust_even e f hf
  have q2 := adjust_even e a ha
  have hl := At_loop (E := E) e1 b hb h256 f a w hf ha
  have hr := wordS_range (c := (getS b f 2).1) (o := (getS b a 2).1) (n := w) (by have := getS_range h256 f; unfold W16; omega) (by have := getS_range h256 a; unfold W16; omega) hw
  have q3 := adjust_Word e e3 ef (getS b f 2).1 (getS b a 2).1 w (by have := getS_range h256 f; unfold W16; omega) (by have := getS_range h256 a; unfold W16; omega) hw
  have q4 := adjust_Clean e (wordS (getS b f 2).1 (getS b a 2).1 w)
  have hw0 : ((w.toNat : Nat) : Int) = w := by unfold W16 at hw; omega
  have hw1 : w.toNat < 65536 := by unfold W16 at hw; omega
  have q5 := octet_Put e1 b hb a 2 ha (by unfold I64; omega) w.toNat (by omega)
  rw [hw0] at q5
  have hcl : 0 ≤ cleanS (wordS (getS b f 2).1 (getS b a 2).1 w) ∧ cleanS (wordS (getS b f 2).1 (getS b a 2).1 w) < 65536 := by unfold cleanS; unfold W16 at hr; split <;> omega
  have hc0 : (((cleanS (wordS (getS b f 2).1 (getS b a 2).1 w)).toNat : Nat) : Int) = cleanS (wordS (getS b f 2).1 (getS b a 2).1 w) := by omega
  have q6 := octet_Put e1 (putS b a 2 w.toNat).1 (Nat.le_trans putS_len hb) f 2 hf (by unfold I64; omega) (cleanS (wordS (getS b f 2).1 (getS b a 2).1 w)).toNat (by omega)
  rw [hc0] at q6
  have hp := fun h => put_of_get (b := b) (a := a) (n := w.toNat) h hw1
  have hlen := putS_len (b := b) (a := a) (w := 2) (n := w.toNat)
  unfold atS
  unfold I64 at hf ha
  unfold W16 at hw
  unfold room at hb
  generalize putS (putS b a 2 w.toNat).1 f 2 (cleanS (wordS (getS b f 2).1 (getS b a 2).1 w)).toNat = r at *
  generalize cleanS (wordS (getS b f 2).1 (getS b a 2).1 w) = cl at *
  generalize wordS (getS b f 2).1 (getS b a 2).1 w = wd at *
  generalize putS b a 2 w.toNat = p at *
  by_cases h1 : 0 ≤ f
  · by_cases h2 : f % 2 = 0
    · by_cases h3 : 0 ≤ a
      · by_cases h4 : a % 2 = 0
        · by_cases h5 : f = a
          · rw [if_pos (by omega)]
            refine callV_fn e.adjust_At fun nd hnd => ?_
            simp (maxSteps := 1000000) (disch := first | omega | (simp only [mp_len, Nat.mul_one, Nat.one_mul, List.length_take, List.length_drop, List.length_append, List.length_set, List.length_cons, List.length_nil, List.length_replicate] <;> omega) | assumption | fail) [adjust_At_B, hidB, wrap_i64, IntKind.wrap_u64, IntKind.wrap_u32, wrap_u16, IntKind.wrap_u8, Int.emod_eq_of_lt, Int.tdiv_eq_ediv_of_nonneg, Int.tmod_eq_emod_of_nonneg, -List.getD_eq_getElem?_getD, -List.drop_drop, q1, q2, h1, h2, h3, h4, h5]
          · rw [if_neg (by omega)]
            by_cases h6 : (getS b f 2).2 = 0
            · rw [if_neg (by omega)] at hl
              rw [if_neg (by omega)]
              by_cases h7 : (getS b a 2).2 = 0
              · rw [if_neg (by omega)] at hl
                rw [if_neg (by omega)]
                have h8 := hp h7
                refine callV_fn e.adjust_At fun nd hnd => ?_
                simp (maxSteps := 1000000) (disch := first | omega | (simp only [mp_len, Nat.mul_one, Nat.one_mul, List.length_take, List.length_drop, List.length_append, List.length_set, List.length_cons, List.length_nil, List.length_replicate] <;> omega) | assumption | fail) [adjust_At_B, hidB, wrap_i64, IntKind.wrap_u64, IntKind.wrap_u32, wrap_u16, IntKind.wrap_u8, Int.emod_eq_of_lt, Int.tdiv_eq_ediv_of_nonneg, Int.tmod_eq_emod_of_nonneg, -List.getD_eq_getElem?_getD, -List.drop_drop, q1, q2, q3, q4, q5, q6, hl, h1, h2, h3, h4, h5, h8]
              · rw [if_pos h7] at hl
                rw [if_pos h7]
                refine callV_fn e.adjust_At fun nd hnd => ?_
                simp (maxSteps := 1000000) (disch := first | omega | (simp only [mp_len, Nat.mul_one, Nat.one_mul, List.length_take, List.length_drop, List.length_append, List.length_set, List.length_cons, List.length_nil, List.length_replicate] <;> omega) | assumption | fail) [adjust_At_B, hidB, wrap_i64, IntKind.wrap_u64, IntKind.wrap_u32, wrap_u16, IntKind.wrap_u8, Int.emod_eq_of_lt, Int.tdiv_eq_ediv_of_nonneg, Int.tmod_eq_emod_of_nonneg, -List.getD_eq_getElem?_getD, -List.drop_drop, q1, q2, hl, h1, h2, h3, h4, h5]
            · rw [if_pos h6] at hl
              rw [if_pos h6]
              refine callV_fn e.adjust_At fun nd hnd => ?_
              simp (maxSteps := 1000000) (disch := first | omega | (simp only [mp_len, Nat.mul_one, Nat.one_mul, List.length_take, List.length_drop, List.length_append, List.length_set, List.length_cons, List.length_nil, List.length_replicate] <;> omega) | assumption | fail) [adjust_At_B, hidB, wrap_i64, IntKind.wrap_u64, IntKind.wrap_u32, wrap_u16, IntKind.wrap_u8, Int.emod_eq_of_lt, Int.tdiv_eq_ediv_of_nonneg, Int.tmod_eq_emod_of_nonneg, -List.getD_eq_getElem?_getD, -List.drop_drop, q1, q2, hl, h1, h2, h3, h4, h5]
        · rw [if_pos (by omega)]
          refine callV_fn e.adjust_At fun nd hnd => ?_
          simp (maxSteps := 1000000) (disch := first | omega | (simp only [mp_len, Nat.mul_one, Nat.one_mul, List.length_take, List.length_drop, List.length_append, List.length_set, List.length_cons, List.length_nil, List.length_replicate] <;> omega) | assumption | fail) [adjust_At_B, hidB, wrap_i64, IntKind.wrap_u64, IntKind.wrap_u32, wrap_u16, IntKind.wrap_u8, Int.emod_eq_of_lt, Int.tdiv_eq_ediv_of_nonneg, Int.tmod_eq_emod_of_nonneg, -List.getD_eq_getElem?_getD, -List.drop_drop, q1, q2, h1, h2, h3, h4]
      · rw [if_pos (by omega)]
        refine callV_fn e.adjust_At fun nd hnd => ?_
        simp (maxSteps := 1000000) (disch := first | omega | (simp only [mp_len, Nat.mul_one, Nat.one_mul, List.length_take, List.length_drop, List.length_append, List.length_set, List.length_cons, List.length_nil, List.length_replicate] <;> omega) | assumption | fail) [adjust_At_B, hidB, wrap_i64, IntKind.wrap_u64, IntKind.wrap_u32, wrap_u16, IntKind.wrap_u8, Int.emod_eq_of_lt, Int.tdiv_eq_ediv_of_nonneg, Int.tmod_eq_emod_of_nonneg, -List.getD_eq_getElem?_getD, -List.drop_drop, q1, q2, h1, h2, h3]
    · rw [if_pos (by omega)]
      refine callV_fn e.adjust_At fun nd hnd => ?_
      simp (maxSteps := 1000000) (disch := first | omega | (simp only [mp_len, Nat.mul_one, Nat.one_mul, List.length_take, List.length_drop, List.length_append, List.length_set, List.length_cons, List.length_nil, List.length_replicate] <;> omega) | assumption | fail) [adjust_At_B, hidB, wrap_i64, IntKind.wrap_u64, IntKind.wrap_u32, wrap_u16, IntKind.wrap_u8, Int.emod_eq_of_lt, Int.tdiv_eq_ediv_of_nonneg, Int.tmod_eq_emod_of_nonneg, -List.getD_eq_getElem?_getD, -List.drop_drop, q1, q2, h1, h2]
  · rw [if_pos (by omega)]
    refine callV_fn e.adjust_At fun nd hnd => ?_
    simp (maxSteps := 1000000) (disch := first | omega | (simp only [mp_len, Nat.mul_one, Nat.one_mul, List.length_take, List.length_drop, List.length_append, List.length_set, List.length_cons, List.length_nil, List.length_replicate] <;> omega) | assumption | fail) [adjust_At_B, hidB, wrap_i64, IntKind.wrap_u64, IntKind.wrap_u32, wrap_u16, IntKind.wrap_u8, Int.emod_eq_of_lt, Int.tdiv_eq_ediv_of_nonneg, Int.tmod_eq_emod_of_nonneg, -List.getD_eq_getElem?_getD, -List.drop_drop, q1, q2, h1]

include e e1 e3 in
theorem ref04_At (b : List Nat) (hb : b.length ≤ room) (h256 : ∀ x ∈ b, x < 256) (f a w : Int) (hf : I64 f) (ha : I64 a) (hw : W16 w) :
    callV E "ref04.At" [vb b, vi f, vi a, vk .u16 w] [] = some ([ro (atS b f a w).1, ri (atS b f a w).2], [na, na, na, na], []) := by
  have r1 := getS_range h256 f
  have r2 := getS_range h256 a
  have q1 := ref01_Get e1 b hb h256 f 2 hf (by unfold I64; omega)
  have q2 := ref01_Get e1 b hb h256 a 2 ha (by unfold I64; omega)
  have hr := wordS_range (c := (getS b f 2).1) (o := (getS b a 2).1) (n := w) (by have := getS_range h256 f; unfold W16; omega) (by have := getS_range h256 a; unfold W16; omega) hw
  have q3 := ref04_Word e e3 (getS b f 2).1 (getS b a 2).1 w (by have := getS_range h256 f; unfold W16; omega) (by have := getS_range h256 a; unfold W16; omega) hw
  have q4 := ref04_Clean e (wordS (getS b f 2).1 (getS b a 2).1 w)
  have hw0 : ((w.toNat : Nat) : Int) = w := by unfold W16 at hw; omega
  have hw1 : w.toNat < 65536 := by unfold W16 at hw; omega
  have q5 := ref01_Put e1 b hb a 2 ha (by unfold I64; omega) w.toNat (by omega)
  rw [hw0] at q5
  have hcl : 0 ≤ cleanS (wordS (getS b f 2).1 (getS b a 2).1 w) ∧ cleanS (wordS (getS b f 2).1 (getS b a 2).1 w) < 65536 := by unfold cleanS; unfold W16 at hr; split <;> omega
  have hc0 : (((cleanS (wordS (getS b f 2).1 (getS b a 2).1 w)).toNat : Nat) : Int) = cleanS (wordS (getS b f 2).1 (getS b a 2).1 w) := by omega
  have q6 := ref01_Put e1 (putS b a 2 w.toNat).1 (Nat.le_trans putS_len hb) f 2 hf (by unfold I64; omega) (cleanS (wordS (getS b f 2).1 (getS b a 2).1 w)).toNat (by omega)
  rw [hc0] at q6
  have hlen := putS_len (b := b) (a := a) (w := 2) (n := w.toNat)
  unfold atS
  unfold I64 at hf ha
  unfold W16 at hw
  unfold room at hb
  generalize putS (putS b a 2 w.toNat).1 f 2 (cleanS (wordS (getS b f 2).1 (getS b a 2).1 w)).toNat = r at *
  generalize cleanS (wordS (getS b f 2).1 (getS b a 2).1 w) = cl at *
  generalize wordS (getS b f 2).1 (getS b a 2).1 w = wd at *
  generalize putS b a 2 w.toNat = p at *
  generalize getS b f 2 = x at *
  generalize getS b a 2 = y at *
  by_cases h1 : f < 0
  · rw [if_pos (by omega)]
    refine callV_fn e.ref04_At fun nd hnd => ?_
    simp (maxSteps := 1000000) (disch := first | omega | (simp only [mp_len, Nat.mul_one, Nat.one_mul, List.length_take, List.length_drop, List.length_append, List.length_set, List.length_cons, List.length_nil, List.length_replicate] <;> omega) | assumption | fail) [ref04_At_B, hidB, wrap_i64, IntKind.wrap_u64, IntKind.wrap_u32, wrap_u16, IntKind.wrap_u8, Int.emod_eq_of_lt, Int.tdiv_eq_ediv_of_nonneg, Int.tmod_eq_emod_of_nonneg, -List.getD_eq_getElem?_getD, -List.drop_drop, h1]
  · by_cases h2 : a < 0
    · rw [if_pos (by omega)]
      refine callV_fn e.ref04_At fun nd hnd => ?_
      simp (maxSteps := 1000000) (disch := first | omega | (simp only [mp_len, Nat.mul_one, Nat.one_mul, List.length_take, List.length_drop, List.length_append, List.length_set, List.length_cons, List.length_nil, List.length_replicate] <;> omega) | assumption | fail) [ref04_At_B, hidB, wrap_i64, IntKind.wrap_u64, IntKind.wrap_u32, wrap_u16, IntKind.wrap_u8, Int.emod_eq_of_lt, Int.tdiv_eq_ediv_of_nonneg, Int.tmod_eq_emod_of_nonneg, -List.getD_eq_getElem?_getD, -List.drop_drop, h1, h2]
    · by_cases h3 : f % 2 = 0
      · by_cases h4 : a % 2 = 0
        · by_cases h5 : f = a
          · rw [if_pos (by omega)]
            refine callV_fn e.ref04_At fun nd hnd => ?_
            simp (maxSteps := 1000000) (disch := first | omega | (simp only [mp_len, Nat.mul_one, Nat.one_mul, List.length_take, List.length_drop, List.length_append, List.length_set, List.length_cons, List.length_nil, List.length_replicate] <;> omega) | assumption | fail) [ref04_At_B, hidB, wrap_i64, IntKind.wrap_u64, IntKind.wrap_u32, wrap_u16, IntKind.wrap_u8, Int.emod_eq_of_lt, Int.tdiv_eq_ediv_of_nonneg, Int.tmod_eq_emod_of_nonneg, -List.getD_eq_getElem?_getD, -List.drop_drop, h1, h2, h3, h4, h5]
          · rw [if_neg (by omega)]
            by_cases h6 : x.2 = 0
            · rw [if_neg (by omega)]
              by_cases h7 : y.2 = 0
              · rw [if_neg (by omega)]
                refine callV_fn e.ref04_At fun nd hnd => ?_
                simp (maxSteps := 1000000) (disch := first | omega | (simp only [mp_len, Nat.mul_one, Nat.one_mul, List.length_take, List.length_drop, List.length_append, List.length_set, List.length_cons, List.length_nil, List.length_replicate] <;> omega) | assumption | fail) [ref04_At_B, hidB, wrap_i64, IntKind.wrap_u64, IntKind.wrap_u32, wrap_u16, IntKind.wrap_u8, Int.emod_eq_of_lt, Int.tdiv_eq_ediv_of_nonneg, Int.tmod_eq_emod_of_nonneg, -List.getD_eq_getElem?_getD, -List.drop_drop, q1, q2, q3, q4, q5, q6, h1, h2, h3, h4, h5, h6, h7]
              · rw [if_pos h7]
                refine callV_fn e.ref04_At fun nd hnd => ?_
                simp (maxSteps := 1000000) (disch := first | omega | (simp only [mp_len, Nat.mul_one, Nat.one_mul, List.length_take, List.length_drop, List.length_append, List.length_set, List.length_cons, List.length_nil, List.length_replicate] <;> omega) | assumption | fail) [ref04_At_B, hidB, wrap_i64, IntKind.wrap_u64, IntKind.wrap_u32, wrap_u16, IntKind.wrap_u8, Int.emod_eq_of_lt, Int.tdiv_eq_ediv_of_nonneg, Int.tmod_eq_emod_of_nonneg, -List.getD_eq_getElem?_getD, -List.drop_drop, q1, q2, h1, h2, h3, h4, h5, h6, h7]
            · rw [if_pos h6]
              refine callV_fn e.ref04_At fun nd hnd => ?_
              simp (maxSteps := 1000000) (disch := first | omega | (simp only [mp_len, Nat.mul_one, Nat.one_mul, List.length_take, List.length_drop, List.length_append, List.length_set, List.length_cons, List.length_nil, List.length_replicate] <;> omega) | assumption | fail) [ref04_At_B, hidB, wrap_i64, IntKind.wrap_u64, IntKind.wrap_u32, wrap_u16, IntKind.wrap_u8, Int.emod_eq_of_lt, Int.tdiv_eq_ediv_of_nonneg, Int.tmod_eq_emod_of_nonneg, -List.getD_eq_getElem?_getD, -List.drop_drop, q1, h1, h2, h3, h4, h5, h6]
        · rw [if_pos (by omega)]
          refine callV_fn e.ref04_At fun nd hnd => ?_
          simp (maxSteps := 1000000) (disch := first | omega | (simp only [mp_len, Nat.mul_one, Nat.one_mul, List.length_take, List.length_drop, List.length_append, List.length_set, List.length_cons, List.length_nil, List.length_replicate] <;> omega) | assumption | fail) [ref04_At_B, hidB, wrap_i64, IntKind.wrap_u64, IntKind.wrap_u32, wrap_u16, IntKind.wrap_u8, Int.emod_eq_of_lt, Int.tdiv_eq_ediv_of_nonneg, Int.tmod_eq_emod_of_nonneg, -List.getD_eq_getElem?_getD, -List.drop_drop, h1, h2, h3, h4]
      · rw [if_pos (by omega)]
        refine callV_fn e.ref04_At fun nd hnd => ?_
        simp (maxSteps := 1000000) (disch := first | omega | (simp only [mp_len, Nat.mul_one, Nat.one_mul, List.length_take, List.length_drop, List.length_append, List.length_set, List.length_cons, List.length_nil, List.length_replicate] <;> omega) | assumption | fail) [ref04_At_B, hidB, wrap_i64, IntKind.wrap_u64, IntKind.wrap_u32, wrap_u16, IntKind.wrap_u8, Int.emod_eq_of_lt, Int.tdiv_eq_ediv_of_nonneg, Int.tmod_eq_emod_of_nonneg, -List.getD_eq_getElem?_getD, -List.drop_drop, h1, h2, h3]

include e e1 e3 ef in
theorem law_AdjustAts (B : Nat) (avs : List PV) (ha : PArgs B [.sl 1 1 (.int .u8), .arr 2 (.int .i64), .int .u16] avs) :
    ∃ o ho, callV E "law04.AdjustAts" (avs.map .v) [] = some ([rB true], o, ho) := by
  simp only [PArgs] at ha
  obtain ⟨v0, _, rfl, a0, v1, _, rfl, a1, v2, _, rfl, a2, rfl⟩ := ha
  obtain ⟨b, rfl, h256, hlen, _⟩ := pv_bytesR a0
  obtain ⟨l1, hl1, rfl, hw1⟩ := pv_arr a1
  obtain ⟨w, rfl, hw⟩ := pv_int a2
  obtain ⟨p, q, rfl⟩ : ∃ p q, l1 = [p, q] := by
    match l1, hl1 with
    | [p, q], _ => exact ⟨p, q, rfl⟩
  have hp : I64 p := wf_i64 (hw1 p (by simp))
  have hq : I64 q := wf_i64 (hw1 q (by simp))
  have hw : W16 w := wf_u16 hw
  have q1 := adjust_At e e3 ef e1 b hlen h256 p q w hp hq hw
  have q2 := ref04_At e e3 e1 b hlen h256 p q w hp hq hw
  have q3 := ref01_Join1 e1 b hlen
  have q4 := ref01_SameBytes e1 b b hlen
  have hal : (atS b p q w).1.length ≤ b.length := by
    unfold atS
    split
    · simp
    · split
      · simp
      · split
        · simp
        · exact Nat.le_trans putS_len putS_len
  have q5 := ref01_SameBytes e1 (atS b p q w).1 (atS b p q w).1 (by omega)
  have hlive := live e
  generalize atS b p q w = z at *
  refine ⟨[na, na, na], [], ?_⟩
  rw [List.map_cons, List.map_cons, List.map_cons, List.map_nil, show mp (fun n : Int => PV.sc (.int .i64 n)) [p, q] = [.sc (.int .i64 p), .sc (.int .i64 q)] from rfl]
  unfold room at hlen
  refine callV_fn e.law04_AdjustAts fun nd hnd => ?_
  simp (maxSteps := 1000000) (disch := first | omega | (simp only [mp_len, Nat.mul_one, Nat.one_mul, List.length_take, List.length_drop, List.length_append, List.length_set, List.length_cons, List.length_nil, List.length_replicate] <;> omega) | assumption | fail) [law04_AdjustAts_B, hidB, wrap_i64, IntKind.wrap_u64, IntKind.wrap_u32, wrap_u16, IntKind.wrap_u8, Int.emod_eq_of_lt, Int.tdiv_eq_ediv_of_nonneg, Int.tmod_eq_emod_of_nonneg, -List.getD_eq_getElem?_getD, -List.drop_drop, q1, q2, q3, q4, q5, hlive]
end
end Go.Wb.P04

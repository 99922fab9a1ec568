/- Chapter 4: checksums made up for other words. -/
import Derived.Test.YtihcipgcknjkbaaWbvP03
import Derived.Test.YtihcipgcknjkbaaWbvP00
import Derived.Test.YtihcipgcknjkbaaWbvC04
set_option maxRecDepth 100000
set_option linter.all false
namespace Go.Wb.P04
open Go Go.Wb Go.Wb.Code Go.Wb.P01 Go.Wb.P03

/-! ### The plain law -/
def W16 (x : Int) : Prop := 0 ≤ x ∧ x < 65536
abbrev vw (l : List Int) : AV := .v (.sl l.length (kp .u16 l))

theorem foldS_add {x n : Int} (hx : 0 ≤ x) (hn : 0 ≤ n) : foldS (foldS x + n) = foldS (x + n) := by
  have h := foldS_mod hx
  have hz := foldS_zero hx
  have hr := foldS_range hx
  exact foldS_eq (by omega) (by omega) (by omega) (by omega)

def wordS (c o n : Int) : Int := 65535 - foldS (131070 - c - o + n)
def cleanS (c : Int) : Int := if c = 65535 then 0 else c
def wordsS : Int → List Int → List Int → Int
  | c, o :: os, n :: ns => wordsS (wordS c o n) os ns
  | c, _, _ => c
def addS : Int → List Int → Int
  | a, [] => a
  | a, x :: l => addS (foldS (a + x)) l

theorem wordS_range {c o n : Int} (hc : W16 c) (ho : W16 o) (hn : W16 n) : W16 (wordS c o n) := by
  unfold W16 wordS at *
  have := foldS_range (n := 131070 - c - o + n) (by omega)
  omega
theorem wordS_two {c o n o' n' : Int} (hc : W16 c) (ho : W16 o) (hn : W16 n) (ho' : W16 o') (hn' : W16 n') : wordS (wordS c o n) o' n' = 65535 - foldS (196605 - c - o + n - o' + n') := by
  unfold W16 wordS at *
  have := foldS_add (x := 131070 - c - o + n) (n := 65535 - o' + n') (by omega) (by omega)
  rw [show 131070 - (65535 - foldS (131070 - c - o + n)) - o' + n' = foldS (131070 - c - o + n) + (65535 - o' + n') by omega, this]
  congr 2
  omega
theorem wordS_swap {c o n o' n' : Int} (hc : W16 c) (ho : W16 o) (hn : W16 n) (ho' : W16 o') (hn' : W16 n') : wordS (wordS c o n) o' n' = wordS (wordS c o' n') o n := by
  rw [wordS_two hc ho hn ho' hn', wordS_two hc ho' hn' ho hn]
  congr 2
  omega
theorem wordS_back {c o n : Int} (hc : W16 c) (ho : W16 o) (hn : W16 n) : cleanS (wordS (wordS c o n) n o) = cleanS c := by
  rw [wordS_two hc ho hn hn ho]
  unfold W16 at *
  have h : foldS (196605 - c - o + n - n + o) = foldS (196605 - c) := by congr 1; omega
  rw [h]
  unfold cleanS foldS
  rw [if_neg (by omega)]
  split <;> split <;> omega

theorem memG {α : Type} [Inhabited α] {l : List α} {k : Nat} {d : α} (h : k < l.length) : l.getD k d ∈ l := by
  rw [List.getD_eq_getElem?_getD, List.getElem?_eq_getElem h]
  exact List.getElem_mem h
theorem dropG {l : List Int} {k : Nat} (h : k < l.length) : l.drop k = l.getD k 0 :: l.drop (k + 1) := by
  rw [List.drop_eq_getElem_cons h, List.getD_eq_getElem?_getD, List.getElem?_eq_getElem h]
  rfl

section
variable {E : EnvW} (e : WbvC04Env E) (e3 : WbvC03Env E) (ef : WbvC03fEnv E) (e1 : WbvC01Env E)

include e3 ef in
theorem added_loop (l : List Int) (hl : l.length ≤ room) (hw : ∀ x ∈ l, W16 x) : ∀ (m k : Nat) (a : Int), k + m = l.length → W16 a →
    runV E (.loop [0, 7, 8, 9] adjust_added_L0) (updT (updT (updT (updT botT 9 (ti .i64 k)) 8 (ti .i64 l.length)) 7 (.val (.sl l.length (kp .u16 l)))) 0 (ti .u16 a)) = some (.exit 0, updT botT 0 (ti .u16 (addS a (l.drop k))))
  | 0, k, a, hk, ha => by
    have hc : ¬ ((k : Int) < l.length) := by omega
    rw [List.drop_eq_nil_of_le (by omega)]
    refine loop_out (by simp (maxSteps := 1000000) (disch := first | omega | (simp only [mp_len, Nat.mul_one, Nat.one_mul, List.length_take, List.length_drop, List.length_append, List.length_set, List.length_cons, List.length_nil, List.length_replicate] <;> omega) | assumption | fail) [adjust_added_L0, hidB, wrap_i64, IntKind.wrap_u64, IntKind.wrap_u32, wrap_u16, IntKind.wrap_u8, Int.emod_eq_of_lt, Int.tdiv_eq_ediv_of_nonneg, Int.tmod_eq_emod_of_nonneg, -List.getD_eq_getElem?_getD, -List.drop_drop, hc]; first | exact ⟨rfl, rfl⟩ | exact rfl) ?_ (by simp)
    rfl
  | m + 1, k, a, hk, ha => by
    have hc : ((k : Int) < l.length) := by omega
    have hx := hw _ (memG (d := 0) (show k < l.length by omega))
    have hl0 := hl
    unfold room at hl
    have hadd := onesum_Add e3 ef a (l.getD k 0) ha hx
    have hr := foldS_range (n := a + l.getD k 0) (by unfold W16 at *; omega)
    unfold W16 at ha hx
    refine loop_go (by simp (maxSteps := 1000000) (disch := first | omega | (simp only [mp_len, Nat.mul_one, Nat.one_mul, List.length_take, List.length_drop, List.length_append, List.length_set, List.length_cons, List.length_nil, List.length_replicate] <;> omega) | assumption | fail) [adjust_added_L0, hidB, wrap_i64, IntKind.wrap_u64, IntKind.wrap_u32, wrap_u16, IntKind.wrap_u8, Int.emod_eq_of_lt, Int.tdiv_eq_ediv_of_nonneg, Int.tmod_eq_emod_of_nonneg, -List.getD_eq_getElem?_getD, -List.drop_drop, hc, hadd]; rfl) ?_
    rw [dropG (by omega)]
    exact added_loop l hl0 hw m (k + 1) _ (by omega) hr

include e e3 ef in
theorem adjust_added (a : Int) (ha : W16 a) (l : List Int) (hl : l.length ≤ room) (hw : ∀ x ∈ l, W16 x) : callV E "adjust.added" [vk .u16 a, vw l] [] = some ([rk .u16 (addS a l)], [na, na], []) := by
  have h := added_loop (E := E) e3 ef l hl hw l.length 0 a (by omega) ha
  rw [show ((0 : Nat) : Int) = 0 from rfl, List.drop_zero] at h
  refine callV_fn e.adjust_added fun nd hnd => ?_
  simp (maxSteps := 1000000) (disch := first | omega | (simp only [mp_len, Nat.mul_one, Nat.one_mul, List.length_take, List.length_drop, List.length_append, List.length_set, List.length_cons, List.length_nil, List.length_replicate] <;> omega) | assumption | fail) [adjust_added_B, hidB, wrap_i64, IntKind.wrap_u64, IntKind.wrap_u32, wrap_u16, IntKind.wrap_u8, Int.emod_eq_of_lt, Int.tdiv_eq_ediv_of_nonneg, Int.tmod_eq_emod_of_nonneg, -List.getD_eq_getElem?_getD, -List.drop_drop, h]

include e e3 ef in
theorem adjust_Word (c o n : Int) (hc : W16 c) (ho : W16 o) (hn : W16 n) : callV E "adjust.Word" [vk .u16 c, vk .u16 o, vk .u16 n] [] = some ([rk .u16 (wordS c o n)], [na, na, na], []) := by
  have h : callV E "adjust.added" [vk .u16 (65535 - c), .v (.sl 2 [.sc (.int .u16 (65535 - o)), .sc (.int .u16 n)])] [] = _ := adjust_added e e3 ef (65535 - c) (by unfold W16 at *; omega) [65535 - o, n] (by show 2 ≤ room; decide) (by simp only [List.mem_cons, List.not_mem_nil, or_false]; unfold W16 at *; rintro x (rfl | rfl); omega; omega)
  have hs : addS (65535 - c) [65535 - o, n] = 65535 - wordS c o n := by
    unfold W16 wordS at *
    have := foldS_add (x := 65535 - c + (65535 - o)) (n := n) (by omega) (by omega)
    simp only [addS]
    rw [this]
    have : 65535 - c + (65535 - o) + n = 131070 - c - o + n := by omega
    rw [this]; omega
  rw [hs] at h
  have hr := wordS_range hc ho hn
  unfold W16 at hc ho hn hr
  generalize wordS c o n = q at *
  refine callV_fn e.adjust_Word fun nd hnd => ?_
  simp (maxSteps := 1000000) (disch := first | omega | (simp only [mp_len, Nat.mul_one, Nat.one_mul, List.length_take, List.length_drop, List.length_append, List.length_set, List.length_cons, List.length_nil, List.length_replicate] <;> omega) | assumption | fail) [adjust_Word_B, hidB, wrap_i64, IntKind.wrap_u64, IntKind.wrap_u32, wrap_u16, IntKind.wrap_u8, Int.emod_eq_of_lt, Int.tdiv_eq_ediv_of_nonneg, Int.tmod_eq_emod_of_nonneg, -List.getD_eq_getElem?_getD, -List.drop_drop, h]
  omega

include e e3 in
theorem ref04_Word (c o n : Int) (hc : W16 c) (ho : W16 o) (hn : W16 n) : callV E "ref04.Word" [vk .u16 c, vk .u16 o, vk .u16 n] [] = some ([rk .u16 (wordS c o n)], [na, na, na], []) := by
  have h1 := ref03_Add e3 (65535 - c) (65535 - o) (by unfold W16 at *; omega) (by unfold W16 at *; omega)
  have hr1 := foldS_range (n := 65535 - c + (65535 - o)) (by unfold W16 at *; omega)
  have h2 := ref03_Add e3 (foldS (65535 - c + (65535 - o))) n hr1 hn
  have hs : foldS (foldS (65535 - c + (65535 - o)) + n) = 65535 - wordS c o n := by
    unfold W16 wordS at *
    rw [foldS_add (by omega) (by omega)]
    have : 65535 - c + (65535 - o) + n = 131070 - c - o + n := by omega
    rw [this]; omega
  rw [hs] at h2
  have hr := wordS_range hc ho hn
  unfold W16 at hc ho hn hr
  generalize foldS (65535 - c + (65535 - o)) = p at *
  generalize wordS c o n = q at *
  refine callV_fn e.ref04_Word fun nd hnd => ?_
  simp (maxSteps := 1000000) (disch := first | omega | (simp only [mp_len, Nat.mul_one, Nat.one_mul, List.length_take, List.length_drop, List.length_append, List.length_set, List.length_cons, List.length_nil, List.length_replicate] <;> omega) | assumption | fail) [ref04_Word_B, hidB, wrap_i64, IntKind.wrap_u64, IntKind.wrap_u32, wrap_u16, IntKind.wrap_u8, Int.emod_eq_of_lt, Int.tdiv_eq_ediv_of_nonneg, Int.tmod_eq_emod_of_nonneg, -List.getD_eq_getElem?_getD, -List.drop_drop, h1, h2]
  omega

include e in
theorem adjust_Clean (c : Int) : callV E "adjust.Clean" [vk .u16 c] [] = some ([rk .u16 (cleanS c)], [na], []) := by
  unfold cleanS
  by_cases h : c = 65535
  · rw [if_pos h]
    subst h
    refine callV_fn e.adjust_Clean fun nd hnd => ?_
    simp (maxSteps := 1000000) (disch := first | omega | (simp only [mp_len, Nat.mul_one, Nat.one_mul, List.length_take, List.length_drop, List.length_append, List.length_set, List.length_cons, List.length_nil, List.length_replicate] <;> omega) | assumption | fail) [adjust_Clean_B, hidB, wrap_i64, IntKind.wrap_u64, IntKind.wrap_u32, wrap_u16, IntKind.wrap_u8, Int.emod_eq_of_lt, Int.tdiv_eq_ediv_of_nonneg, Int.tmod_eq_emod_of_nonneg, -List.getD_eq_getElem?_getD, -List.drop_drop]
  · rw [if_neg h]
    refine callV_fn e.adjust_Clean fun nd hnd => ?_
    simp (maxSteps := 1000000) (disch := first | omega | (simp only [mp_len, Nat.mul_one, Nat.one_mul, List.length_take, List.length_drop, List.length_append, List.length_set, List.length_cons, List.length_nil, List.length_replicate] <;> omega) | assumption | fail) [adjust_Clean_B, hidB, wrap_i64, IntKind.wrap_u64, IntKind.wrap_u32, wrap_u16, IntKind.wrap_u8, Int.emod_eq_of_lt, Int.tdiv_eq_ediv_of_nonneg, Int.tmod_eq_emod_of_nonneg, -List.getD_eq_getElem?_getD, -List.drop_drop, h]

include e in
theorem ref04_Clean (c : Int) : callV E "ref04.Clean" [vk .u16 c] [] = some ([rk .u16 (cleanS c)], [na], []) := by
  unfold cleanS
  by_cases h : c = 65535
  · rw [if_pos h]
    subst h
    refine callV_fn e.ref04_Clean fun nd hnd => ?_
    simp (maxSteps := 1000000) (disch := first | omega | (simp only [mp_len, Nat.mul_one, Nat.one_mul, List.length_take, List.length_drop, List.length_append, List.length_set, List.length_cons, List.length_nil, List.length_replicate] <;> omega) | assumption | fail) [ref04_Clean_B, hidB, wrap_i64, IntKind.wrap_u64, IntKind.wrap_u32, wrap_u16, IntKind.wrap_u8, Int.emod_eq_of_lt, Int.tdiv_eq_ediv_of_nonneg, Int.tmod_eq_emod_of_nonneg, -List.getD_eq_getElem?_getD, -List.drop_drop]
  · rw [if_neg h]
    refine callV_fn e.ref04_Clean fun nd hnd => ?_
    simp (maxSteps := 1000000) (disch := first | omega | (simp only [mp_len, Nat.mul_one, Nat.one_mul, List.length_take, List.length_drop, List.length_append, List.length_set, List.length_cons, List.length_nil, List.length_replicate] <;> omega) | assumption | fail) [ref04_Clean_B, hidB, wrap_i64, IntKind.wrap_u64, IntKind.wrap_u32, wrap_u16, IntKind.wrap_u8, Int.emod_eq_of_lt, Int.tdiv_eq_ediv_of_nonneg, Int.tmod_eq_emod_of_nonneg, -List.getD_eq_getElem?_getD, -List.drop_drop, h]

include e e3 ef in
theorem Words_loop (os ns : List Int) (hl : os.length ≤ room) (hn : ns.length = os.length) (ho : ∀ x ∈ os, W16 x) (hw : ∀ x ∈ ns, W16 x) : ∀ (m k : Nat) (c : Int), k + m = os.length → W16 c →
    runV E (.loop [0, 2, 15, 16, 17] adjust_Words_L0) (updT (updT (updT (updT (updT botT 17 (ti .i64 k)) 16 (ti .i64 os.length)) 15 (.val (.sl os.length (kp .u16 os)))) 2 (.val (.sl os.length (kp .u16 ns)))) 0 (ti .u16 c)) = some (.exit 0, updT botT 0 (ti .u16 (wordsS c (os.drop k) (ns.drop k))))
  | 0, k, c, hk, hc' => by
    have hc : ¬ ((k : Int) < os.length) := by omega
    rw [List.drop_eq_nil_of_le (by omega)]
    refine loop_out (by simp (maxSteps := 1000000) (disch := first | omega | (simp only [mp_len, Nat.mul_one, Nat.one_mul, List.length_take, List.length_drop, List.length_append, List.length_set, List.length_cons, List.length_nil, List.length_replicate] <;> omega) | assumption | fail) [adjust_Words_L0, hidB, wrap_i64, IntKind.wrap_u64, IntKind.wrap_u32, wrap_u16, IntKind.wrap_u8, Int.emod_eq_of_lt, Int.tdiv_eq_ediv_of_nonneg, Int.tmod_eq_emod_of_nonneg, -List.getD_eq_getElem?_getD, -List.drop_drop, hc]; first | exact ⟨rfl, rfl⟩ | exact rfl) ?_ (by simp)
    simp only [wordsS]
  | m + 1, k, c, hk, hc' => by
    have hc : ((k : Int) < os.length) := by omega
    have hx := ho _ (memG (d := 0) (show k < os.length by omega))
    have hy := hw _ (memG (d := 0) (show k < ns.length by omega))
    have hl0 := hl
    unfold room at hl
    have h := adjust_Word e e3 ef c (os.getD k 0) (ns.getD k 0) hc' hx hy
    have hr := wordS_range hc' hx hy
    refine loop_go (by simp (maxSteps := 1000000) (disch := first | omega | (simp only [mp_len, Nat.mul_one, Nat.one_mul, List.length_take, List.length_drop, List.length_append, List.length_set, List.length_cons, List.length_nil, List.length_replicate] <;> omega) | assumption | fail) [adjust_Words_L0, hidB, wrap_i64, IntKind.wrap_u64, IntKind.wrap_u32, wrap_u16, IntKind.wrap_u8, Int.emod_eq_of_lt, Int.tdiv_eq_ediv_of_nonneg, Int.tmod_eq_emod_of_nonneg, -List.getD_eq_getElem?_getD, -List.drop_drop, hc, h]; rfl) ?_
    rw [dropG (by omega), dropG (l := ns) (by omega), wordsS]
    exact Words_loop os ns hl0 hn ho hw m (k + 1) _ (by omega) hr

include e e3 in
theorem ref_Words_loop (os ns : List Int) (hl : os.length ≤ room) (hn : ns.length = os.length) (ho : ∀ x ∈ os, W16 x) (hw : ∀ x ∈ ns, W16 x) : ∀ (m k : Nat) (c : Int), k + m = os.length → W16 c →
    runV E (.loop [0, 1, 2, 8] ref04_Words_L0) (updT (updT (updT (updT botT 8 (ti .i64 k)) 2 (.val (.sl os.length (kp .u16 ns)))) 1 (.val (.sl os.length (kp .u16 os)))) 0 (ti .u16 c)) = some (.exit 0, updT botT 0 (ti .u16 (wordsS c (os.drop k) (ns.drop k))))
  | 0, k, c, hk, hc' => by
    have hc : ¬ ((k : Int) < os.length) := by omega
    rw [List.drop_eq_nil_of_le (by omega)]
    refine loop_out (by simp (maxSteps := 1000000) (disch := first | omega | (simp only [mp_len, Nat.mul_one, Nat.one_mul, List.length_take, List.length_drop, List.length_append, List.length_set, List.length_cons, List.length_nil, List.length_replicate] <;> omega) | assumption | fail) [ref04_Words_L0, hidB, wrap_i64, IntKind.wrap_u64, IntKind.wrap_u32, wrap_u16, IntKind.wrap_u8, Int.emod_eq_of_lt, Int.tdiv_eq_ediv_of_nonneg, Int.tmod_eq_emod_of_nonneg, -List.getD_eq_getElem?_getD, -List.drop_drop, hc]; first | exact ⟨rfl, rfl⟩ | exact rfl) ?_ (by simp)
    simp only [wordsS]
  | m + 1, k, c, hk, hc' => by
    have hc : ((k : Int) < os.length) := by omega
    have hx := ho _ (memG (d := 0) (show k < os.length by omega))
    have hy := hw _ (memG (d := 0) (show k < ns.length by omega))
    have hl0 := hl
    unfold room at hl
    have h := ref04_Word e e3 c (os.getD k 0) (ns.getD k 0) hc' hx hy
    have hr := wordS_range hc' hx hy
    refine loop_go (by simp (maxSteps := 1000000) (disch := first | omega | (simp only [mp_len, Nat.mul_one, Nat.one_mul, List.length_take, List.length_drop, List.length_append, List.length_set, List.length_cons, List.length_nil, List.length_replicate] <;> omega) | assumption | fail) [ref04_Words_L0, hidB, wrap_i64, IntKind.wrap_u64, IntKind.wrap_u32, wrap_u16, IntKind.wrap_u8, Int.emod_eq_of_lt, Int.tdiv_eq_ediv_of_nonneg, Int.tmod_eq_emod_of_nonneg, -List.getD_eq_getElem?_getD, -List.drop_drop, hc, h]; rfl) ?_
    rw [dropG (by omega), dropG (l := ns) (by omega), wordsS]
    exact ref_Words_loop os ns hl0 hn ho hw m (k + 1) _ (by omega) hr

/-- Words' answer. -/
def wordsR (c : Int) (os ns : List Int) : Int × Int := if os.length = ns.length then (wordsS c os ns, 0) else (0, 2)

include e e3 ef in
theorem adjust_Words (c : Int) (hc : W16 c) (os ns : List Int) (hl : os.length ≤ room) (hl' : ns.length ≤ room) (ho : ∀ x ∈ os, W16 x) (hw : ∀ x ∈ ns, W16 x) :
    callV E "adjust.Words" [vk .u16 c, vw os, vw ns] [] = some ([rk .u16 (wordsR c os ns).1, ri (wordsR c os ns).2], [na, na, na], []) := by
  unfold wordsR
  by_cases h : os.length = ns.length
  · have hh := Words_loop (E := E) e e3 ef os ns hl h.symm ho hw os.length 0 c (by omega) hc
    rw [show ((0 : Nat) : Int) = 0 from rfl, List.drop_zero, List.drop_zero] at hh
    rw [if_pos h]
    have h' := h.symm
    refine callV_fn e.adjust_Words fun nd hnd => ?_
    simp (maxSteps := 1000000) (disch := first | omega | (simp only [mp_len, Nat.mul_one, Nat.one_mul, List.length_take, List.length_drop, List.length_append, List.length_set, List.length_cons, List.length_nil, List.length_replicate] <;> omega) | assumption | fail) [adjust_Words_B, hidB, wrap_i64, IntKind.wrap_u64, IntKind.wrap_u32, wrap_u16, IntKind.wrap_u8, Int.emod_eq_of_lt, Int.tdiv_eq_ediv_of_nonneg, Int.tmod_eq_emod_of_nonneg, -List.getD_eq_getElem?_getD, -List.drop_drop, hh, h']
  · rw [if_neg h]
    have h1 : ¬ ((os.length : Int) = ns.length) := by omega
    refine callV_fn e.adjust_Words fun nd hnd => ?_
    simp (maxSteps := 1000000) (disch := first | omega | (simp only [mp_len, Nat.mul_one, Nat.one_mul, List.length_take, List.length_drop, List.length_append, List.length_set, List.length_cons, List.length_nil, List.length_replicate] <;> omega) | assumption | fail) [adjust_Words_B, hidB, wrap_i64, IntKind.wrap_u64, IntKind.wrap_u32, wrap_u16, IntKind.wrap_u8, Int.emod_eq_of_lt, Int.tdiv_eq_ediv_of_nonneg, Int.tmod_eq_emod_of_nonneg, -List.getD_eq_getElem?_getD, -List.drop_drop, h, h1]

include e e3 in
theorem ref04_Words (c : Int) (hc : W16 c) (os ns : List Int) (hl : os.length ≤ room) (hl' : ns.length ≤ room) (ho : ∀ x ∈ os, W16 x) (hw : ∀ x ∈ ns, W16 x) :
    callV E "ref04.Words" [vk .u16 c, vw os, vw ns] [] = some ([rk .u16 (wordsR c os ns).1, ri (wordsR c os ns).2], [na, na, na], []) := by
  unfold wordsR
  by_cases h : os.length = ns.length
  · have hh := ref_Words_loop (E := E) e e3 os ns hl h.symm ho hw os.length 0 c (by omega) hc
    rw [show ((0 : Nat) : Int) = 0 from rfl, List.drop_zero, List.drop_zero] at hh
    rw [if_pos h]
    have h' := h.symm
    refine callV_fn e.ref04_Words fun nd hnd => ?_
    simp (maxSteps := 1000000) (disch := first | omega | (simp only [mp_len, Nat.mul_one, Nat.one_mul, List.length_take, List.length_drop, List.length_append, List.length_set, List.length_cons, List.length_nil, List.length_replicate] <;> omega) | assumption | fail) [ref04_Words_B, hidB, wrap_i64, IntKind.wrap_u64, IntKind.wrap_u32, wrap_u16, IntKind.wrap_u8, Int.emod_eq_of_lt, Int.tdiv_eq_ediv_of_nonneg, Int.tmod_eq_emod_of_nonneg, -List.getD_eq_getElem?_getD, -List.drop_drop, hh, h']
  · rw [if_neg h]
    have h1 : ¬ ((os.length : Int) = ns.length) := by omega
    refine callV_fn e.ref04_Words fun nd hnd => ?_
    simp (maxSteps := 1000000) (disch := first | omega | (simp only [mp_len, Nat.mul_one, Nat.one_mul, List.length_take, List.length_drop, List.length_append, List.length_set, List.length_cons, List.length_nil, List.length_replicate] <;> omega) | assumption | fail) [ref04_Words_B, hidB, wrap_i64, IntKind.wrap_u64, IntKind.wrap_u32, wrap_u16, IntKind.wrap_u8, Int.emod_eq_of_lt, Int.tdiv_eq_ediv_of_nonneg, Int.tmod_eq_emod_of_nonneg, -List.getD_eq_getElem?_getD, -List.drop_drop, h, h1]

include e in
theorem live : callV E "law04.live" [] [] = some ([rB true], [], []) := by
  rw [callV_prim e.law04_live]; rfl

include e e3 ef in
theorem law_Words_loop (c : Int) (hc' : W16 c) (os ns : List Int) (hl : os.length ≤ room) (hl' : ns.length ≤ room) (ho : ∀ x ∈ os, W16 x) (hw : ∀ x ∈ ns, W16 x) : ∀ (m k : Nat), k + m = min os.length ns.length →
    runV E (.loop [0, 1, 2, 11] law04_AdjustWords_L0) (updT (updT (updT (updT botT 11 (ti .i64 k)) 2 (.val (.sl ns.length (kp .u16 ns)))) 1 (.val (.sl os.length (kp .u16 os)))) 0 (ti .u16 c)) = some (.exit 0, botT)
  | 0, k, hk => by
    by_cases h1 : (k : Int) < os.length
    · have h2 : ¬ (k : Int) < ns.length := by omega
      refine loop_out (by simp (maxSteps := 1000000) (disch := first | omega | (simp only [mp_len, Nat.mul_one, Nat.one_mul, List.length_take, List.length_drop, List.length_append, List.length_set, List.length_cons, List.length_nil, List.length_replicate] <;> omega) | assumption | fail) [law04_AdjustWords_L0, hidB, wrap_i64, IntKind.wrap_u64, IntKind.wrap_u32, wrap_u16, IntKind.wrap_u8, Int.emod_eq_of_lt, Int.tdiv_eq_ediv_of_nonneg, Int.tmod_eq_emod_of_nonneg, -List.getD_eq_getElem?_getD, -List.drop_drop, h1, h2]; first | exact ⟨rfl, rfl⟩ | exact rfl) ?_ (by simp)
      rfl
    · refine loop_out (by simp (maxSteps := 1000000) (disch := first | omega | (simp only [mp_len, Nat.mul_one, Nat.one_mul, List.length_take, List.length_drop, List.length_append, List.length_set, List.length_cons, List.length_nil, List.length_replicate] <;> omega) | assumption | fail) [law04_AdjustWords_L0, hidB, wrap_i64, IntKind.wrap_u64, IntKind.wrap_u32, wrap_u16, IntKind.wrap_u8, Int.emod_eq_of_lt, Int.tdiv_eq_ediv_of_nonneg, Int.tmod_eq_emod_of_nonneg, -List.getD_eq_getElem?_getD, -List.drop_drop, h1]; first | exact ⟨rfl, rfl⟩ | exact rfl) ?_ (by simp)
      rfl
  | m + 1, k, hk => by
    have h1 : (k : Int) < os.length := by omega
    have h2 : (k : Int) < ns.length := by omega
    have hx := ho _ (memG (d := 0) (show k < os.length by omega))
    have hy := hw _ (memG (d := 0) (show k < ns.length by omega))
    have hl0 := hl
    have hl0' := hl'
    unfold room at hl hl'
    have q1 := adjust_Word e e3 ef c (os.getD k 0) (ns.getD k 0) hc' hx hy
    have q2 := ref04_Word e e3 c (os.getD k 0) (ns.getD k 0) hc' hx hy
    refine loop_go (by simp (maxSteps := 1000000) (disch := first | omega | (simp only [mp_len, Nat.mul_one, Nat.one_mul, List.length_take, List.length_drop, List.length_append, List.length_set, List.length_cons, List.length_nil, List.length_replicate] <;> omega) | assumption | fail) [law04_AdjustWords_L0, hidB, wrap_i64, IntKind.wrap_u64, IntKind.wrap_u32, wrap_u16, IntKind.wrap_u8, Int.emod_eq_of_lt, Int.tdiv_eq_ediv_of_nonneg, Int.tmod_eq_emod_of_nonneg, -List.getD_eq_getElem?_getD, -List.drop_drop, h1, h2, q1, q2]; rfl) ?_
    exact law_Words_loop c hc' os ns hl0 hl0' ho hw m (k + 1) (by omega)

include e e3 ef in
theorem law_AdjustWords (B : Nat) (avs : List PV) (ha : PArgs B [.int .u16, .sl 1 2 (.int .u16), .sl 1 2 (.int .u16)] avs) :
    ∃ o ho, callV E "law04.AdjustWords" (avs.map .v) [] = some ([rB true], o, ho) := by
  simp only [PArgs] at ha
  obtain ⟨v0, _, rfl, a0, v1, _, rfl, a1, v2, _, rfl, a2, rfl⟩ := ha
  obtain ⟨c, rfl, hc⟩ := pv_int a0
  obtain ⟨os, rfl, ho, hl, _⟩ := pv_slR a1
  obtain ⟨ns, rfl, hw, hl', _⟩ := pv_slR a2
  have hc : W16 c := wf_u16 hc
  have ho : ∀ x ∈ os, W16 x := fun x hx => wf_u16 (ho x hx)
  have hw : ∀ x ∈ ns, W16 x := fun x hx => wf_u16 (hw x hx)
  have hl : os.length ≤ room := by omega
  have hl' : ns.length ≤ room := by omega
  have q1 := adjust_Words e e3 ef c hc os ns hl hl' ho hw
  have q2 := ref04_Words e e3 c hc os ns hl hl' ho hw
  have q3 := adjust_Clean e c
  have q4 := ref04_Clean e c
  have q5 := law_Words_loop (E := E) e e3 ef c hc os ns hl hl' ho hw (min os.length ns.length) 0 (by omega)
  rw [show ((0 : Nat) : Int) = 0 from rfl] at q5
  have hlive := live e
  generalize wordsR c os ns = z at *
  refine ⟨[na, na, na], [], ?_⟩
  rw [List.map_cons, List.map_cons, List.map_cons, List.map_nil]
  unfold room at hl hl'
  refine callV_fn e.law04_AdjustWords fun nd hnd => ?_
  simp (maxSteps := 1000000) (disch := first | omega | (simp only [mp_len, Nat.mul_one, Nat.one_mul, List.length_take, List.length_drop, List.length_append, List.length_set, List.length_cons, List.length_nil, List.length_replicate] <;> omega) | assumption | fail) [law04_AdjustWords_B, hidB, wrap_i64, IntKind.wrap_u64, IntKind.wrap_u32, wrap_u16, IntKind.wrap_u8, Int.emod_eq_of_lt, Int.tdiv_eq_ediv_of_nonneg, Int.tmod_eq_emod_of_nonneg, -List.getD_eq_getElem?_getD, -List.drop_drop, q1, q2, q3, q4, q5, hlive]

include e e3 ef in
theorem law_AdjustBack (B : Nat) (avs : List PV) (ha : PArgs B [.int .u16, .arr 2 (.int .u16), .arr 2 (.int .u16)] avs) :
    ∃ o ho, callV E "law04.AdjustBack" (avs.map .v) [] = some ([rB true], o, ho) := by
  simp only [PArgs] at ha
  obtain ⟨v0, _, rfl, a0, v1, _, rfl, a1, v2, _, rfl, a2, rfl⟩ := ha
  obtain ⟨c, rfl, hc⟩ := pv_int a0
  obtain ⟨l1, hl1, rfl, hw1⟩ := pv_arr a1
  obtain ⟨l2, hl2, rfl, hw2⟩ := pv_arr a2
  obtain ⟨o, o', rfl⟩ : ∃ p q, l1 = [p, q] := by
    match l1, hl1 with
    | [p, q], _ => exact ⟨p, q, rfl⟩
  obtain ⟨n, n', rfl⟩ : ∃ p q, l2 = [p, q] := by
    match l2, hl2 with
    | [p, q], _ => exact ⟨p, q, rfl⟩
  have hc : W16 c := wf_u16 hc
  have ho : W16 o := wf_u16 (hw1 o (by simp))
  have ho' : W16 o' := wf_u16 (hw1 o' (by simp))
  have hn : W16 n := wf_u16 (hw2 n (by simp))
  have hn' : W16 n' := wf_u16 (hw2 n' (by simp))
  have two : ∀ {x y : Int}, W16 x → W16 y → ∀ z ∈ [x, y], W16 z := by
    intro x y hx hy z hz
    simp only [List.mem_cons, List.not_mem_nil, or_false] at hz
    rcases hz with rfl | rfl
    · exact hx
    · exact hy
  have h2 : 2 ≤ room := by decide
  have q1 := adjust_Word e e3 ef c o n hc ho hn
  have q2 := adjust_Word e e3 ef (wordS c o n) n o (wordS_range hc ho hn) hn ho
  have q3 : callV E "adjust.Words" [vk .u16 c, .v (.sl 2 [.sc (.int .u16 o), .sc (.int .u16 o')]), .v (.sl 2 [.sc (.int .u16 n), .sc (.int .u16 n')])] [] = _ := adjust_Words e e3 ef c hc [o, o'] [n, n'] h2 h2 (two ho ho') (two hn hn')
  have q4 : callV E "adjust.Words" [vk .u16 c, .v (.sl 2 [.sc (.int .u16 o'), .sc (.int .u16 o)]), .v (.sl 2 [.sc (.int .u16 n'), .sc (.int .u16 n)])] [] = _ := adjust_Words e e3 ef c hc [o', o] [n', n] h2 h2 (two ho' ho) (two hn' hn)
  have r3 : wordsR c [o, o'] [n, n'] = (wordS (wordS c o n) o' n', 0) := rfl
  have r4 : wordsR c [o', o] [n', n] = (wordS (wordS c o n) o' n', 0) := by
    rw [wordS_swap hc ho hn ho' hn']; rfl
  rw [r3] at q3
  rw [r4] at q4
  have q5 := adjust_Clean e (wordS (wordS c o n) n o)
  rw [wordS_back hc ho hn] at q5
  have q6 := adjust_Clean e c
  have q7 := adjust_Clean e (wordS (wordS c o n) o' n')
  have hlive := live e
  generalize wordS (wordS c o n) o' n' = u at *
  generalize wordS (wordS c o n) n o = v at *
  generalize wordS c o n = w at *
  generalize cleanS u = cu at *
  generalize cleanS c = cc at *
  refine ⟨[na, na, na], [], ?_⟩
  rw [List.map_cons, List.map_cons, List.map_cons, List.map_nil, show mp (fun n : Int => PV.sc (.int .u16 n)) [o, o'] = [.sc (.int .u16 o), .sc (.int .u16 o')] from rfl, show mp (fun n : Int => PV.sc (.int .u16 n)) [n, n'] = [.sc (.int .u16 n), .sc (.int .u16 n')] from rfl]
  refine callV_fn e.law04_AdjustBack fun nd hnd => ?_
  simp (maxSteps := 1000000) (disch := first | omega | (simp only [mp_len, Nat.mul_one, Nat.one_mul, List.length_take, List.length_drop, List.length_append, List.length_set, List.length_cons, List.length_nil, List.length_replicate] <;> omega) | assumption | fail) [law04_AdjustBack_B, hidB, wrap_i64, IntKind.wrap_u64, IntKind.wrap_u32, wrap_u16, IntKind.wrap_u8, Int.emod_eq_of_lt, Int.tdiv_eq_ediv_of_nonneg, Int.tmod_eq_emod_of_nonneg, -List.getD_eq_getElem?_getD, -List.drop_drop, q1, q2, q3, q4, q5, q6, q7, hlive]
end
end Go.Wb.P04

/- Chapter 31: colours: what its functions come to. -/
import Derived.Test.YtihcipgcknjkbaaWbA5
import Derived.Test.YtihcipgcknjkbaaWbvC31
set_option maxRecDepth 100000
set_option linter.all false
namespace Go.Wb.P31
open Go Go.Wb Go.Wb.Code

/-- A colour's name. -/
def nmL (c : Int) : List Nat := if c = 0 then [103, 114, 101, 101, 110] else if c = 1 then [121, 101, 108, 108, 111, 119] else if c = 2 then [114, 101, 100] else []
def letter (c : Int) : Nat := if c = 0 then 103 else if c = 1 then 121 else 114
theorem nmL_256 (c : Int) : All256 (nmL c) := by
  unfold nmL
  intro x hx
  (repeat' split at hx) <;> simp at hx <;> omega
theorem nmL_0 {c : Int} (h0 : 0 ≤ c) (h1 : c < 3) : (nmL c).getD 0 0 = letter c ∧ 0 < (nmL c).length := by
  have : c = 0 ∨ c = 1 ∨ c = 2 := by omega
  rcases this with rfl | rfl | rfl <;> decide

def Good (l : List Int) : Prop := ∀ c ∈ l, 0 ≤ c ∧ c < 3

section
variable {E : EnvW} (e : WbvC31Env E)

include e in
theorem colour_Name (c : Int) (hc : I64 c) : callV E "colour.Name" [vi c] [] = some ([rs (sb (nmL c))], [na], []) := by
  unfold I64 at hc
  unfold nmL
  refine callV_fn e.colour_Name fun nd hnd => ?_
  simp (disch := first | omega | (simp only [mp_len, Nat.mul_one, Nat.one_mul, List.length_take, List.length_drop, List.length_append, List.length_set, List.length_cons, List.length_nil, List.length_replicate] <;> omega) | assumption | fail) [colour_Name_B, hidB, wrap_i64, IntKind.wrap_u64, IntKind.wrap_u32, wrap_u16, IntKind.wrap_u8, Int.emod_eq_of_lt, Int.tdiv_eq_ediv_of_nonneg, Int.tmod_eq_emod_of_nonneg, -List.getD_eq_getElem?_getD, -List.drop_drop]
  iterate 4 (all_goals (try (refine iteV_split (fun h => ?_) (fun h => ?_) <;> (try rw [later_eq]) <;> (try simp only [decide_eq_true_eq, decide_eq_false_iff_not, Bool.not_eq_true', Bool.not_eq_false'] at h) <;> first | (exfalso; omega) | simp (disch := first | omega | (simp only [mp_len, Nat.mul_one, Nat.one_mul, List.length_take, List.length_drop, List.length_append, List.length_set, List.length_cons, List.length_nil, List.length_replicate] <;> omega) | assumption | fail) [h, hidB, wrap_i64, IntKind.wrap_u64, IntKind.wrap_u32, wrap_u16, IntKind.wrap_u8, Int.emod_eq_of_lt, Int.tdiv_eq_ediv_of_nonneg, Int.tmod_eq_emod_of_nonneg, -List.getD_eq_getElem?_getD, -List.drop_drop])))
  all_goals (first | rfl | (simp [*]; rfl) | (simp [*]; done))

include e in
theorem colour_is (c : Int) (hc : I64 c) : callV E "colour.is" [vi c] [] = some ([rB (decide (0 ≤ c ∧ c < 3))], [na], []) := by
  unfold I64 at hc
  refine callV_fn e.colour_is fun nd hnd => ?_
  simp (disch := first | omega | (simp only [mp_len, Nat.mul_one, Nat.one_mul, List.length_take, List.length_drop, List.length_append, List.length_set, List.length_cons, List.length_nil, List.length_replicate] <;> omega) | assumption | fail) [colour_is_B, hidB, wrap_i64, IntKind.wrap_u64, IntKind.wrap_u32, wrap_u16, IntKind.wrap_u8, Int.emod_eq_of_lt, Int.tdiv_eq_ediv_of_nonneg, Int.tmod_eq_emod_of_nonneg, -List.getD_eq_getElem?_getD, -List.drop_drop]
  iterate 4 (all_goals (try (refine iteV_split (fun h => ?_) (fun h => ?_) <;> (try rw [later_eq]) <;> (try simp only [decide_eq_true_eq, decide_eq_false_iff_not, Bool.not_eq_true', Bool.not_eq_false'] at h) <;> first | (exfalso; omega) | simp (disch := first | omega | (simp only [mp_len, Nat.mul_one, Nat.one_mul, List.length_take, List.length_drop, List.length_append, List.length_set, List.length_cons, List.length_nil, List.length_replicate] <;> omega) | assumption | fail) [h, hidB, wrap_i64, IntKind.wrap_u64, IntKind.wrap_u32, wrap_u16, IntKind.wrap_u8, Int.emod_eq_of_lt, Int.tdiv_eq_ediv_of_nonneg, Int.tmod_eq_emod_of_nonneg, -List.getD_eq_getElem?_getD, -List.drop_drop])))
  all_goals (first | rfl | omega | (intros; omega) | (rw [Bool.eq_iff_iff]; simp [-List.getD_eq_getElem?_getD]; omega) | (rw [Bool.eq_iff_iff]; simp; done) | (split <;> first | (simp; done) | (exfalso; omega) | (simp_all; done) | (simp_all; omega)))

include e in
theorem check_loop (l : List Int) (hr : l.length ≤ 64) (hg : Good l) : ∀ (m i : Nat), i + m = l.length →
    runV E (.loop [2, 11, 12, 13] colour_Check_L0) (updT (updT (updT (updT botT 13 (ti .i64 i)) 12 (ti .i64 l.length)) 11 (.val (.sl l.length (ip l)))) 2 (.box [.v (.sc (.int .i64 0)), .v (.sc (.int .i64 0))])) =
      some (.exit 0, updT botT 2 (.box [.v (.sc (.int .i64 0)), .v (.sc (.int .i64 0))]))
  | 0, i, hi => by
    have hn : ¬ ((i : Int) < l.length) := by omega
    refine loop_out (by simp (disch := first | omega | (simp only [mp_len, Nat.mul_one, Nat.one_mul, List.length_take, List.length_drop, List.length_append, List.length_set, List.length_cons, List.length_nil, List.length_replicate] <;> omega) | assumption | fail) [colour_Check_L0, hidB, wrap_i64, IntKind.wrap_u64, IntKind.wrap_u32, wrap_u16, IntKind.wrap_u8, Int.emod_eq_of_lt, Int.tdiv_eq_ediv_of_nonneg, Int.tmod_eq_emod_of_nonneg, -List.getD_eq_getElem?_getD, -List.drop_drop, hn]; first | exact ⟨rfl, rfl⟩ | exact rfl) ?_ (by simp)
    rfl
  | m + 1, i, hi => by
    have hn : (i : Int) < l.length := by omega
    have hc := hg (l.getD i 0) (by simp [List.getD, show i < l.length by omega])
    have his := colour_is e (l.getD i 0) (by unfold I64; omega)
    rw [decide_eq_true hc] at his
    refine loop_go (by simp (disch := first | omega | (simp only [mp_len, Nat.mul_one, Nat.one_mul, List.length_take, List.length_drop, List.length_append, List.length_set, List.length_cons, List.length_nil, List.length_replicate] <;> omega) | assumption | fail) [colour_Check_L0, hidB, wrap_i64, IntKind.wrap_u64, IntKind.wrap_u32, wrap_u16, IntKind.wrap_u8, Int.emod_eq_of_lt, Int.tdiv_eq_ediv_of_nonneg, Int.tmod_eq_emod_of_nonneg, -List.getD_eq_getElem?_getD, -List.drop_drop, hn, his]; rfl) ?_
    exact check_loop l hr hg m (i + 1) (by omega)

include e in
theorem colour_Check (l : List Int) (hr : l.length = 64) (hg : Good l) : callV E "colour.Check" [.v (.sl 64 (ip l))] [] = some ([.v (.agg [.sc (.int .i64 0), .sc (.int .i64 0)])], [na], []) := by
  have h0 := check_loop e l (by omega) hg 64 0 (by omega)
  rw [hr, show ((0 : Nat) : Int) = 0 from rfl, show ((64 : Nat) : Int) = 64 from rfl] at h0
  refine callV_fn e.colour_Check fun nd hnd => ?_
  simp (disch := first | omega | (simp only [mp_len, Nat.mul_one, Nat.one_mul, List.length_take, List.length_drop, List.length_append, List.length_set, List.length_cons, List.length_nil, List.length_replicate] <;> omega) | assumption | fail) [colour_Check_B, hidB, wrap_i64, IntKind.wrap_u64, IntKind.wrap_u32, wrap_u16, IntKind.wrap_u8, Int.emod_eq_of_lt, Int.tdiv_eq_ediv_of_nonneg, Int.tmod_eq_emod_of_nonneg, -List.getD_eq_getElem?_getD, -List.drop_drop, h0]

include e in
theorem print_loop (l : List Int) (hr : l.length = 64) (hg : Good l) : ∀ (m i N : Nat) (X : List Nat), i + m = l.length → X = (l.take i).map letter → N = X.length →
    runV E (.loop [4, 13, 14, 15] colour_Print_L0) (updT (updT (updT (updT botT 15 (ti .i64 i)) 14 (ti .i64 64)) 13 (.val (.sl 64 (ip l)))) 4 (.own N 1 (bp X))) =
      some (.exit 0, updT botT 4 (.own 64 1 (bp (l.map letter))))
  | 0, i, N, X, hi, hX, hN => by
    have hn : ¬ ((i : Int) < 64) := by omega
    rw [List.take_of_length_le (by omega)] at hX
    have hN2 : N = 64 := by rw [hN, hX, List.length_map, hr]
    refine loop_out (by simp (disch := first | omega | (simp only [mp_len, Nat.mul_one, Nat.one_mul, List.length_take, List.length_drop, List.length_append, List.length_set, List.length_cons, List.length_nil, List.length_replicate] <;> omega) | assumption | fail) [colour_Print_L0, hidB, wrap_i64, IntKind.wrap_u64, IntKind.wrap_u32, wrap_u16, IntKind.wrap_u8, Int.emod_eq_of_lt, Int.tdiv_eq_ediv_of_nonneg, Int.tmod_eq_emod_of_nonneg, -List.getD_eq_getElem?_getD, -List.drop_drop, hn]; first | exact ⟨rfl, rfl⟩ | exact rfl) ?_ (by simp)
    rw [hN2, hX]
  | m + 1, i, N, X, hi, hX, hN => by
    have hn : (i : Int) < 64 := by omega
    have hN2 : N = i := by rw [hN, hX, List.length_map, List.length_take]; omega
    have hc := hg (l.getD i 0) (by simp [List.getD, show i < l.length by omega])
    have hnm := colour_Name e (l.getD i 0) (by unfold I64; omega)
    obtain ⟨h0, h1⟩ := nmL_0 hc.1 hc.2
    have h256 := nmL_256 (l.getD i 0)
    have ht : (l.take (i + 1)).map letter = (l.take i).map letter ++ [letter (l.getD i 0)] := by
      rw [List.take_add_one, List.getElem?_eq_getElem (show i < l.length by omega), List.map_append]
      simp [List.getD, show i < l.length by omega]
    rw [← hX] at ht
    refine loop_go (by simp (disch := first | omega | (simp only [mp_len, Nat.mul_one, Nat.one_mul, List.length_take, List.length_drop, List.length_append, List.length_set, List.length_cons, List.length_nil, List.length_replicate] <;> omega) | assumption | fail) [colour_Print_L0, hidB, wrap_i64, IntKind.wrap_u64, IntKind.wrap_u32, wrap_u16, IntKind.wrap_u8, Int.emod_eq_of_lt, Int.tdiv_eq_ediv_of_nonneg, Int.tmod_eq_emod_of_nonneg, -List.getD_eq_getElem?_getD, -List.drop_drop, hn, hnm, isT_sb, -isT_at, h0]; rfl) ?_
    exact print_loop l hr hg m (i + 1) _ _ (by omega) ht.symm (by simp [hN])

include e in
theorem colour_Print (l : List Int) (hr : l.length = 64) (hg : Good l) : callV E "colour.Print" [.v (.sl 64 (ip l))] [] = some ([rs (sb (l.map letter))], [na], []) := by
  have h0 := print_loop e l hr hg 64 0 0 [] (by omega) (by simp) rfl
  rw [show ((0 : Nat) : Int) = 0 from rfl, show bp [] = [] from rfl] at h0
  have hk := colour_Check e l hr hg
  refine callV_fn e.colour_Print fun nd hnd => ?_
  simp (disch := first | omega | (simp only [mp_len, Nat.mul_one, Nat.one_mul, List.length_take, List.length_drop, List.length_append, List.length_set, List.length_cons, List.length_nil, List.length_replicate] <;> omega) | assumption | fail) [colour_Print_B, hidB, wrap_i64, IntKind.wrap_u64, IntKind.wrap_u32, wrap_u16, IntKind.wrap_u8, Int.emod_eq_of_lt, Int.tdiv_eq_ediv_of_nonneg, Int.tmod_eq_emod_of_nonneg, -List.getD_eq_getElem?_getD, -List.drop_drop, hk, h0, hr]
  simp [sb]

/-- What is read of a text. -/
def pl : List Nat → Nat → List Int → List Int × Int × Int
  | [], _, acc => (acc, 0, 0)
  | c :: r, i, acc => if c = 103 then pl r (i + 1) (acc ++ [0]) else if c = 121 then pl r (i + 1) (acc ++ [1]) else if c = 114 then pl r (i + 1) (acc ++ [2]) else ([], 13, i)

def plOut (r : List Int × Int × Int) : AExit × TT :=
  if r.2.1 = 0 then (.exit 0, updT (updT botT 4 (.own r.1.length 1 (ip r.1))) 3 (.box [.v (.sc (.int .i64 0)), .v (.sc (.int .i64 0))]))
  else (.ret, updT (updT botT 3 (.box [.v (.sc (.int .i64 13)), .v (.sc (.int .i64 r.2.2))])) 2 (.own 0 1 []))

omit e in
theorem parse_loop (l : List Nat) (hr : l.length = 64) (h256 : All256 l) : ∀ (m i N : Nat) (X : List Int), i + m = l.length → N = X.length → N = i →
    runV E (.loop [0, 3, 4, 13] colour_ParseAll_L0) (updT (updT (updT (updT botT 13 (ti .i64 i)) 4 (.own N 1 (ip X))) 3 (.box [.v (.sc (.int .i64 0)), .v (.sc (.int .i64 0))])) 0 (.val (.sc (.string (sb l))))) =
      some (plOut (pl (l.drop i) i X))
  | 0, i, N, X, hi, hN, hNi => by
    have hn : ¬ ((i : Int) < 64) := by omega
    rw [List.drop_eq_nil_of_le (by omega)]
    unfold pl plOut
    refine loop_out (by simp (disch := first | omega | (simp only [mp_len, Nat.mul_one, Nat.one_mul, List.length_take, List.length_drop, List.length_append, List.length_set, List.length_cons, List.length_nil, List.length_replicate] <;> omega) | assumption | fail) [colour_ParseAll_L0, hidB, wrap_i64, IntKind.wrap_u64, IntKind.wrap_u32, wrap_u16, IntKind.wrap_u8, Int.emod_eq_of_lt, Int.tdiv_eq_ediv_of_nonneg, Int.tmod_eq_emod_of_nonneg, -List.getD_eq_getElem?_getD, -List.drop_drop, hn]; first | exact ⟨rfl, rfl⟩ | exact rfl) ?_ (by simp)
    rw [if_pos rfl, hN]
  | m + 1, i, N, X, hi, hN, hNi => by
    have hn : (i : Int) < 64 := by omega
    have hl : (i : Int) < l.length := by omega
    rw [drop_getD (by omega)]
    generalize hc : l.getD i 0 = c at *
    unfold pl
    by_cases c1 : c = 103
    · rw [if_pos c1]
      subst c1
      refine loop_go (by simp (disch := first | omega | (simp only [mp_len, Nat.mul_one, Nat.one_mul, List.length_take, List.length_drop, List.length_append, List.length_set, List.length_cons, List.length_nil, List.length_replicate] <;> omega) | assumption | fail) [colour_ParseAll_L0, hidB, wrap_i64, IntKind.wrap_u64, IntKind.wrap_u32, wrap_u16, IntKind.wrap_u8, Int.emod_eq_of_lt, Int.tdiv_eq_ediv_of_nonneg, Int.tmod_eq_emod_of_nonneg, -List.getD_eq_getElem?_getD, -List.drop_drop, hn, isT_sb, -isT_at, hc]; rfl) ?_
      exact parse_loop l hr h256 m (i + 1) _ _ (by omega) (by simp [hN]) (by omega)
    · have c1' : ¬ (c : Int) = 103 := by omega
      rw [if_neg c1]
      by_cases c2 : c = 121
      · rw [if_pos c2]
        subst c2
        refine loop_go (by simp (disch := first | omega | (simp only [mp_len, Nat.mul_one, Nat.one_mul, List.length_take, List.length_drop, List.length_append, List.length_set, List.length_cons, List.length_nil, List.length_replicate] <;> omega) | assumption | fail) [colour_ParseAll_L0, hidB, wrap_i64, IntKind.wrap_u64, IntKind.wrap_u32, wrap_u16, IntKind.wrap_u8, Int.emod_eq_of_lt, Int.tdiv_eq_ediv_of_nonneg, Int.tmod_eq_emod_of_nonneg, -List.getD_eq_getElem?_getD, -List.drop_drop, hn, isT_sb, -isT_at, hc]; rfl) ?_
        exact parse_loop l hr h256 m (i + 1) _ _ (by omega) (by simp [hN]) (by omega)
      · have c2' : ¬ (c : Int) = 121 := by omega
        rw [if_neg c2]
        by_cases c3 : c = 114
        · rw [if_pos c3]
          subst c3
          refine loop_go (by simp (disch := first | omega | (simp only [mp_len, Nat.mul_one, Nat.one_mul, List.length_take, List.length_drop, List.length_append, List.length_set, List.length_cons, List.length_nil, List.length_replicate] <;> omega) | assumption | fail) [colour_ParseAll_L0, hidB, wrap_i64, IntKind.wrap_u64, IntKind.wrap_u32, wrap_u16, IntKind.wrap_u8, Int.emod_eq_of_lt, Int.tdiv_eq_ediv_of_nonneg, Int.tmod_eq_emod_of_nonneg, -List.getD_eq_getElem?_getD, -List.drop_drop, hn, isT_sb, -isT_at, hc]; rfl) ?_
          exact parse_loop l hr h256 m (i + 1) _ _ (by omega) (by simp [hN]) (by omega)
        · have c3' : ¬ (c : Int) = 114 := by omega
          rw [if_neg c3]
          unfold plOut
          refine loop_out (by simp (disch := first | omega | (simp only [mp_len, Nat.mul_one, Nat.one_mul, List.length_take, List.length_drop, List.length_append, List.length_set, List.length_cons, List.length_nil, List.length_replicate] <;> omega) | assumption | fail) [colour_ParseAll_L0, hidB, wrap_i64, IntKind.wrap_u64, IntKind.wrap_u32, wrap_u16, IntKind.wrap_u8, Int.emod_eq_of_lt, Int.tdiv_eq_ediv_of_nonneg, Int.tmod_eq_emod_of_nonneg, -List.getD_eq_getElem?_getD, -List.drop_drop, hn, isT_sb, -isT_at, hc, c1', c2', c3']; first | exact ⟨rfl, rfl⟩ | exact rfl) ?_ (by simp)
          rfl

def parS (l : List Nat) : List Int × Int × Int := if l.length = 64 then pl l 0 [] else ([], 15, l.length)

theorem pl_err : ∀ (l : List Nat) (i : Nat) (acc : List Int), (pl l i acc).2.1 = 0 ∧ (pl l i acc).2.2 = 0 ∨ (pl l i acc).1 = [] ∧ (pl l i acc).2.1 = 13
  | [], i, acc => .inl ⟨rfl, rfl⟩
  | c :: r, i, acc => by
    unfold pl
    split
    · exact pl_err r _ _
    · split
      · exact pl_err r _ _
      · split
        · exact pl_err r _ _
        · exact .inr ⟨rfl, rfl⟩

theorem pl_good : ∀ (l : List Nat) (i : Nat) (acc : List Int), Good acc → (pl l i acc).2.1 = 0 → Good (pl l i acc).1 ∧ (pl l i acc).1.map letter = acc.map letter ++ l ∧ (pl l i acc).1.length = acc.length + l.length
  | [], i, acc, hg, _ => by unfold pl; exact ⟨hg, by simp, by simp⟩
  | c :: r, i, acc, hg, h => by
    have key : ∀ k : Int, 0 ≤ k → k < 3 → letter k = c → (pl r (i + 1) (acc ++ [k])).2.1 = 0 → Good (pl r (i + 1) (acc ++ [k])).1 ∧ (pl r (i + 1) (acc ++ [k])).1.map letter = acc.map letter ++ c :: r ∧ (pl r (i + 1) (acc ++ [k])).1.length = acc.length + (c :: r).length := by
      intro k h0 h1 hc hz
      obtain ⟨q1, q2, q3⟩ := pl_good r (i + 1) (acc ++ [k]) (by
        intro x hx
        rcases List.mem_append.1 hx with hx | hx
        · exact hg x hx
        · simp at hx; omega) hz
      exact ⟨q1, by rw [q2]; simp [hc], by rw [q3]; simp; omega⟩
    unfold pl at h ⊢
    split at h
    · rename_i hc
      rw [if_pos hc]
      exact key 0 (by omega) (by omega) (by rw [hc]; rfl) h
    · rename_i n1
      rw [if_neg n1]
      split at h
      · rename_i hc
        rw [if_pos hc]
        exact key 1 (by omega) (by omega) (by rw [hc]; rfl) h
      · rename_i n2
        rw [if_neg n2]
        split at h
        · rename_i hc
          rw [if_pos hc]
          exact key 2 (by omega) (by omega) (by rw [hc]; rfl) h
        · cases h

theorem pl_print : ∀ (t : List Int) (i : Nat) (acc : List Int), Good t → pl (t.map letter) i acc = (acc ++ t, 0, 0)
  | [], i, acc, _ => by simp [pl]
  | c :: t, i, acc, hg => by
    have hc := hg c (by simp)
    have ih := pl_print t (i + 1) (acc ++ [c]) (fun x hx => hg x (by simp [hx]))
    have : c = 0 ∨ c = 1 ∨ c = 2 := by omega
    rcases this with rfl | rfl | rfl <;> (simp only [List.map_cons]; unfold pl; simp [letter] at ih ⊢; exact ih)

include e in
theorem colour_ParseAll (l : List Nat) (hr : l.length ≤ reach) (h256 : All256 l) :
    callV E "colour.ParseAll" [vs (sb l)] [] = some ([.o (parS l).1.length 1 (ip (parS l).1), .v (.agg [.sc (.int .i64 (parS l).2.1), .sc (.int .i64 (parS l).2.2)])], [na], []) := by
  unfold reach reachBytes at hr
  unfold parS
  by_cases h64 : l.length = 64
  · have h0 := parse_loop (E := E) l h64 h256 64 0 0 [] (by omega) rfl rfl
    rw [show ((0 : Nat) : Int) = 0 from rfl, show ip [] = [] from rfl, List.drop_zero] at h0
    rw [if_pos h64]
    unfold plOut at h0
    rcases pl_err l 0 [] with ⟨e1, e2⟩ | ⟨e1, e2⟩
    · rw [if_pos e1] at h0
      rw [e1, e2]
      generalize (pl l 0 []).1 = X at *
      refine callV_fn e.colour_ParseAll fun nd hnd => ?_
      simp (disch := first | omega | (simp only [mp_len, Nat.mul_one, Nat.one_mul, List.length_take, List.length_drop, List.length_append, List.length_set, List.length_cons, List.length_nil, List.length_replicate] <;> omega) | assumption | fail) [colour_ParseAll_B, hidB, wrap_i64, IntKind.wrap_u64, IntKind.wrap_u32, wrap_u16, IntKind.wrap_u8, Int.emod_eq_of_lt, Int.tdiv_eq_ediv_of_nonneg, Int.tmod_eq_emod_of_nonneg, -List.getD_eq_getElem?_getD, -List.drop_drop, h64, h0]
    · rw [if_neg (by rw [e2]; decide)] at h0
      rw [e1, e2]
      generalize (pl l 0 []).2.2 = X at *
      refine callV_fn e.colour_ParseAll fun nd hnd => ?_
      simp (disch := first | omega | (simp only [mp_len, Nat.mul_one, Nat.one_mul, List.length_take, List.length_drop, List.length_append, List.length_set, List.length_cons, List.length_nil, List.length_replicate] <;> omega) | assumption | fail) [colour_ParseAll_B, hidB, wrap_i64, IntKind.wrap_u64, IntKind.wrap_u32, wrap_u16, IntKind.wrap_u8, Int.emod_eq_of_lt, Int.tdiv_eq_ediv_of_nonneg, Int.tmod_eq_emod_of_nonneg, -List.getD_eq_getElem?_getD, -List.drop_drop, h64, h0]
  · rw [if_neg h64]
    have h64' : ¬ (l.length : Int) = 64 := by omega
    refine callV_fn e.colour_ParseAll fun nd hnd => ?_
    simp (disch := first | omega | (simp only [mp_len, Nat.mul_one, Nat.one_mul, List.length_take, List.length_drop, List.length_append, List.length_set, List.length_cons, List.length_nil, List.length_replicate] <;> omega) | assumption | fail) [colour_ParseAll_B, hidB, wrap_i64, IntKind.wrap_u64, IntKind.wrap_u32, wrap_u16, IntKind.wrap_u8, Int.emod_eq_of_lt, Int.tdiv_eq_ediv_of_nonneg, Int.tmod_eq_emod_of_nonneg, -List.getD_eq_getElem?_getD, -List.drop_drop, h64']

omit e in
theorem sameI_loop (a b : List Int) (hl : a.length = b.length) (hr : a.length ≤ reach) : ∀ (m k : Nat), k + m = a.length → (∀ j, j < k → a.getD j 0 = b.getD j 0) →
    runV E (.loop [0, 1, 5] ref08_SameInts_L0) (updT (updT (updT botT 5 (ti .i64 k)) 1 (.val (.sl b.length (ip b)))) 0 (.val (.sl a.length (ip a)))) = if a = b then some (.exit 0, botT) else some (.ret, updT botT 4 (tb false))
  | 0, k, hk, ha => by
    have hn : ¬ ((k : Int) < a.length) := by omega
    have he : a = b := by
      apply List.ext_getElem hl
      intro i h1 h2
      have := ha i (by omega)
      simpa [h1, h2] using this
    rw [if_pos he]
    refine loop_out (by simp (disch := first | omega | (simp only [mp_len, Nat.mul_one, Nat.one_mul, List.length_take, List.length_drop, List.length_append, List.length_set, List.length_cons, List.length_nil, List.length_replicate] <;> omega) | assumption | fail) [ref08_SameInts_L0, hidB, wrap_i64, IntKind.wrap_u64, IntKind.wrap_u32, wrap_u16, IntKind.wrap_u8, Int.emod_eq_of_lt, Int.tdiv_eq_ediv_of_nonneg, Int.tmod_eq_emod_of_nonneg, -List.getD_eq_getElem?_getD, -List.drop_drop, hn]; first | exact ⟨rfl, rfl⟩ | exact rfl) ?_ (by simp)
    rfl
  | m + 1, k, hk, ha => by
    unfold reach reachBytes at hr
    have hn : ((k : Int) < a.length) := by omega
    have hk' : k < a.length := by omega
    by_cases hc : a.getD k 0 = b.getD k 0
    · refine loop_go (by simp (disch := first | omega | (simp only [mp_len, Nat.mul_one, Nat.one_mul, List.length_take, List.length_drop, List.length_append, List.length_set, List.length_cons, List.length_nil, List.length_replicate] <;> omega) | assumption | fail) [ref08_SameInts_L0, hidB, wrap_i64, IntKind.wrap_u64, IntKind.wrap_u32, wrap_u16, IntKind.wrap_u8, Int.emod_eq_of_lt, Int.tdiv_eq_ediv_of_nonneg, Int.tmod_eq_emod_of_nonneg, -List.getD_eq_getElem?_getD, -List.drop_drop, hn, hc]; rfl) ?_
      exact sameI_loop a b hl hr m (k + 1) (by omega) (fun j hj => if h : j = k then h ▸ hc else ha j (by omega))
    · have he : a ≠ b := fun h => hc (by rw [h])
      rw [if_neg he]
      refine loop_out (by simp (disch := first | omega | (simp only [mp_len, Nat.mul_one, Nat.one_mul, List.length_take, List.length_drop, List.length_append, List.length_set, List.length_cons, List.length_nil, List.length_replicate] <;> omega) | assumption | fail) [ref08_SameInts_L0, hidB, wrap_i64, IntKind.wrap_u64, IntKind.wrap_u32, wrap_u16, IntKind.wrap_u8, Int.emod_eq_of_lt, Int.tdiv_eq_ediv_of_nonneg, Int.tmod_eq_emod_of_nonneg, -List.getD_eq_getElem?_getD, -List.drop_drop, hn, hc]; first | exact ⟨rfl, rfl⟩ | exact rfl) ?_ (by simp)
      rfl

include e in
theorem ref08_SameInts_refl (a : List Int) (hr : a.length ≤ reach) : callV E "ref08.SameInts" [.v (.sl a.length (ip a)), .v (.sl a.length (ip a))] [] = some ([rB true], [na, na], []) := by
  have hloop := sameI_loop (E := E) a a rfl hr a.length 0 (by omega) (by intro j hj; omega)
  rw [show ((0 : Nat) : Int) = 0 from rfl, if_pos rfl] at hloop
  refine callV_fn e.ref08_SameInts fun nd hnd => ?_
  simp (disch := first | omega | (simp only [mp_len, Nat.mul_one, Nat.one_mul, List.length_take, List.length_drop, List.length_append, List.length_set, List.length_cons, List.length_nil, List.length_replicate] <;> omega) | assumption | fail) [ref08_SameInts_B, hidB, wrap_i64, IntKind.wrap_u64, IntKind.wrap_u32, wrap_u16, IntKind.wrap_u8, Int.emod_eq_of_lt, Int.tdiv_eq_ediv_of_nonneg, Int.tmod_eq_emod_of_nonneg, -List.getD_eq_getElem?_getD, -List.drop_drop, hloop]


theorem nmL_inj {i c : Int} (h0 : 0 ≤ i) (h1 : i < 3) (h2 : 0 ≤ c) (h3 : c < 3) (hn : i ≠ c) : ¬ sb (nmL i) = sb (nmL c) := by
  rw [sb_inj (nmL_256 _) (nmL_256 _)]
  have a : i = 0 ∨ i = 1 ∨ i = 2 := by omega
  have b : c = 0 ∨ c = 1 ∨ c = 2 := by omega
  rcases a with rfl | rfl | rfl <;> rcases b with rfl | rfl | rfl <;> first | (exact absurd rfl hn) | decide

include e in
theorem pname_loop (c : Int) (h2 : 0 ≤ c) (h3 : c < 3) : ∀ (m : Nat) (i : Int), i + m = c → 0 ≤ i →
    runV E (.loop [0, 5] colour_Parse_L0) (updT (updT botT 5 (ti .i64 i)) 0 (ts (sb (nmL c)))) = some (.ret, updT (updT botT 3 (ti .i64 0)) 2 (ti .i64 c))
  | 0, i, hi, h0 => by
    have hic : i = c := by omega
    subst hic
    have hn := colour_Name e i (by unfold I64; omega)
    have hl : i < 3 := h3
    refine loop_out (by simp (disch := first | omega | (simp only [mp_len, Nat.mul_one, Nat.one_mul, List.length_take, List.length_drop, List.length_append, List.length_set, List.length_cons, List.length_nil, List.length_replicate] <;> omega) | assumption | fail) [colour_Parse_L0, hidB, wrap_i64, IntKind.wrap_u64, IntKind.wrap_u32, wrap_u16, IntKind.wrap_u8, Int.emod_eq_of_lt, Int.tdiv_eq_ediv_of_nonneg, Int.tmod_eq_emod_of_nonneg, -List.getD_eq_getElem?_getD, -List.drop_drop, hl, hn, str_beq]; first | exact ⟨rfl, rfl⟩ | exact rfl) ?_ (by simp)
    rfl
  | m + 1, i, hi, h0 => by
    have hn := colour_Name e i (by unfold I64; omega)
    have hl : i < 3 := by omega
    have hne := nmL_inj h0 hl h2 h3 (by omega)
    refine loop_go (by simp (disch := first | omega | (simp only [mp_len, Nat.mul_one, Nat.one_mul, List.length_take, List.length_drop, List.length_append, List.length_set, List.length_cons, List.length_nil, List.length_replicate] <;> omega) | assumption | fail) [colour_Parse_L0, hidB, wrap_i64, IntKind.wrap_u64, IntKind.wrap_u32, wrap_u16, IntKind.wrap_u8, Int.emod_eq_of_lt, Int.tdiv_eq_ediv_of_nonneg, Int.tmod_eq_emod_of_nonneg, -List.getD_eq_getElem?_getD, -List.drop_drop, hl, hn, hne, str_beq]; rfl) ?_
    exact pname_loop c h2 h3 m (i + 1) (by omega) (by omega)

include e in
theorem parse_name (c : Int) (h0 : 0 ≤ c) (h1 : c < 3) : callV E "colour.Parse" [vs (sb (nmL c))] [] = some ([ri c, ri 0], [na], []) := by
  have hl := pname_loop e c h0 h1 c.toNat 0 (by omega) (by omega)
  refine callV_fn e.colour_Parse fun nd hnd => ?_
  simp (disch := first | omega | (simp only [mp_len, Nat.mul_one, Nat.one_mul, List.length_take, List.length_drop, List.length_append, List.length_set, List.length_cons, List.length_nil, List.length_replicate] <;> omega) | assumption | fail) [colour_Parse_B, hidB, wrap_i64, IntKind.wrap_u64, IntKind.wrap_u32, wrap_u16, IntKind.wrap_u8, Int.emod_eq_of_lt, Int.tdiv_eq_ediv_of_nonneg, Int.tmod_eq_emod_of_nonneg, -List.getD_eq_getElem?_getD, -List.drop_drop, hl]

include e in
theorem live : callV E "law31.live" [] [] = some ([rB true], [], []) := by
  rw [callV_prim e.law31_live]; rfl

include e in
theorem back_names : ∀ (m : Nat) (i : Int), i + m = 3 → 0 ≤ i → runV E (.loop [11] law31_ColourBack_L1) (updT botT 11 (ti .i64 i)) = some (.exit 2, botT)
  | 0, i, hi, h0 => by
    have hl : ¬ i ≤ 2 := by omega
    refine loop_out (by simp (disch := first | omega | (simp only [mp_len, Nat.mul_one, Nat.one_mul, List.length_take, List.length_drop, List.length_append, List.length_set, List.length_cons, List.length_nil, List.length_replicate] <;> omega) | assumption | fail) [law31_ColourBack_L1, hidB, wrap_i64, IntKind.wrap_u64, IntKind.wrap_u32, wrap_u16, IntKind.wrap_u8, Int.emod_eq_of_lt, Int.tdiv_eq_ediv_of_nonneg, Int.tmod_eq_emod_of_nonneg, -List.getD_eq_getElem?_getD, -List.drop_drop, hl]; first | exact ⟨rfl, rfl⟩ | exact rfl) ?_ (by simp)
    rfl
  | m + 1, i, hi, h0 => by
    have hl : i ≤ 2 := by omega
    have hn := colour_Name e i (by unfold I64; omega)
    have hp := parse_name e i h0 (by omega)
    refine loop_go (by simp (disch := first | omega | (simp only [mp_len, Nat.mul_one, Nat.one_mul, List.length_take, List.length_drop, List.length_append, List.length_set, List.length_cons, List.length_nil, List.length_replicate] <;> omega) | assumption | fail) [law31_ColourBack_L1, hidB, wrap_i64, IntKind.wrap_u64, IntKind.wrap_u32, wrap_u16, IntKind.wrap_u8, Int.emod_eq_of_lt, Int.tdiv_eq_ediv_of_nonneg, Int.tmod_eq_emod_of_nonneg, -List.getD_eq_getElem?_getD, -List.drop_drop, hl, hn, hp]; rfl) ?_
    exact back_names m (i + 1) (by omega) (by omega)

omit e in
theorem fill_loop (b : List Nat) (hr : b.length ≤ reach) (h256 : ∀ x ∈ b, x < 256) (v : TV) : ∀ (m i : Nat) (X : List Int), i + m = 64 → X.length = 64 → Good X →
    ∃ Y, Y.length = 64 ∧ Good Y ∧ runV E (.loop [0, 1, 5, 6] law31_ColourBack_L0) (updT (updT (updT (updT botT 6 (ti .i64 i)) 5 (.own 64 1 (ip X))) 1 v) 0 (.val (.sl b.length (bp b)))) = some (.exit 0, updT (updT botT 5 (.own 64 1 (ip Y))) 1 v)
  | 0, i, X, hi, hX, hg => by
    refine ⟨X, hX, hg, ?_⟩
    unfold reach reachBytes at hr
    by_cases hb : (i : Int) < b.length
    · have hn : ¬ ((i : Int) < 64) := by omega
      refine loop_out (by simp (disch := first | omega | (simp only [mp_len, Nat.mul_one, Nat.one_mul, List.length_take, List.length_drop, List.length_append, List.length_set, List.length_cons, List.length_nil, List.length_replicate] <;> omega) | assumption | fail) [law31_ColourBack_L0, hidB, wrap_i64, IntKind.wrap_u64, IntKind.wrap_u32, wrap_u16, IntKind.wrap_u8, Int.emod_eq_of_lt, Int.tdiv_eq_ediv_of_nonneg, Int.tmod_eq_emod_of_nonneg, -List.getD_eq_getElem?_getD, -List.drop_drop, hn, hb]; first | exact ⟨rfl, rfl⟩ | exact rfl) ?_ (by simp)
      rfl
    · refine loop_out (by simp (disch := first | omega | (simp only [mp_len, Nat.mul_one, Nat.one_mul, List.length_take, List.length_drop, List.length_append, List.length_set, List.length_cons, List.length_nil, List.length_replicate] <;> omega) | assumption | fail) [law31_ColourBack_L0, hidB, wrap_i64, IntKind.wrap_u64, IntKind.wrap_u32, wrap_u16, IntKind.wrap_u8, Int.emod_eq_of_lt, Int.tdiv_eq_ediv_of_nonneg, Int.tmod_eq_emod_of_nonneg, -List.getD_eq_getElem?_getD, -List.drop_drop, hb]; first | exact ⟨rfl, rfl⟩ | exact rfl) ?_ (by simp)
      rfl
  | m + 1, i, X, hi, hX, hg => by
    have hr' := hr
    unfold reach reachBytes at hr'
    by_cases hb : (i : Int) < b.length
    · have hn : ((i : Int) < 64) := by omega
      have hc := h256 _ (getD_mem (show i < b.length by omega))
      obtain ⟨Y, q1, q2, q3⟩ := fill_loop b hr h256 v m (i + 1) (X.set i ((b.getD i 0 : Nat) % 3 : Int)) (by omega) (by simp [hX]) (by
        intro x hx
        rcases List.mem_or_eq_of_mem_set hx with hx | rfl
        · exact hg x hx
        · omega)
      refine ⟨Y, q1, q2, ?_⟩
      refine loop_go (by simp (disch := first | omega | (simp only [mp_len, Nat.mul_one, Nat.one_mul, List.length_take, List.length_drop, List.length_append, List.length_set, List.length_cons, List.length_nil, List.length_replicate] <;> omega) | assumption | fail) [law31_ColourBack_L0, hidB, wrap_i64, IntKind.wrap_u64, IntKind.wrap_u32, wrap_u16, IntKind.wrap_u8, Int.emod_eq_of_lt, Int.tdiv_eq_ediv_of_nonneg, Int.tmod_eq_emod_of_nonneg, -List.getD_eq_getElem?_getD, -List.drop_drop, hn, hb]; rfl) ?_
      exact q3
    · refine ⟨X, hX, hg, ?_⟩
      refine loop_out (by simp (disch := first | omega | (simp only [mp_len, Nat.mul_one, Nat.one_mul, List.length_take, List.length_drop, List.length_append, List.length_set, List.length_cons, List.length_nil, List.length_replicate] <;> omega) | assumption | fail) [law31_ColourBack_L0, hidB, wrap_i64, IntKind.wrap_u64, IntKind.wrap_u32, wrap_u16, IntKind.wrap_u8, Int.emod_eq_of_lt, Int.tdiv_eq_ediv_of_nonneg, Int.tmod_eq_emod_of_nonneg, -List.getD_eq_getElem?_getD, -List.drop_drop, hb]; first | exact ⟨rfl, rfl⟩ | exact rfl) ?_ (by simp)
      rfl

include e in
theorem law_ColourBack (B : Nat) (avs : List PV) (ha : PArgs B [.sl 1 1 (.int .u8), .str] avs) :
    ∃ o ho, callV E "law31.ColourBack" (avs.map .v) [] = some ([rB true], o, ho) := by
  simp only [PArgs] at ha
  obtain ⟨v0, _, rfl, a0, v1, _, rfl, a1, rfl⟩ := ha
  obtain ⟨b, rfl, h256, hlen, _⟩ := pv_bytes a0
  obtain ⟨s, rfl, hs, _⟩ := pv_str a1
  obtain ⟨l, rfl, hl⟩ := sb_of s
  rw [sb_size] at hs
  refine ⟨[na, na], [], ?_⟩
  rw [List.map_cons, List.map_cons, List.map_nil]
  obtain ⟨Y, y1, y2, hfill⟩ := fill_loop (E := E) b hlen h256 (ts (sb l)) 64 0 (List.replicate 64 0) (by omega) (by simp) (by intro x hx; rw [List.mem_replicate] at hx; omega)
  rw [show ((0 : Nat) : Int) = 0 from rfl] at hfill
  have hprint := colour_Print e Y y1 y2
  have hY256 : All256 (Y.map letter) := by
    intro x hx
    rw [List.mem_map] at hx
    obtain ⟨c, _, rfl⟩ := hx
    unfold letter
    (repeat' split) <;> omega
  have hpars := colour_ParseAll e (Y.map letter) (by rw [List.length_map, y1]; unfold reach reachBytes; omega) hY256
  have hp : parS (Y.map letter) = (Y, 0, 0) := by
    unfold parS
    rw [if_pos (by rw [List.length_map, y1]), pl_print Y 0 [] y2, List.nil_append]
  rw [hp] at hpars
  have hsame := ref08_SameInts_refl e Y (by rw [y1]; unfold reach reachBytes; omega)
  simp only [y1] at hpars hsame
  have hnames := back_names e 3 0 (by omega) (by omega)
  have hlive := live e
  have hpar2 := colour_ParseAll e l hs hl
  have hcase : (parS l).2.1 ≠ 0 ∨ ((parS l).2.1 = 0 ∧ (parS l).2.2 = 0 ∧ Good (parS l).1 ∧ (parS l).1.map letter = l ∧ (parS l).1.length = 64) := by
    unfold parS
    by_cases h64 : l.length = 64
    · rw [if_pos h64]
      rcases pl_err l 0 [] with ⟨e1, e2⟩ | ⟨e1, e2⟩
      · obtain ⟨q1, q2, q3⟩ := pl_good l 0 [] (by intro c hc; simp at hc) e1
        exact .inr ⟨e1, e2, q1, by simpa using q2, by rw [q3, h64]; rfl⟩
      · exact .inl (by rw [e2]; decide)
    · rw [if_neg h64]; exact .inl (by simp)
  generalize parS l = r at *
  obtain ⟨y, f, at_⟩ := r
  simp only at hpar2 hcase
  rcases hcase with hf | ⟨rfl, rfl, g1, g2, g3⟩
  · have hfb : (f == 0) = false := by simpa using hf
    refine callV_fn e.law31_ColourBack fun nd hnd => ?_
    simp (disch := first | omega | (simp only [mp_len, Nat.mul_one, Nat.one_mul, List.length_take, List.length_drop, List.length_append, List.length_set, List.length_cons, List.length_nil, List.length_replicate] <;> omega) | assumption | fail) [law31_ColourBack_B, hidB, wrap_i64, IntKind.wrap_u64, IntKind.wrap_u32, wrap_u16, IntKind.wrap_u8, Int.emod_eq_of_lt, Int.tdiv_eq_ediv_of_nonneg, Int.tmod_eq_emod_of_nonneg, -List.getD_eq_getElem?_getD, -List.drop_drop, hfill, hprint, hpars, hsame, hpar2, hfb, hnames, hlive, -List.reduceReplicate]
  · have hprint2 := colour_Print e y g3 g1
    have hchk := colour_Check e y g3 g1
    rw [g2] at hprint2
    rw [g3] at hpar2
    refine callV_fn e.law31_ColourBack fun nd hnd => ?_
    simp (disch := first | omega | (simp only [mp_len, Nat.mul_one, Nat.one_mul, List.length_take, List.length_drop, List.length_append, List.length_set, List.length_cons, List.length_nil, List.length_replicate] <;> omega) | assumption | fail) [law31_ColourBack_B, hidB, wrap_i64, IntKind.wrap_u64, IntKind.wrap_u32, wrap_u16, IntKind.wrap_u8, Int.emod_eq_of_lt, Int.tdiv_eq_ediv_of_nonneg, Int.tmod_eq_emod_of_nonneg, -List.getD_eq_getElem?_getD, -List.drop_drop, hfill, hprint, hpars, hsame, hpar2, hprint2, hchk, hnames, hlive, str_beq, -List.reduceReplicate]
end
end Go.Wb.P31

/- Bytes: 'SameBytes', 'Join'. -/
import Derived.Test.YtlbekhmgpfbgnaaWbA6
import Derived.Test.YtlbekhmgpfbgnaaWbvC01
set_option maxRecDepth 100000
set_option linter.all false
namespace Go.Wb
open Go Go.Wb.Code
abbrev lp (ls : List (List Nat)) : List PV := mp (fun l : List Nat => PV.sl l.length (bp l)) ls
@[simp] theorem cellP_lp {ls : List (List Nat)} {i : Nat} (h : i < ls.length) : cellP (lp ls) i = some (.sl (ls.getD i []).length (bp (ls.getD i []))) := cellP_mp h
namespace P01
section
variable {E : EnvW} (e : WbvC01Env E)
theorem same_loop (a b : List Nat) (hl : a.length = b.length) (hr : a.length ≤ room) : ∀ (m k : Nat), k + m = a.length → (∀ j, j < k → a.getD j 0 = b.getD j 0) →
 runV E (.loop [0, 1, 5] ref01_SameBytes_L0) (updT (updT (updT botT 5 (ti .i64 k)) 1 (.val (.sl b.length (bp b)))) 0 (.val (.sl a.length (bp a)))) = if a = b then some (.exit 0, botT) else some (.ret, updT botT 4 (tb false))
 | 0, k, hk, ha => by
   have hn : ¬ ((k : Int) < a.length) := by omega
   have he : a = b := by
    apply List.ext_getElem hl
    intro i h1 h2
    have := ha i (by omega)
    simpa [h1, h2] using this
   rw [if_pos he]
   refine loop_out (by simp (maxSteps := 1000000) (disch := first | omega | (simp only [lnS] <;> omega) | assumption | fail) [ref01_SameBytes_L0, wwS, -List.getD_eq_getElem?_getD, -List.drop_drop, hn]; first | exact ⟨rfl, rfl⟩ | exact rfl) ?_ (by simp)
   rfl
 | m + 1, k, hk, ha => by
   unfold room at hr
   have hn : ((k : Int) < a.length) := by omega
   have hk' : k < a.length := by omega
   by_cases hc : a.getD k 0 = b.getD k 0
   ·refine loop_go (by simp (maxSteps := 1000000) (disch := first | omega | (simp only [lnS] <;> omega) | assumption | fail) [ref01_SameBytes_L0, wwS, -List.getD_eq_getElem?_getD, -List.drop_drop, hn, hc]; rfl) ?_
    exact same_loop a b hl hr m (k + 1) (by omega) (fun j hj => if h : j = k then h ▸ hc else ha j (by omega))
   ·have he : a ≠ b := fun h => hc (by rw [h])
    rw [if_neg he]
    have hci : ¬ ((a.getD k 0 : Nat) : Int) = (b.getD k 0 : Nat) := by omega
    refine loop_out (by simp (maxSteps := 1000000) (disch := first | omega | (simp only [lnS] <;> omega) | assumption | fail) [ref01_SameBytes_L0, wwS, -List.getD_eq_getElem?_getD, -List.drop_drop, hn, hci]; first | exact ⟨rfl, rfl⟩ | exact rfl) ?_ (by simp)
    rfl
include e in
theorem ref01_SameBytes (a b : List Nat) (hr : a.length ≤ room) : callV E "ref01.SameBytes" [vb a, vb b] [] = some ([rB (decide (a = b))], [na, na], []) := by
 by_cases hl : a.length = b.length
 ·have hloop := same_loop (E := E) a b hl hr a.length 0 (by omega) (by intro j hj; omega)
  rw [show ((0 : Nat) : Int) = 0 from rfl] at hloop
  have hli : (a.length : Int) = b.length := by omega
  by_cases hab : a = b
  ·rw [if_pos hab] at hloop
   rw [decide_eq_true hab]
   subst hab
   refine callV_fn e.ref01_SameBytes fun nd hnd => ?_
   simp (maxSteps := 1000000) (disch := first | omega | (simp only [lnS] <;> omega) | assumption | fail) [ref01_SameBytes_B, wwS, -List.getD_eq_getElem?_getD, -List.drop_drop, hloop]
  ·rw [if_neg hab] at hloop
   rw [decide_eq_false hab]
   refine callV_fn e.ref01_SameBytes fun nd hnd => ?_
   simp (maxSteps := 1000000) (disch := first | omega | (simp only [lnS] <;> omega) | assumption | fail) [ref01_SameBytes_B, wwS, -List.getD_eq_getElem?_getD, -List.drop_drop, hli, hloop]
 ·have hab : a ≠ b := fun h => hl (by rw [h])
  rw [decide_eq_false hab]
  have hl' : (a.length : Int) ≠ b.length := by omega
  refine callV_fn e.ref01_SameBytes fun nd hnd => ?_
  simp (maxSteps := 1000000) (disch := first | omega | (simp only [lnS] <;> omega) | assumption | fail) [ref01_SameBytes_B, wwS, -List.getD_eq_getElem?_getD, -List.drop_drop, hl']
theorem join_loop0 (ls : List (List Nat)) (i : Nat) (hi : i < ls.length) (l acc : List Nat) (hl : ls.getD i [] = l) (hr : acc.length + l.length ≤ room) : ∀ (m k N : Nat) (X : List Nat), k + m = l.length → X = acc ++ l.take k → N = X.length →
 runV E (.loop [0, 3, 4, 5] ref01_Join_L0) (updT (updT (updT (updT botT 5 (ti .i64 k)) 4 (ti .i64 i)) 3 (.own N 1 (bp X))) 0 (.val (.sl ls.length (lp ls)))) =
  some (.exit 2, updT (updT (updT botT 4 (ti .i64 i)) 3 (.own (acc ++ l).length 1 (bp (acc ++ l)))) 0 (.val (.sl ls.length (lp ls))))
 | 0, k, N, X, hk, hX, hN => by
   have hn : ¬ ((k : Int) < l.length) := by omega
   rw [List.take_of_length_le (by omega)] at hX
   refine loop_out (by simp (maxSteps := 1000000) (disch := first | omega | (simp only [lnS] <;> omega) | assumption | fail) [ref01_Join_L0, wwS, -List.getD_eq_getElem?_getD, -List.drop_drop, hn, hl]; first | exact ⟨rfl, rfl⟩ | exact rfl) ?_ (by simp)
   rw [hN, hX]
 | m + 1, k, N, X, hk, hX, hN => by
   have hn : ((k : Int) < l.length) := by omega
   have ht := take_succ_getD (b := l) (k := k) (by omega)
   have hN' : N = acc.length + k := by rw [hN, hX, List.length_append, List.length_take]; omega
   unfold room at hr
   refine loop_go (by simp (maxSteps := 1000000) (disch := first | omega | (simp only [lnS] <;> omega) | assumption | fail) [ref01_Join_L0, wwS, -List.getD_eq_getElem?_getD, -List.drop_drop, hn, hl]; rfl) ?_
   exact join_loop0 ls i hi l acc hl hr m (k + 1) _ _ (by omega) (by rw [ht, hX, List.append_assoc]) (by simp [hN])
theorem join_loop1 (ls : List (List Nat)) (hr : ls.flatten.length ≤ room) (hr2 : ls.length ≤ room) : ∀ (m i N : Nat) (X : List Nat), i + m = ls.length → X = (ls.take i).flatten → N = X.length →
 runV E (.loop [0, 3, 4] ref01_Join_L1) (updT (updT (updT botT 4 (ti .i64 i)) 3 (.own N 1 (bp X))) 0 (.val (.sl ls.length (lp ls)))) =
  some (.exit 0, updT botT 3 (.own ls.flatten.length 1 (bp ls.flatten)))
 | 0, i, N, X, hk, hX, hN => by
   have hn : ¬ ((i : Int) < ls.length) := by omega
   rw [List.take_of_length_le (by omega)] at hX
   refine loop_out (by simp (maxSteps := 1000000) (disch := first | omega | (simp only [lnS] <;> omega) | assumption | fail) [ref01_Join_L1, wwS, -List.getD_eq_getElem?_getD, -List.drop_drop, hn]; first | exact ⟨rfl, rfl⟩ | exact rfl) ?_ (by simp)
   rw [hN, hX]
 | m + 1, i, N, X, hk, hX, hN => by
   have hn : ((i : Int) < ls.length) := by omega
   have hf : (ls.take (i + 1)).flatten = X ++ ls.getD i [] := by
    rw [List.take_add_one, List.getElem?_eq_getElem (by omega), hX, List.flatten_append]
    congr 1
    simp [List.getD, show i < ls.length by omega]
   have hle : X.length + (ls.getD i []).length ≤ room := by
    have : (ls.take (i + 1)).flatten.length ≤ ls.flatten.length := by
     conv => rhs; rw [← List.take_append_drop (i + 1) ls, List.flatten_append, List.length_append]
     omega
    rw [hf, List.length_append] at this
    omega
   have h0 := join_loop0 (E := E) ls i (by omega) (ls.getD i []) X rfl hle (ls.getD i []).length 0 N X (by omega) (by simp) hN
   rw [show ((0 : Nat) : Int) = 0 from rfl] at h0
   unfold room at hr2
   refine loop_go (by simp (maxSteps := 1000000) (disch := first | omega | (simp only [lnS] <;> omega) | assumption | fail) [ref01_Join_L1, wwS, -List.getD_eq_getElem?_getD, -List.drop_drop, hn, h0]; rfl) ?_
   exact join_loop1 ls hr hr2 m (i + 1) _ _ (by omega) hf.symm (by simp)
include e in
theorem ref01_Join (ls : List (List Nat)) (hr : ls.flatten.length ≤ room) (hr2 : ls.length ≤ room) : callV E "ref01.Join" [.v (.sl ls.length (lp ls))] [] = some ([ro ls.flatten], [na], []) := by
 have h0 := join_loop1 (E := E) ls hr hr2 ls.length 0 0 [] (by omega) (by simp) rfl
 rw [show ((0 : Nat) : Int) = 0 from rfl, show bp [] = [] from rfl] at h0
 refine callV_fn e.ref01_Join fun nd hnd => ?_
 simp (maxSteps := 1000000) (disch := first | omega | (simp only [lnS] <;> omega) | assumption | fail) [ref01_Join_B, wwS, -List.getD_eq_getElem?_getD, -List.drop_drop, h0]
include e in
theorem ref01_Join1 (a : List Nat) (hr : a.length ≤ room) : callV E "ref01.Join" [.v (.sl 1 [.sl a.length (bp a)])] [] = some ([ro a], [na], []) := by
 have := ref01_Join e [a] (by simpa using hr) (by simp [room])
 simpa [mp] using this
include e in
theorem ref01_Join2 (a b : List Nat) (hr : a.length + b.length ≤ room) : callV E "ref01.Join" [.v (.sl 2 [.sl a.length (bp a), .sl b.length (bp b)])] [] = some ([ro (a ++ b)], [na], []) := by
 have := ref01_Join e [a, b] (by simpa using hr) (by simp [room])
 simpa [mp] using this
end
end P01
end Go.Wb

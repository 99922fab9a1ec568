/- Chapter 2: a number's digits. -/
import Derived.Test.YtlbekhmgpfbgnaaWbvP02f
import Derived.Test.YtlbekhmgpfbgnaaWbA6
set_option maxRecDepth 100000
set_option linter.all false
namespace Go.Wb.P02
open Go Go.Wb Go.Wb.Code
section
variable {E : EnvW} (e : WbvC02Env E)
def sw (l : List Nat) (i j : Nat) : List Nat := (l.set i (l.getD j 0)).set j (l.getD i 0)
theorem sw_len {l : List Nat} {i j : Nat} : (sw l i j).length = l.length := by simp [sw]
theorem gE {l : List Nat} {i v : Nat} (h : i < l.length) : (l.set i v).getD i 0 = v := by
 simp [List.getD, h]
theorem gN {l : List Nat} {i j v : Nat} (h : i ≠ j) : (l.set i v).getD j 0 = l.getD j 0 := by
 simp [List.getD, List.getElem?_set_ne h]
theorem rev_of {l x : List Nat} (hl : x.length = l.length) (h : ∀ i, i < l.length → x.getD i 0 = l.getD (l.length - 1 - i) 0) : x = l.reverse := by
 apply List.ext_getElem
 ·simp [hl]
 ·intro i h1 h2
  have hi : i < l.length := by omega
  have := h i hi
  rw [List.getD_eq_getElem?_getD, List.getD_eq_getElem?_getD, List.getElem?_eq_getElem h1, List.getElem?_eq_getElem (by omega)] at this
  rw [List.getElem_reverse]
  simpa using this
theorem Rev_loop (l : List Nat) (hl : l.length ≤ room) : ∀ (m k N : Nat) (j : Int) (x : List Nat), l.length - k ≤ m → j = (l.length : Int) - 1 - k → N = l.length → x.length = l.length → k ≤ l.length →
 (∀ i, i < l.length → x.getD i 0 = if i < k ∨ l.length - k ≤ i then l.getD (l.length - 1 - i) 0 else l.getD i 0) →
 runV E (.loop [0, 2, 3] slices_Reverse_byte_byte_L0) (updT (updT (updT botT 3 (ti .i64 j)) 2 (ti .i64 k)) 0 (.own N 1 (bp x))) = some (.exit 0, updT botT 0 (.own l.length 1 (bp l.reverse)))
 | m, k, N, j, x, hm, hj, hN, hx, hkl, hg => by
   have hb := hl
   unfold room at hb
   by_cases hc : (k : Int) < j
   ·obtain ⟨m, rfl⟩ : ∃ m', m = m' + 1 := ⟨m - 1, by omega⟩
    obtain ⟨jn, rfl⟩ : ∃ jn : Nat, j = jn := ⟨j.toNat, by omega⟩
    have hNx : N = x.length := by omega
    subst hNx
    have hg2 : ∀ i, i < l.length → (sw x k jn).getD i 0 = if i < k + 1 ∨ l.length - (k + 1) ≤ i then l.getD (l.length - 1 - i) 0 else l.getD i 0 := by
     intro i hi
     unfold sw
     have a1 := hg k (by omega)
     have a2 := hg jn (by omega)
     rw [if_neg (by omega)] at a1 a2
     by_cases i1 : i = jn
     ·subst i1
      rw [gE (by simp; omega), a1, if_pos (by omega)]
      congr 1; omega
     ·rw [gN (Ne.symm i1)]
      by_cases i2 : i = k
      ·subst i2
       rw [gE (by omega), a2, if_pos (by omega)]
       congr 1; omega
      ·rw [gN (Ne.symm i2), hg i hi]
       by_cases h : i < k ∨ l.length - k ≤ i
       ·rw [if_pos h, if_pos (by omega)]
       ·rw [if_neg h, if_neg (by omega)]
    have ih := Rev_loop l hl m (k + 1) x.length ((jn : Int) - 1) (sw x k jn) (by omega) (by omega) hN (by rw [sw_len]; exact hx) (by omega) hg2
    have c1 : jn < x.length := by omega
    unfold sw at ih
    refine loop_go (by simp (maxSteps := 1000000) (disch := first | omega | (simp only [lnS] <;> omega) | assumption | fail) [slices_Reverse_byte_byte_L0, wwS, -List.getD_eq_getElem?_getD, -List.drop_drop, hc]; rfl) ?_
    exact ih
   ·have hr : x = l.reverse := rev_of hx (fun i hi => by
     rw [hg i hi]
     split
     ·rfl
     ·congr 1; omega)
    subst hr
    refine loop_out (by simp (maxSteps := 1000000) (disch := first | omega | (simp only [lnS] <;> omega) | assumption | fail) [slices_Reverse_byte_byte_L0, wwS, -List.getD_eq_getElem?_getD, -List.drop_drop, hc]; first | exact ⟨rfl, rfl⟩ | exact rfl) ?_ (by simp)
    rw [hN]
include e in
theorem Reverse (l : List Nat) (hl : l.length ≤ room) : callV E "slices.Reverse[[]byte,byte]" [.own l.length 1 (bp l)] [] = some ([], [.own l.length 1 (bp l.reverse)], []) := by
 have h := Rev_loop (E := E) l hl l.length 0 l.length ((l.length : Int) - 1) l (by omega) (by omega) rfl rfl (by omega) (fun i hi => by rw [if_neg (by omega)])
 rw [show ((0 : Nat) : Int) = 0 from rfl] at h
 unfold room at hl
 refine callV_fn e.slices_Reverse_byte_byte fun nd hnd => ?_
 simp (maxSteps := 1000000) (disch := first | omega | (simp only [lnS] <;> omega) | assumption | fail) [slices_Reverse_byte_byte_B, wwS, -List.getD_eq_getElem?_getD, -List.drop_drop, h]
 rw [show nd 0 = true by rw [hnd]; rfl]
 rfl
def digs : Nat → Nat → List Nat
 | 0, _ => []
 | k + 1, r => (48 + r % 10) :: digs k (r / 10)
def lastd : Nat → Nat → List Nat
 | 0, _ => []
 | k + 1, r => if r = 0 then [] else (48 + r % 10) :: lastd k (r / 10)
theorem dig_loop (a b c d : Nat) : ∀ (m k N r : Nat) (x : List Nat), k + m = 18 → N = x.length → x.length ≤ 1000 + k → r < 18446744073709551616 →
 runV E (.loop [1, 3, 4, 5, 6, 16] wide_Text_L0) (updT (updT (updT (updT (updT (updT botT 16 (ti .i64 (k : Int))) 6 (tb false)) 5 (ti .u64 (r : Int))) 4 (wb c d)) 3 (.own N 1 (bp x))) 1 (wb a b)) =
  some (.exit 2, updT (updT (updT (updT botT 6 (tb false)) 4 (wb c d)) 3 (.own (x ++ digs m r).length 1 (bp (x ++ digs m r)))) 1 (wb a b))
 | 0, k, N, r, x, hk, hN, hx, hr => by
   have hc : ¬ ((k : Int) < 18) := by omega
   refine loop_out (by simp (maxSteps := 1000000) (disch := first | omega | (simp only [lnS] <;> omega) | assumption | fail) [wide_Text_L0, wwS, -List.getD_eq_getElem?_getD, -List.drop_drop, hc]; first | exact ⟨rfl, rfl⟩ | exact rfl) ?_ (by simp)
   rw [hN]; simp [digs]
 | m + 1, k, N, r, x, hk, hN, hx, hr => by
   have hc : ((k : Int) < 18) := by omega
   have h48 : (48 + (r : Int) % 10) = ((48 + r % 10 : Nat) : Int) := by omega
   have h10 : (r : Int) / 10 = ((r / 10 : Nat) : Int) := by omega
   have ih := dig_loop a b c d m (k + 1) (N + 1) (r / 10) (x ++ [48 + r % 10]) (by omega) (by simp [hN]) (by simp; omega) (by omega)
   refine loop_go (by simp (maxSteps := 1000000) (disch := first | omega | (simp only [lnS] <;> omega) | assumption | fail) [wide_Text_L0, wwS, -List.getD_eq_getElem?_getD, -List.drop_drop, hc]; rfl) ?_
   rw [h48, h10]
   simp only [digs]
   rw [show x ++ (48 + r % 10) :: digs m (r / 10) = (x ++ [48 + r % 10]) ++ digs m (r / 10) by simp]
   exact ih
theorem last_loop (a b c d : Nat) : ∀ (m k N r : Nat) (x : List Nat), k + m = 18 → 0 < k → N = x.length → x.length ≤ 1000 + k → r < 18446744073709551616 →
 runV E (.loop [1, 3, 4, 5, 6, 16] wide_Text_L0) (updT (updT (updT (updT (updT (updT botT 16 (ti .i64 (k : Int))) 6 (tb true)) 5 (ti .u64 (r : Int))) 4 (wb c d)) 3 (.own N 1 (bp x))) 1 (wb a b)) =
  some (.exit 2, updT (updT (updT (updT botT 6 (tb true)) 4 (wb c d)) 3 (.own (x ++ lastd m r).length 1 (bp (x ++ lastd m r)))) 1 (wb a b))
 | 0, k, N, r, x, hk, h0, hN, hx, hr => by
   have hc : ¬ ((k : Int) < 18) := by omega
   refine loop_out (by simp (maxSteps := 1000000) (disch := first | omega | (simp only [lnS] <;> omega) | assumption | fail) [wide_Text_L0, wwS, -List.getD_eq_getElem?_getD, -List.drop_drop, hc]; first | exact ⟨rfl, rfl⟩ | exact rfl) ?_ (by simp)
   rw [hN]; simp [lastd]
 | m + 1, k, N, r, x, hk, h0, hN, hx, hr => by
   have hc : ((k : Int) < 18) := by omega
   have hk0 : (0 : Int) < k := by omega
   have hk1 : 0 < k := h0
   by_cases hz : r = 0
   ·subst hz
    simp only [lastd, if_true, List.append_nil]
    have hz : ((0 : Nat) : Int) = 0 := rfl
    refine loop_out (by simp (maxSteps := 1000000) (disch := first | omega | (simp only [lnS] <;> omega) | assumption | fail) [wide_Text_L0, wwS, -List.getD_eq_getElem?_getD, -List.drop_drop, hc, hk0, hk1]; first | exact ⟨rfl, rfl⟩ | exact rfl) ?_ (by simp)
    rw [hN]
   ·have h48 : (48 + (r : Int) % 10) = ((48 + r % 10 : Nat) : Int) := by omega
    have h10 : (r : Int) / 10 = ((r / 10 : Nat) : Int) := by omega
    have ih := last_loop a b c d m (k + 1) (N + 1) (r / 10) (x ++ [48 + r % 10]) (by omega) (by omega) (by simp [hN]) (by simp; omega) (by omega)
    refine loop_go (by simp (maxSteps := 1000000) (disch := first | omega | (simp only [lnS] <;> omega) | assumption | fail) [wide_Text_L0, wwS, -List.getD_eq_getElem?_getD, -List.drop_drop, hc, hk0, hk1, hz]; rfl) ?_
    rw [h48, h10]
    simp only [lastd, if_neg hz]
    rw [show x ++ (48 + r % 10) :: lastd m (r / 10) = (x ++ [48 + r % 10]) ++ lastd m (r / 10) by simp]
    exact ih
theorem last_all (a b c d N r : Nat) (x : List Nat) (hN : N = x.length) (hx : x.length ≤ 1000) (hr : r < 18446744073709551616) :
 runV E (.loop [1, 3, 4, 5, 6, 16] wide_Text_L0) (updT (updT (updT (updT (updT (updT botT 16 (ti .i64 0)) 6 (tb true)) 5 (ti .u64 (r : Int))) 4 (wb c d)) 3 (.own N 1 (bp x))) 1 (wb a b)) =
  some (.exit 2, updT (updT (updT (updT botT 6 (tb true)) 4 (wb c d)) 3 (.own (x ++ (48 + r % 10) :: lastd 17 (r / 10)).length 1 (bp (x ++ (48 + r % 10) :: lastd 17 (r / 10))))) 1 (wb a b)) := by
 have h48 : (48 + (r : Int) % 10) = ((48 + r % 10 : Nat) : Int) := by omega
 have h10 : (r : Int) / 10 = ((r / 10 : Nat) : Int) := by omega
 have ih := last_loop (E := E) a b c d 17 1 (N + 1) (r / 10) (x ++ [48 + r % 10]) (by omega) (by omega) (by simp [hN]) (by simp; omega) (by omega)
 rw [show ((1 : Nat) : Int) = 1 from rfl] at ih
 rw [show x ++ (48 + r % 10) :: lastd 17 (r / 10) = (x ++ [48 + r % 10]) ++ lastd 17 (r / 10) by simp]
 by_cases hz : r = 0
 ·subst hz
  have ih : runV E (.loop [1, 3, 4, 5, 6, 16] wide_Text_L0) (updT (updT (updT (updT (updT (updT botT 16 (ti .i64 1)) 6 (tb true)) 5 (ti .u64 0)) 4 (wb c d)) 3 (.own (N + 1) 1 (bp (x ++ [48 + 0 % 10])))) 1 (wb a b)) = _ := ih
  subst hN
  refine loop_go (by simp (maxSteps := 1000000) (disch := first | omega | (simp only [lnS] <;> omega) | assumption | fail) [wide_Text_L0, wwS, -List.getD_eq_getElem?_getD, -List.drop_drop, hx]; rfl) ?_
  exact ih
 ·refine loop_go (by simp (maxSteps := 1000000) (disch := first | omega | (simp only [lnS] <;> omega) | assumption | fail) [wide_Text_L0, wwS, -List.getD_eq_getElem?_getD, -List.drop_drop, hz]; rfl) ?_
  rw [h48, h10]
  exact ih
theorem Text_more {a b c d r N : Nat} {x : List Nat} {R} (hN : N = x.length) (hx : x.length ≤ 500) (hr : r < 18446744073709551616) (hcd : ¬ (c = 0 ∧ d = 0))
 (q : callV E "wide.Div" [.v (wv a b), vk .u64 1000000000000000000] [] = some ([.v (wv c d), rk .u64 r], [na, na], []))
 (h : runV E (.loop [1, 3] wide_Text_L1) (updT (updT botT 3 (.own (x ++ digs 18 r).length 1 (bp (x ++ digs 18 r)))) 1 (wb c d)) = R) :
 runV E (.loop [1, 3] wide_Text_L1) (updT (updT botT 3 (.own N 1 (bp x))) 1 (wb a b)) = R := by
 subst h
 have hl := dig_loop (E := E) a b c d 18 0 N r x (by omega) hN (by omega) hr
 rw [show ((0 : Nat) : Int) = 0 from rfl] at hl
 subst hN
 generalize x ++ digs 18 r = y at *
 by_cases hc : c = 0
 ·have hd : ¬ d = 0 := fun h => hcd ⟨hc, h⟩
  subst hc
  have q : callV E "wide.Div" [.v (wv a b), vk .u64 1000000000000000000] [] = some ([.v (.agg [.sc (.int .u64 0), .sc (.int .u64 (d : Int))]), rk .u64 r], [na, na], []) := q
  have hl : runV E (.loop [1, 3, 4, 5, 6, 16] wide_Text_L0) (updT (updT (updT (updT (updT (updT botT 16 (ti .i64 0)) 6 (tb false)) 5 (ti .u64 (r : Int))) 4 (.box [.v (.sc (.int .u64 0)), .v (.sc (.int .u64 (d : Int)))])) 3 (.own x.length 1 (bp x))) 1 (wb a b)) =
   some (.exit 2, updT (updT (updT (updT botT 6 (tb false)) 4 (.box [.v (.sc (.int .u64 0)), .v (.sc (.int .u64 (d : Int)))])) 3 (.own y.length 1 (bp y))) 1 (wb a b)) := hl
  have hdb : ((d : Int) == 0) = false := beq_eq_false_iff_ne.2 (by omega)
  refine loop_go (by simp (maxSteps := 1000000) (disch := first | omega | (simp only [lnS] <;> omega) | assumption | fail) [wide_Text_L1, wwS, -List.getD_eq_getElem?_getD, -List.drop_drop, q, hdb, hl]; rfl) ?_
  rfl
 ·have hcb : ((c : Int) == 0) = false := beq_eq_false_iff_ne.2 (by omega)
  refine loop_go (by simp (maxSteps := 1000000) (disch := first | omega | (simp only [lnS] <;> omega) | assumption | fail) [wide_Text_L1, wwS, -List.getD_eq_getElem?_getD, -List.drop_drop, q, hcb, hl]; rfl) ?_
  rfl
theorem Text_last {a b r N : Nat} {x : List Nat} (hN : N = x.length) (hx : x.length ≤ 500) (hr : r < 18446744073709551616)
 (q : callV E "wide.Div" [.v (wv a b), vk .u64 1000000000000000000] [] = some ([.v (wv 0 0), rk .u64 r], [na, na], [])) :
 runV E (.loop [1, 3] wide_Text_L1) (updT (updT botT 3 (.own N 1 (bp x))) 1 (wb a b)) = some (.exit 0, updT botT 3 (.own (x ++ (48 + r % 10) :: lastd 17 (r / 10)).length 1 (bp (x ++ (48 + r % 10) :: lastd 17 (r / 10))))) := by
 have hl := last_all (E := E) a b 0 0 N r x hN (by omega) hr
 subst hN
 generalize x ++ (48 + r % 10) :: lastd 17 (r / 10) = y at *
 have q : callV E "wide.Div" [.v (wv a b), vk .u64 1000000000000000000] [] = some ([.v (.agg [.sc (.int .u64 0), .sc (.int .u64 0)]), rk .u64 r], [na, na], []) := q
 have hl : runV E (.loop [1, 3, 4, 5, 6, 16] wide_Text_L0) (updT (updT (updT (updT (updT (updT botT 16 (ti .i64 0)) 6 (tb true)) 5 (ti .u64 (r : Int))) 4 (.box [.v (.sc (.int .u64 0)), .v (.sc (.int .u64 0))])) 3 (.own x.length 1 (bp x))) 1 (wb a b)) =
  some (.exit 2, updT (updT (updT (updT botT 6 (tb true)) 4 (.box [.v (.sc (.int .u64 0)), .v (.sc (.int .u64 0))])) 3 (.own y.length 1 (bp y))) 1 (wb a b)) := hl
 refine loop_out (by simp (maxSteps := 1000000) (disch := first | omega | (simp only [lnS] <;> omega) | assumption | fail) [wide_Text_L1, wwS, -List.getD_eq_getElem?_getD, -List.drop_drop, q, hl]; first | exact ⟨rfl, rfl⟩ | exact rfl) ?_ (by simp)
 rfl
def txt : Nat → Nat → List Nat
 | 0, N => (48 + N % 10) :: lastd 17 (N / 10)
 | f + 1, N => if N < 1000000000000000000 then (48 + N % 10) :: lastd 17 (N / 10) else digs 18 (N % 1000000000000000000) ++ txt f (N / 1000000000000000000)
theorem txt_small {f N : Nat} (h : N < 1000000000000000000) : txt f N = (48 + N % 10) :: lastd 17 (N / 10) := by
 cases f with
 | zero => rfl
 | succ f => rw [txt, if_pos h]
theorem digs_len : ∀ {k r : Nat}, (digs k r).length = k
 | 0, _ => rfl
 | k + 1, r => by simp [digs, digs_len]
include e in
theorem Text_small {a b f N : Nat} {x : List Nat} (ha : a < 18446744073709551616) (hb : b < 18446744073709551616) (h : nv a b < 1000000000000000000) (hN : N = x.length) (hx : x.length ≤ 500) :
 runV E (.loop [1, 3] wide_Text_L1) (updT (updT botT 3 (.own N 1 (bp x))) 1 (wb a b)) = some (.exit 0, updT botT 3 (.own (x ++ txt f (nv a b)).length 1 (bp (x ++ txt f (nv a b))))) := by
 obtain ⟨c, d, h1, h2, h3, q⟩ := wide_Div e 1000000000000000000 a b (by decide) (by decide) ha hb
 rw [Nat.div_eq_of_lt h] at h3
 have hc : c = 0 := by unfold nv at h3; omega
 have hd : d = 0 := by unfold nv at h3; omega
 subst hc hd
 rw [Nat.mod_eq_of_lt h] at q
 rw [txt_small h]
 exact Text_last (E := E) hN hx (by omega) q
theorem Text_big {A c d : Nat} (h : ¬ A < 1000000000000000000) (h3 : nv c d = A / 1000000000000000000) : ¬ (c = 0 ∧ d = 0) := by
 rintro ⟨rfl, rfl⟩
 have h0 : nv 0 0 = 0 := by simp [nv]
 rw [h0] at h3
 omega
include e in
theorem Text_loop (f : Nat) : ∀ (a b N : Nat) (x : List Nat), a < 18446744073709551616 → b < 18446744073709551616 → nv a b < 1000000000000000000 ^ (f + 1) → N = x.length → x.length + 18 * (f + 1) ≤ 500 →
 runV E (.loop [1, 3] wide_Text_L1) (updT (updT botT 3 (.own N 1 (bp x))) 1 (wb a b)) = some (.exit 0, updT botT 3 (.own (x ++ txt f (nv a b)).length 1 (bp (x ++ txt f (nv a b))))) := by
 induction f with
 | zero =>
   intro a b N x ha hb hlt hN hx
   rw [Nat.zero_add, Nat.pow_one] at hlt
   exact Text_small e ha hb hlt hN (by omega)
 | succ f ih =>
   intro a b N x ha hb hlt hN hx
   by_cases h : nv a b < 1000000000000000000
   ·exact Text_small e ha hb h hN (by omega)
   ·obtain ⟨c, d, h1, h2, h3, q⟩ := wide_Div e 1000000000000000000 a b (by decide) (by decide) ha hb
    have hr : nv a b % 1000000000000000000 < 18446744073709551616 := Nat.lt_trans (Nat.mod_lt _ (by decide)) (by decide)
    have hlt2 : nv c d < 1000000000000000000 ^ (f + 1) := by
     rw [h3]
     rw [Nat.pow_succ] at hlt
     exact (Nat.div_lt_iff_lt_mul (by decide)).2 hlt
    have ih := ih c d _ (x ++ digs 18 (nv a b % 1000000000000000000)) h1 h2 hlt2 rfl (by rw [List.length_append, digs_len]; omega)
    rw [txt, if_neg h, ← List.append_assoc, ← h3]
    exact Text_more hN (by omega) hr (Text_big h h3) q ih
theorem lastd_len : ∀ {k r : Nat}, (lastd k r).length ≤ k
 | 0, _ => Nat.le_refl _
 | k + 1, r => by
   unfold lastd
   split
   ·simp
   ·simp [lastd_len]
theorem txt_len : ∀ {f N : Nat}, (txt f N).length ≤ 18 * (f + 1)
 | 0, N => by have := lastd_len (k := 17) (r := N / 10); simp [txt]; omega
 | f + 1, N => by
   unfold txt
   split
   ·have := lastd_len (k := 17) (r := N / 10); simp; omega
   ·have := txt_len (f := f) (N := N / 1000000000000000000)
    rw [List.length_append, digs_len]; omega
include e in
theorem Text_run {a b : Nat} {y : List Nat} (hy : y.length ≤ 500)
 (h : runV E (.loop [1, 3] wide_Text_L1) (updT (updT botT 3 (.own 0 1 (bp []))) 1 (wb a b)) = some (.exit 0, updT botT 3 (.own y.length 1 (bp y)))) :
 callV E "wide.Text" [.v (wv a b)] [] = some ([rs (sb y.reverse)], [na], []) := by
 have h : runV E (.loop [1, 3] wide_Text_L1) (updT (updT botT 3 (.own 0 1 [])) 1 (wb a b)) = some (.exit 0, updT botT 3 (.own y.length 1 (bp y))) := h
 have hr := Reverse e y (by unfold room; omega)
 refine callV_fn e.wide_Text fun nd hnd => ?_
 simp (maxSteps := 1000000) (disch := first | omega | (simp only [lnS] <;> omega) | assumption | fail) [wide_Text_B, wwS, -List.getD_eq_getElem?_getD, -List.drop_drop, h, hr]
 rw [← List.map_reverse]
 rfl
theorem pow54 : (2 : Nat) ^ 128 ≤ 1000000000000000000 ^ (2 + 1) := by decide
theorem le500 {n : Nat} (h : n ≤ 18 * (2 + 1)) : n ≤ 500 := by omega
theorem lt54 {a b : Nat} (ha : a < 18446744073709551616) (hb : b < 18446744073709551616) : nv a b < 1000000000000000000 ^ (2 + 1) := Nat.lt_of_lt_of_le (nv_lt ha hb) pow54
include e in
theorem Text_whole {a b : Nat} (ha : a < 18446744073709551616) (hb : b < 18446744073709551616) :
 ∃ y : List Nat, y = txt 2 (nv a b) ∧ y.length ≤ 500 ∧ runV E (.loop [1, 3] wide_Text_L1) (updT (updT botT 3 (.own 0 1 (bp []))) 1 (wb a b)) = some (.exit 0, updT botT 3 (.own y.length 1 (bp y))) :=
 ⟨[] ++ txt 2 (nv a b), List.nil_append _, le500 (by rw [List.nil_append]; exact txt_len), Text_loop e 2 a b 0 [] ha hb (lt54 ha hb) rfl (by decide)⟩
include e in
theorem wide_Text (a b : Nat) (ha : a < 18446744073709551616) (hb : b < 18446744073709551616) : callV E "wide.Text" [.v (wv a b)] [] = some ([rs (sb (txt 2 (nv a b)).reverse)], [na], []) := by
 obtain ⟨y, hy, h1, h2⟩ := Text_whole e ha hb
 rw [← hy]
 exact Text_run e h1 h2
include e in
theorem wide_Cap (a b m : Nat) (hb : b < 18446744073709551616) (hm : m < 18446744073709551616) : callV E "wide.Cap" [.v (wv a b), vk .u64 m] [] = some ([rk .u64 (min (nv a b) m : Nat)], [na, na], []) := by
 by_cases h : a = 0
 ·subst h
  have hn : nv 0 b = b := by simp [nv]
  rw [hn]
  by_cases hc : b ≤ m
  ·rw [Nat.min_eq_left hc]
   have h1 : (b : Int) ≤ m := by omega
   refine callV_fn e.wide_Cap fun nd hnd => ?_
   simp (maxSteps := 1000000) (disch := first | omega | (simp only [lnS] <;> omega) | assumption | fail) [wide_Cap_B, wwS, -List.getD_eq_getElem?_getD, -List.drop_drop, h1, hc]
   omega
  ·rw [Nat.min_eq_right (by omega)]
   have h1 : ¬ (b : Int) ≤ m := by omega
   refine callV_fn e.wide_Cap fun nd hnd => ?_
   simp (maxSteps := 1000000) (disch := first | omega | (simp only [lnS] <;> omega) | assumption | fail) [wide_Cap_B, wwS, -List.getD_eq_getElem?_getD, -List.drop_drop, h1, hc]
   omega
 ·have hn : min (nv a b) m = m := Nat.min_eq_right (by unfold nv; omega)
  rw [hn]
  refine callV_fn e.wide_Cap fun nd hnd => ?_
  simp (maxSteps := 1000000) (disch := first | omega | (simp only [lnS] <;> omega) | assumption | fail) [wide_Cap_B, wwS, -List.getD_eq_getElem?_getD, -List.drop_drop, h]
end
end Go.Wb.P02

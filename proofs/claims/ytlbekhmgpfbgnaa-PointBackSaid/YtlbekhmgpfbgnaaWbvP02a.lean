/- Chapter 2: sums, differences, and which is less, bit by bit. -/
import Derived.Test.YtlbekhmgpfbgnaaWbvP02
set_option maxRecDepth 100000
set_option linter.all false
namespace Go.Wb.P02
open Go Go.Wb Go.Wb.Code
def cy : Nat → Nat → Nat → Nat → Nat
 | 0, _, _, c => c
 | m + 1, A, B, c => cy m (A / 2) (B / 2) ((A % 2 + B % 2 + c) / 2)
theorem cy_eq : ∀ (m A B c : Nat), A < 2 ^ m → B < 2 ^ m → cy m A B c = (A + B + c) / 2 ^ m
 | 0, A, B, c, hA, hB => by
   have : A = 0 := by simpa using hA
   have : B = 0 := by simpa using hB
   subst_vars
   simp [cy]
 | m + 1, A, B, c, hA, hB => by
   rw [Nat.pow_succ] at hA hB
   rw [cy, cy_eq m _ _ _ (by omega) (by omega), Nat.pow_succ, Nat.mul_comm, ← Nat.div_div_eq_div_mul]
   congr 1
   omega
def bw : Nat → Nat → Nat → Nat → Nat
 | 0, _, _, w => w
 | m + 1, A, B, w => bw m (A / 2) (B / 2) (if A % 2 < B % 2 + w then 1 else 0)
theorem bw_eq : ∀ (m A B w : Nat), A < 2 ^ m → B < 2 ^ m → w ≤ 1 → bw m A B w = if A < B + w then 1 else 0
 | 0, A, B, w, hA, hB, hw => by
   have : A = 0 := by simpa using hA
   have : B = 0 := by simpa using hB
   subst_vars
   unfold bw
   split <;> omega
 | m + 1, A, B, w, hA, hB, hw => by
   rw [Nat.pow_succ] at hA hB
   rw [bw, bw_eq m _ _ _ (by omega) (by omega) (by split <;> omega)]
   congr 1
   by_cases h : A % 2 < B % 2 + w
   ·rw [if_pos h]; apply propext; omega
   ·rw [if_neg h]; apply propext; omega
theorem bl_sub {m A B w : Nat} (hA : A < 2 ^ (m + 1)) (hB : B < 2 ^ (m + 1)) (hw : w ≤ 1) :
 bl (m + 1) (A + 2 ^ (m + 1) - B - w) = ((if A % 2 < B % 2 + w then A % 2 + 2 - B % 2 - w else A % 2 - B % 2 - w : Nat) : Int) :: bl m (A / 2 + 2 ^ m - B / 2 - (if A % 2 < B % 2 + w then 1 else 0)) := by
 rw [Nat.pow_succ] at *
 generalize 2 ^ m = P at *
 simp only [bl]
 by_cases h : A % 2 < B % 2 + w
 ·rw [if_pos h, if_pos h]
  congr 2 <;> omega
 ·rw [if_neg h, if_neg h]
  congr 2 <;> omega
section
variable {E : EnvW} (e : WbvC02Env E)
theorem set_mid {p r : List Int} {x v : Int} {k : Nat} (hp : p.length = k) : (p ++ x :: r).set k v = (p ++ [v]) ++ r := by
 rw [List.set_append_right _ _ (by omega), hp, Nat.sub_self, List.set_cons_zero, List.append_assoc]; rfl
theorem get_mid {p r : List Int} {x : Int} {k : Nat} (hp : p.length = k) : (p ++ x :: r).getD k 0 = x := by
 rw [List.getD_eq_getElem?_getD, List.getElem?_append_right (by omega), hp, Nat.sub_self]; rfl
abbrev w0 : TV := .box [.v (.sc (.int .u64 0)), .v (.sc (.int .u64 0))]
theorem Add_loop (ys : List Int) (hys : ys.length = 128) : ∀ (m k : Nat) (p l : List Int) (A B c : Nat), k + m = 128 → l = p ++ bl m A → p.length = k → ys.drop k = bl m B → c ≤ 1 →
 runV E (.loop [4, 6, 7, 8, 9] ref02_Add_L0) (updT (updT (updT (updT (updT botT 9 (ti .i64 k)) 8 (ti .i64 c)) 7 (.box (kc .i64 ys))) 6 (.box (kc .i64 l))) 4 w0) =
  some (.exit 0, updT (updT (updT botT 8 (ti .i64 (cy m A B c : Nat))) 6 (.box (kc .i64 (p ++ bl m (A + B + c))))) 4 w0)
 | 0, k, p, l, A, B, c, hk, hl, hp, hd, hc' => by
   have hc : ¬ ((k : Int) < 128) := by omega
   refine loop_out (by simp (maxSteps := 1000000) (disch := first | omega | (simp only [lnS] <;> omega) | assumption | fail) [ref02_Add_L0, wwS, -List.getD_eq_getElem?_getD, -List.drop_drop, hc]; first | exact ⟨rfl, rfl⟩ | exact rfl) ?_ (by simp)
   rw [hl]; rfl
 | m + 1, k, p, l, A, B, c, hk, hl, hp, hd, hc' => by
   have hc : ((k : Int) < 128) := by omega
   have hlen : l.length = 128 := by rw [hl]; simp [bl_len]; omega
   have g1 : l.getD k 0 = (A : Int) % 2 := by rw [hl]; simp only [bl]; rw [get_mid hp]; omega
   have g2 : ys.getD k 0 = (B : Int) % 2 := by
    rw [List.drop_eq_getElem_cons (by omega)] at hd
    simp only [bl, List.cons.injEq] at hd
    rw [List.getD_eq_getElem?_getD, List.getElem?_eq_getElem (by omega), Option.getD_some, hd.1]; omega
   have hd' : ys.drop (k + 1) = bl m (B / 2) := by
    rw [List.drop_eq_getElem_cons (by omega)] at hd
    simp only [bl, List.cons.injEq] at hd
    exact hd.2
   have s1 : l.set k (((A : Int) % 2 + B % 2 + c) % 2) = (p ++ [(((A + B + c) % 2 : Nat) : Int)]) ++ bl m (A / 2) := by
    rw [hl]; simp only [bl]
    rw [set_mid hp]
    congr 3; omega
   have s2 : ((A : Int) % 2 + B % 2 + c) / 2 = (((A % 2 + B % 2 + c) / 2 : Nat) : Int) := by omega
   refine loop_go (by simp (maxSteps := 1000000) (disch := first | omega | (simp only [lnS] <;> omega) | assumption | fail) [ref02_Add_L0, wwS, -List.getD_eq_getElem?_getD, -List.drop_drop, hc, hlen, hys, g1, g2]; rfl) ?_
   rw [s1, s2, show (k : Int) + 1 = ((k + 1 : Nat) : Int) by omega]
   have ih := Add_loop ys hys m (k + 1) (p ++ [(((A + B + c) % 2 : Nat) : Int)]) _ (A / 2) (B / 2) ((A % 2 + B % 2 + c) / 2) (by omega) rfl (by simp [hp]) hd' (by omega)
   rw [ih]
   simp only [cy, bl, List.append_assoc, List.cons_append, List.nil_append]
   rw [show A / 2 + B / 2 + (A % 2 + B % 2 + c) / 2 = (A + B + c) / 2 by omega]
theorem Sub_loop (ys : List Int) (hys : ys.length = 128) : ∀ (m k : Nat) (p l : List Int) (A B c : Nat), k + m = 128 → l = p ++ bl m A → p.length = k → ys.drop k = bl m B → c ≤ 1 → A < 2 ^ m → B < 2 ^ m →
 runV E (.loop [4, 6, 7, 8, 9] ref02_Sub_L0) (updT (updT (updT (updT (updT botT 9 (ti .i64 k)) 8 (ti .i64 c)) 7 (.box (kc .i64 ys))) 6 (.box (kc .i64 l))) 4 w0) =
  some (.exit 0, updT (updT (updT botT 8 (ti .i64 (bw m A B c : Nat))) 6 (.box (kc .i64 (p ++ bl m (A + 2 ^ m - B - c))))) 4 w0)
 | 0, k, p, l, A, B, c, hk, hl, hp, hd, hc', hA, hB => by
   have hc : ¬ ((k : Int) < 128) := by omega
   refine loop_out (by simp (maxSteps := 1000000) (disch := first | omega | (simp only [lnS] <;> omega) | assumption | fail) [ref02_Sub_L0, wwS, -List.getD_eq_getElem?_getD, -List.drop_drop, hc]; first | exact ⟨rfl, rfl⟩ | exact rfl) ?_ (by simp)
   rw [hl]; rfl
 | m + 1, k, p, l, A, B, c, hk, hl, hp, hd, hc', hA, hB => by
   have hc : ((k : Int) < 128) := by omega
   have hlen : l.length = 128 := by rw [hl]; simp [bl_len]; omega
   have g1 : l.getD k 0 = (A : Int) % 2 := by rw [hl]; simp only [bl]; rw [get_mid hp]; omega
   have g2 : ys.getD k 0 = (B : Int) % 2 := by
    rw [List.drop_eq_getElem_cons (by omega)] at hd
    simp only [bl, List.cons.injEq] at hd
    rw [List.getD_eq_getElem?_getD, List.getElem?_eq_getElem (by omega), Option.getD_some, hd.1]; omega
   have hd' : ys.drop (k + 1) = bl m (B / 2) := by
    rw [List.drop_eq_getElem_cons (by omega)] at hd
    simp only [bl, List.cons.injEq] at hd
    exact hd.2
   have hb := bl_sub hA hB hc'
   rw [Nat.pow_succ] at hA hB
   rw [hb]
   have ih := fun v c' h => Sub_loop ys hys m (k + 1) (p ++ [v]) _ (A / 2) (B / 2) c' (by omega) rfl (by simp [hp]) hd' h (by omega) (by omega)
   simp only [bw]
   by_cases h : A % 2 < B % 2 + c
   ·have h' : (A : Int) % 2 - B % 2 - c < 0 := by omega
    have s1 : l.set k ((A : Int) % 2 - B % 2 - c + 2) = (p ++ [((A % 2 + 2 - B % 2 - c : Nat) : Int)]) ++ bl m (A / 2) := by
     rw [hl]; simp only [bl]
     rw [set_mid hp]
     congr 3; omega
    refine loop_go (by simp (maxSteps := 1000000) (disch := first | omega | (simp only [lnS] <;> omega) | assumption | fail) [ref02_Sub_L0, wwS, -List.getD_eq_getElem?_getD, -List.drop_drop, hc, hlen, hys, g1, g2, h']; rfl) ?_
    rw [s1, show (k : Int) + 1 = ((k + 1 : Nat) : Int) by omega, if_pos h, if_pos h]
    have ih := ih ((A % 2 + 2 - B % 2 - c : Nat) : Int) 1 (by omega)
    rw [show ((1 : Nat) : Int) = 1 from rfl] at ih
    rw [ih]
    simp only [List.append_assoc, List.cons_append, List.nil_append]
   ·have h' : ¬ ((A : Int) % 2 - B % 2 - c < 0) := by omega
    have s1 : l.set k ((A : Int) % 2 - B % 2 - c) = (p ++ [((A % 2 - B % 2 - c : Nat) : Int)]) ++ bl m (A / 2) := by
     rw [hl]; simp only [bl]
     rw [set_mid hp]
     congr 3; omega
    refine loop_go (by simp (maxSteps := 1000000) (disch := first | omega | (simp only [lnS] <;> omega) | assumption | fail) [ref02_Sub_L0, wwS, -List.getD_eq_getElem?_getD, -List.drop_drop, hc, hlen, hys, g1, g2, h']; rfl) ?_
    rw [s1, show (k : Int) + 1 = ((k + 1 : Nat) : Int) by omega, if_neg h, if_neg h]
    have ih := ih ((A % 2 - B % 2 - c : Nat) : Int) 0 (by omega)
    rw [show ((0 : Nat) : Int) = 0 from rfl] at ih
    rw [ih]
    simp only [List.append_assoc, List.cons_append, List.nil_append]
abbrev M64 : Nat := 18446744073709551616
abbrev M128 : Nat := 340282366920938463463374607431768211456
theorem nv_lt {a b : Nat} (ha : a < 18446744073709551616) (hb : b < 18446744073709551616) : nv a b < 2 ^ 128 := by
 have : (2 : Nat) ^ 128 = 340282366920938463463374607431768211456 := by decide
 rw [this]; unfold nv; omega
abbrev wM (N : Nat) : PV := wv (N / 18446744073709551616) (N % 18446744073709551616)
include e in
theorem ref02_Add (a b c d : Nat) (ha : a < 18446744073709551616) (hb : b < 18446744073709551616) (hc : c < 18446744073709551616) (hd : d < 18446744073709551616) :
 callV E "ref02.Add" [.v (wv a b), .v (wv c d)] [] = some ([.v (wM ((nv a b + nv c d) % 340282366920938463463374607431768211456)), rB (decide (340282366920938463463374607431768211456 ≤ nv a b + nv c d))], [na, na], []) := by
 have q1 := ref02_Bits e a b ha hb
 have q2 := ref02_Bits e c d hc hd
 have hA := nv_lt ha hb
 have hB := nv_lt hc hd
 have hl := Add_loop (E := E) (bl 128 (nv c d)) bl_len 128 0 [] (bl 128 (nv a b)) (nv a b) (nv c d) 0 (by omega) rfl rfl rfl (by omega)
 rw [show ((0 : Nat) : Int) = 0 from rfl, cy_eq 128 _ _ _ hA hB, ← bl_mod 128 (nv a b + nv c d + 0), Nat.add_zero] at hl
 have hp : (2 : Nat) ^ 128 = 340282366920938463463374607431768211456 := by decide
 rw [hp] at hl hA hB
 have q3 := ref02_whole e ((nv a b + nv c d) % 340282366920938463463374607431768211456) (Nat.mod_lt _ (by decide))
 have l1 : (bl 128 (nv a b)).length = 128 := bl_len
 have l2 : (bl 128 (nv c d)).length = 128 := bl_len
 have l3 : (bl 128 ((nv a b + nv c d) % 340282366920938463463374607431768211456)).length = 128 := bl_len
 have hz : (zi 128 0).length = 128 := zi_len
 have hcar : decide ((((nv a b + nv c d) / 340282366920938463463374607431768211456 : Nat) : Int) = 1) = decide (340282366920938463463374607431768211456 ≤ nv a b + nv c d) := decide_eq_decide.2 (by omega)
 unfold wM
 simp only [List.nil_append] at hl
 generalize (nv a b + nv c d) / 340282366920938463463374607431768211456 = car at *
 generalize bl 128 ((nv a b + nv c d) % 340282366920938463463374607431768211456) = x3 at *
 generalize bl 128 (nv a b) = x1 at *
 generalize bl 128 (nv c d) = x2 at *
 generalize (nv a b + nv c d) % 340282366920938463463374607431768211456 / 18446744073709551616 = rh at *
 generalize (nv a b + nv c d) % 340282366920938463463374607431768211456 % 18446744073709551616 = rl at *
 rw [← hcar]
 clear hcar hA hB
 refine callV_fn e.ref02_Add fun nd hnd => ?_
 simp (maxSteps := 1000000) (disch := first | omega | (simp only [lnS] <;> omega) | assumption | fail) [ref02_Add_B, wwS, -List.getD_eq_getElem?_getD, -List.drop_drop, q1, q2, q3, hl, l1, l2, l3, hz]
include e in
theorem ref02_Sub (a b c d : Nat) (ha : a < 18446744073709551616) (hb : b < 18446744073709551616) (hc : c < 18446744073709551616) (hd : d < 18446744073709551616) :
 callV E "ref02.Sub" [.v (wv a b), .v (wv c d)] [] = some ([.v (wM ((nv a b + 340282366920938463463374607431768211456 - nv c d) % 340282366920938463463374607431768211456)), rB (decide (nv a b < nv c d))], [na, na], []) := by
 have q1 := ref02_Bits e a b ha hb
 have q2 := ref02_Bits e c d hc hd
 have hA := nv_lt ha hb
 have hB := nv_lt hc hd
 have hl := Sub_loop (E := E) (bl 128 (nv c d)) bl_len 128 0 [] (bl 128 (nv a b)) (nv a b) (nv c d) 0 (by omega) rfl rfl rfl (by omega) hA hB
 rw [show ((0 : Nat) : Int) = 0 from rfl, bw_eq 128 _ _ _ hA hB (by omega), ← bl_mod 128 (nv a b + 2 ^ 128 - nv c d - 0), Nat.sub_zero, Nat.add_zero] at hl
 have hp : (2 : Nat) ^ 128 = 340282366920938463463374607431768211456 := by decide
 rw [hp] at hl hA hB
 have q3 := ref02_whole e ((nv a b + 340282366920938463463374607431768211456 - nv c d) % 340282366920938463463374607431768211456) (Nat.mod_lt _ (by decide))
 have l1 : (bl 128 (nv a b)).length = 128 := bl_len
 have l2 : (bl 128 (nv c d)).length = 128 := bl_len
 have l3 : (bl 128 ((nv a b + 340282366920938463463374607431768211456 - nv c d) % 340282366920938463463374607431768211456)).length = 128 := bl_len
 have hz : (zi 128 0).length = 128 := zi_len
 have hcar : decide ((((if nv a b < nv c d then 1 else 0 : Nat)) : Int) = 1) = decide (nv a b < nv c d) := decide_eq_decide.2 (by split <;> omega)
 unfold wM
 simp only [List.nil_append] at hl
 generalize (if nv a b < nv c d then 1 else 0 : Nat) = car at *
 generalize (nv a b + 340282366920938463463374607431768211456 - nv c d) % 340282366920938463463374607431768211456 = R at *
 generalize bl 128 R = x3 at *
 generalize bl 128 (nv a b) = x1 at *
 generalize bl 128 (nv c d) = x2 at *
 generalize R / 18446744073709551616 = rh at *
 generalize R % 18446744073709551616 = rl at *
 rw [← hcar]
 clear hcar hA hB
 refine callV_fn e.ref02_Sub fun nd hnd => ?_
 simp (maxSteps := 1000000) (disch := first | omega | (simp only [lnS] <;> omega) | assumption | fail) [ref02_Sub_B, wwS, -List.getD_eq_getElem?_getD, -List.drop_drop, q1, q2, q3, hl, l1, l2, l3, hz]
end
end Go.Wb.P02

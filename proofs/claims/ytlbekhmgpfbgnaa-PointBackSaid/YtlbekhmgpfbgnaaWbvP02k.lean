/- Chapter 2: a number's digits, one by one, and the law of texts. -/
import Derived.Test.YtlbekhmgpfbgnaaWbvP02j
set_option maxRecDepth 100000
set_option linter.all false
namespace Go.Wb.P02
open Go Go.Wb Go.Wb.Code
theorem lastd_fuel : ∀ (k m r : Nat), r < 10 ^ k → lastd (k + m) r = lastd k r
 | 0, m, r, h => by
   have hr : r = 0 := by simpa using h
   subst hr
   cases m <;> simp [lastd]
 | k + 1, m, r, h => by
   rw [show k + 1 + m = (k + m) + 1 by omega]
   unfold lastd
   split
   ·rfl
   ·rw [lastd_fuel k m (r / 10) (by rw [Nat.pow_succ] at h; exact (Nat.div_lt_iff_lt_mul (by decide)).2 h)]
theorem digs_last (j : Nat) : ∀ (k N : Nat), ¬ N / 10 ^ k = 0 → digs k (N % 10 ^ k) ++ ((48 + N / 10 ^ k % 10) :: lastd j (N / 10 ^ k / 10)) = (48 + N % 10) :: lastd (k + j) (N / 10)
 | 0, N, h => by simp [digs]
 | k + 1, N, h => by
   have e1 : N % 10 ^ (k + 1) % 10 = N % 10 := by
    rw [Nat.pow_succ', Nat.mod_mul_right_mod]
   have e2 : N % 10 ^ (k + 1) / 10 = N / 10 % 10 ^ k := by
    rw [Nat.pow_succ', Nat.mod_mul_right_div_self]
   have e3 : N / 10 ^ (k + 1) = N / 10 / 10 ^ k := by
    rw [Nat.pow_succ', Nat.div_div_eq_div_mul]
   rw [e3] at h ⊢
   have hz : ¬ N / 10 = 0 := by
    intro h0
    rw [h0, Nat.zero_div] at h
    exact h rfl
   rw [digs, e1, e2, List.cons_append, digs_last j k (N / 10) h]
   rw [show k + 1 + j = (k + j) + 1 by omega, lastd, if_neg hz]
theorem p18 : (1000000000000000000 : Nat) = 10 ^ 18 := by decide
theorem txt_eq : ∀ (f N : Nat), N < 1000000000000000000 ^ (f + 1) → txt f N = (48 + N % 10) :: lastd (18 * f + 17) (N / 10)
 | 0, N, h => rfl
 | f + 1, N, h => by
   have hs : N < 1000000000000000000 → (48 + N % 10) :: lastd 17 (N / 10) = (48 + N % 10) :: lastd (18 * (f + 1) + 17) (N / 10) := by
    intro hc
    rw [show 18 * (f + 1) + 17 = 17 + (18 * f + 18) by omega, lastd_fuel 17 _ (N / 10)]
    rw [p18, Nat.pow_succ] at hc
    exact (Nat.div_lt_iff_lt_mul (by decide)).2 hc
   by_cases hc : N < 1000000000000000000
   ·rw [txt, if_pos hc, hs hc]
   ·rw [txt, if_neg hc, txt_eq f (N / 1000000000000000000) (by
     rw [Nat.pow_succ] at h
     exact (Nat.div_lt_iff_lt_mul (by decide)).2 h)]
    have hz : ¬ N / 10 ^ 18 = 0 := by
     rw [← p18]
     intro h0
     rw [Nat.div_eq_zero_iff] at h0
     rcases h0 with h0 | h0
     ·cases h0
     ·exact hc h0
    have := digs_last (18 * f + 17) 18 N hz
    rw [← p18] at this
    rw [this, show 18 + (18 * f + 17) = 18 * (f + 1) + 17 by omega]
theorem sb_app {a b : List Nat} : sb a ++ sb b = sb (a ++ b) := by
 apply ByteArray.ext
 simp [sb]
section
variable {E : EnvW} (e : WbvC02Env E)
theorem dg_of (r : Nat) : bytesOf [PV.sc (.int .u8 (48 + (r : Int)))] = some [UInt8.ofNat (48 + r)] := by
 have h : (48 + (r : Int)).toNat = 48 + r := by omega
 simp [bytesOf, byteOf, h]
theorem dg_app (r : Nat) (x : List Nat) : (⟨#[UInt8.ofNat (48 + r)]⟩ : ByteArray) ++ sb x = sb ((48 + r) :: x) := by
 have : (⟨#[UInt8.ofNat (48 + r)]⟩ : ByteArray) = sb [48 + r] := rfl
 rw [this, sb_app]; rfl
theorem dg_app0 (r : Nat) : (⟨#[UInt8.ofNat (48 + r)]⟩ : ByteArray) ++ ⟨#[]⟩ = sb [48 + r] := dg_app r []
theorem dg_size (r : Nat) : (⟨#[UInt8.ofNat (48 + r)]⟩ : ByteArray).size = 1 := rfl
theorem rT_step {a b c d r : Nat} {x : List Nat} {R} (hx : x.length ≤ 500) (hr : r < 10) (hN : a ≠ 0 ∨ b ≠ 0)
 (q : callV E "ref02.Div" [.v (wv a b), vk .u64 10] [] = some ([.v (wv c d), rk .u64 r], [na, na], []))
 (h : runV E (.loop [1, 3] ref02_Text_L0) (updT (updT botT 3 (ts (sb ((48 + r) :: x)))) 1 (wb c d)) = R) :
 runV E (.loop [1, 3] ref02_Text_L0) (updT (updT botT 3 (ts (sb x))) 1 (wb a b)) = R := by
 subst h
 have g0 : ¬ (9223372036854775807 : Int) < 1 + (x.length : Int) := by omega
 have g1 := dg_of r
 have g2 := dg_app r x
 have g3 := dg_size r
 generalize UInt8.ofNat (48 + r) = u at g1 g2 g3
 rcases hN with ha | hb
 ·have hab : ((a : Int) == 0) = false := beq_eq_false_iff_ne.2 (by omega)
  refine loop_go (by simp (maxSteps := 1000000) (disch := first | omega | (simp only [lnS] <;> omega) | assumption | fail) [ref02_Text_L0, wwS, -List.getD_eq_getElem?_getD, -List.drop_drop, q, hab, hx, g0, g1, g2, g3]; rfl) ?_
  rfl
 ·have hbb : ((b : Int) == 0) = false := beq_eq_false_iff_ne.2 (by omega)
  refine loop_go (by simp (maxSteps := 1000000) (disch := first | omega | (simp only [lnS] <;> omega) | assumption | fail) [ref02_Text_L0, wwS, -List.getD_eq_getElem?_getD, -List.drop_drop, q, hbb, hx, g0, g1, g2, g3]; rfl) ?_
  rfl
theorem rT_first {a b c d r : Nat} {R} (hr : r < 10)
 (q : callV E "ref02.Div" [.v (wv a b), vk .u64 10] [] = some ([.v (wv c d), rk .u64 r], [na, na], []))
 (h : runV E (.loop [1, 3] ref02_Text_L0) (updT (updT botT 3 (ts (sb [48 + r]))) 1 (wb c d)) = R) :
 runV E (.loop [1, 3] ref02_Text_L0) (updT (updT botT 3 (ts ⟨#[]⟩)) 1 (wb a b)) = R := by
 by_cases hN : a ≠ 0 ∨ b ≠ 0
 ·exact rT_step (x := []) (by decide) hr hN q h
 ·have ha : a = 0 := by omega
  have hb : b = 0 := by omega
  subst ha hb h
  have q : callV E "ref02.Div" [.v (.agg [.sc (.int .u64 0), .sc (.int .u64 0)]), vk .u64 10] [] = some ([.v (wv c d), rk .u64 r], [na, na], []) := q
  have g4 : (⟨#[]⟩ : ByteArray).size = 0 := rfl
  have g1 := dg_of r
  have g2 := dg_app0 r
  have g3 := dg_size r
  generalize UInt8.ofNat (48 + r) = u at g1 g2 g3
  refine loop_go (by simp (maxSteps := 1000000) (disch := first | omega | (simp only [lnS] <;> omega) | assumption | fail) [ref02_Text_L0, wwS, -List.getD_eq_getElem?_getD, -List.drop_drop, q, g1, g2, g3, g4]; rfl) ?_
  rfl
theorem rT_out (y : Nat) (x : List Nat) : runV E (.loop [1, 3] ref02_Text_L0) (updT (updT botT 3 (ts (sb (y :: x)))) 1 (wb 0 0)) = some (.exit 0, updT botT 3 (ts (sb (y :: x)))) := by
 have hs : (sb (y :: x)).toList.isEmpty = false := by
  rw [ByteArray.toList_eq, sb_list]; rfl
 refine loop_out (by simp (maxSteps := 1000000) (disch := first | omega | (simp only [lnS] <;> omega) | assumption | fail) [ref02_Text_L0, wwS, -List.getD_eq_getElem?_getD, -List.drop_drop, hs]; first | exact ⟨rfl, rfl⟩ | exact rfl) ?_ (by simp)
 rfl
theorem nv_zero {a b : Nat} (h : nv a b = 0) : a = 0 ∧ b = 0 := by unfold nv at h; omega
theorem nv_nz {a b : Nat} (h : ¬ nv a b = 0) : a ≠ 0 ∨ b ≠ 0 := by
 by_cases ha : a = 0
 ·by_cases hb : b = 0
  ·subst ha hb; exact (h (by simp [nv])).elim
  ·exact .inr hb
 ·exact .inl ha
theorem rT_len {k n m : Nat} (h : n + (m + 1) ≤ k) : n + 1 + m ≤ k := by omega
include e in
theorem rT_loop (k : Nat) : ∀ (a b y : Nat) (x : List Nat), a < 18446744073709551616 → b < 18446744073709551616 → nv a b < 10 ^ k → (y :: x).length + k ≤ 500 →
 runV E (.loop [1, 3] ref02_Text_L0) (updT (updT botT 3 (ts (sb (y :: x)))) 1 (wb a b)) = some (.exit 0, updT botT 3 (ts (sb ((lastd k (nv a b)).reverse ++ (y :: x))))) := by
 induction k with
 | zero =>
   intro a b y x ha hb hN hx
   rw [Nat.pow_zero] at hN
   have h0 : nv a b = 0 := Nat.lt_one_iff.1 hN
   obtain ⟨rfl, rfl⟩ := nv_zero h0
   exact rT_out y x
 | succ k ih =>
   intro a b y x ha hb hN hx
   by_cases h0 : nv a b = 0
   ·obtain ⟨rfl, rfl⟩ := nv_zero h0
    rw [h0]
    exact rT_out y x
   ·obtain ⟨c, d, h1, h2, h3, q⟩ := ref02_Div e 10 a b (by decide) (by decide) ha hb
    refine rT_step (Nat.le_trans (Nat.le_add_right _ _) hx) (Nat.mod_lt _ (by decide)) (nv_nz h0) q ?_
    have ih := ih c d (48 + nv a b % 10) (y :: x) h1 h2 (by
     rw [h3]; rw [Nat.pow_succ] at hN; exact (Nat.div_lt_iff_lt_mul (by decide)).2 hN) (by simp only [List.length_cons] at *; exact rT_len hx)
    rw [ih, h3, lastd, if_neg h0]
    simp
theorem lt54' {N : Nat} (h : N < 2 ^ 128) : N / 10 < 10 ^ 53 := by
 have : (2 : Nat) ^ 128 ≤ 10 ^ 53 * 10 := by decide
 exact (Nat.div_lt_iff_lt_mul (by decide)).2 (Nat.lt_of_lt_of_le h this)
theorem rT_le {x : Nat} : ([x] : List Nat).length + 53 ≤ 500 := by simp
include e in
theorem rT_run {a b : Nat} {s : ByteArray} (h : runV E (.loop [1, 3] ref02_Text_L0) (updT (updT botT 3 (ts ⟨#[]⟩)) 1 (wb a b)) = some (.exit 0, updT botT 3 (ts s))) :
 callV E "ref02.Text" [.v (wv a b)] [] = some ([rs s], [na], []) := by
 refine callV_fn e.ref02_Text fun nd hnd => ?_
 simp (maxSteps := 1000000) (disch := first | omega | (simp only [lnS] <;> omega) | assumption | fail) [ref02_Text_B, wwS, -List.getD_eq_getElem?_getD, -List.drop_drop, h]
include e in
theorem ref02_Text (a b : Nat) (ha : a < 18446744073709551616) (hb : b < 18446744073709551616) : callV E "ref02.Text" [.v (wv a b)] [] = some ([rs (sb (txt 2 (nv a b)).reverse)], [na], []) := by
 apply rT_run e
 obtain ⟨c, d, h1, h2, h3, q⟩ := ref02_Div e 10 a b (by decide) (by decide) ha hb
 have hN := nv_lt ha hb
 refine rT_first (Nat.mod_lt _ (by decide)) q ?_
 have hl := rT_loop e 53 c d (48 + nv a b % 10) [] h1 h2 (by rw [h3]; exact lt54' hN) rT_le
 rw [hl, h3, txt_eq 2 (nv a b) (lt54 ha hb)]
 simp
include e in
theorem texts_run {a b m w : Nat} {s : ByteArray} (hlive : callV E "law02.live" [] [] = some ([rB true], [], []))
 (q1 : callV E "wide.Text" [.v (wv a b)] [] = some ([rs s], [na], [])) (q2 : callV E "ref02.Text" [.v (wv a b)] [] = some ([rs s], [na], []))
 (q3 : callV E "wide.Cap" [.v (wv a b), vk .u64 m] [] = some ([rk .u64 w], [na, na], [])) (q4 : callV E "ref02.Cap" [.v (wv a b), vk .u64 m] [] = some ([rk .u64 w], [na, na], [])) :
 callV E "law02.WideTexts" [.v (wv a b), vk .u64 m] [] = some ([rB true], [na, na], []) := by
 refine callV_fn e.law02_WideTexts fun nd hnd => ?_
 simp (maxSteps := 1000000) (disch := first | omega | (simp only [lnS] <;> omega) | assumption | fail) [law02_WideTexts_B, wwS, -List.getD_eq_getElem?_getD, -List.drop_drop, hlive, q1, q2, q3, q4]
include e in
theorem law_WideTexts (B : Nat) (avs : List PV) (ha : PArgs B [.st [.int .u64, .int .u64], .int .u64] avs) : ∃ o ho, callV E "law02.WideTexts" (avs.map .v) [] = some ([rB true], o, ho) := by
 simp only [PArgs] at ha
 obtain ⟨v0, _, rfl, a0, v1, _, rfl, a1, rfl⟩ := ha
 obtain ⟨a, b, rfl, ha, hb⟩ := pv_wide a0
 obtain ⟨m, rfl, hm⟩ := pv_u64 a1
 exact ⟨[na, na], [], texts_run e (live e ht) (wide_Text e a b ha hb) (ref02_Text e a b ha hb) (wide_Cap e a b m hb hm) (ref02_Cap e a b m ha hb hm)⟩
end
end Go.Wb.P02

/- Chapter 3: the statements. -/
import Derived.Test.YtlbekhmgpfbgnaaWbvP03
set_option maxRecDepth 100000
set_option linter.all false
namespace Go.Wb.P03
open Go Go.Wb Go.Wb.Code Go.Wb.P01 Go.Wb.P01
theorem swapS_mod {x : Int} (h : 0 ≤ x ∧ x < 65536) : swapS x % 65535 = (256 * x) % 65535 := by unfold swapS; omega
theorem swapS_zero {x : Int} (h : 0 ≤ x ∧ x < 65536) : swapS x = 0 ↔ x = 0 := by unfold swapS; omega
theorem join_law {b : List Nat} (h256 : ∀ x ∈ b, x < 256) (hb : b.length ≤ room) {k : Nat} (hk : k ≤ b.length) : joinS (sumS (b.take k)) k (sumS (b.drop k)) = sumS b := by
 rw [sumS_eq h256 hb, sumS_eq (fun x hx => h256 x (List.mem_of_mem_take hx)) (by rw [List.length_take]; omega), sumS_eq (fun x hx => h256 x (List.mem_of_mem_drop hx)) (by rw [List.length_drop]; omega)]
 have hw : ws b = w2 true (b.take k ++ b.drop k) := by rw [List.take_append_drop, ws_w2]
 rw [w2_app] at hw
 have hlen : (b.take k).length = k := by rw [List.length_take]; omega
 rw [hlen] at hw
 rw [ws_w2 (b.take k), ws_w2 (b.drop k)]
 have hs := w2_swap (b.drop k) true
 have hz1 := w2_zero (b.drop k) true
 have hz2 := w2_zero (b.drop k) false
 rw [← hz2] at hz1
 rw [Bool.not_true] at hs hw
 have key : ∀ A B C : Nat, 256 * B % 65535 = C % 65535 → (B = 0 ↔ C = 0) → joinS (foldS A) k (foldS B) = foldS ((A + if k % 2 = 0 then B else C : Nat) : Int) := by
  intro A B C hs hz
  unfold joinS
  have rA := foldS_range (n := (A : Int)) (by omega)
  have rB := foldS_range (n := (B : Int)) (by omega)
  have mA := foldS_mod (n := (A : Int)) (by omega)
  have mB := foldS_mod (n := (B : Int)) (by omega)
  have zA := foldS_zero (n := (A : Int)) (by omega)
  have zB := foldS_zero (n := (B : Int)) (by omega)
  have sB := swapS_mod rB
  have tB := swapS_zero rB
  have uB := swapS_range rB
  generalize foldS (A : Int) = a at *
  generalize foldS (B : Int) = c at *
  generalize swapS c = d at *
  rcases Nat.mod_two_eq_zero_or_one k with h | h
  ·rw [if_pos (by omega), if_pos h]
   refine foldS_eq (by omega) (by omega) (by omega) (by omega)
  ·rw [if_neg (by omega), if_neg (by omega)]
   refine foldS_eq (by omega) (by omega) (by omega) (by omega)
 rw [key _ _ _ hs hz1, hw]
 rcases Nat.mod_two_eq_zero_or_one k with h | h
 ·rw [if_pos h, if_pos h]
 ·rw [if_neg (by omega), if_neg (by omega)]
theorem w2_true2 (h l : Nat) (y : List Nat) : w2 true (h :: l :: y) = 256 * h + l + w2 true y := by simp only [w2]; omega
theorem ws_word {x y : List Nat} {n : Nat} (hx : x.length % 2 = 0) (hn : n < 65536) : ws (x ++ (dig 2 n ++ y)) = ws x + n + ws y := by
 rw [ws_w2, w2_app, if_pos hx, ws_w2, ws_w2]
 have hd : dig 2 n = [n / 256, n % 256] := by
  simp only [dig, Nat.pow_one, Nat.pow_zero, Nat.div_one]
  rw [Nat.mod_eq_of_lt (by omega : n / 256 < 256)]
 rw [hd, List.cons_append, List.cons_append, List.nil_append, w2_true2]
 omega
theorem putS_two {b : List Nat} {a : Int} {n : Nat} (h : (putS b a 2 n).2 = 0) : 0 ≤ a ∧ a + 2 ≤ b.length ∧ n < 65536 ∧ (putS b a 2 n).1 = b.take a.toNat ++ (dig 2 n ++ b.drop (a.toNat + 2)) := by
 obtain ⟨h1, h2⟩ := putS_len0 h
 have h3 := putE_zero h2
 refine ⟨h3.1, h3.2.2.2.1, by simpa using h3.2.2.2.2, ?_⟩
 unfold putS
 rw [if_pos h2]
 rfl
theorem fill_good {b : List Nat} {a : Int} (h256 : ∀ x ∈ b, x < 256) (hb : b.length ≤ room) (h : (fillS b a).2 = 0) : sumS (fillS b a).1 = 65535 := by
 unfold fillS at *
 split at h
 ·simp at h
 ·rename_i g1
  rw [if_neg g1]
  split at h
  ·rename_i g2; exact absurd h g2
  ·rename_i g2
   rw [if_neg g2]
   have g2 : (putS b a 2 0).2 = 0 := by simpa using g2
   obtain ⟨q1, q2, q3, q4⟩ := putS_two g2
   have hl := (putS_len0 g2).1
   obtain ⟨r1, r2, r3, r4⟩ := putS_two h
   have h256z := @putS_256 b a 2 0 h256
   have h256y := @putS_256 (putS b a 2 0).1 a 2 (65535 - sumS (putS b a 2 0).1).toNat h256z
   have hly := (putS_len0 h).1
   have hsr := @sumS_range (putS b a 2 0).1
   rw [sumS_eq h256y (by omega), r4]
   generalize hc : (65535 - sumS (putS b a 2 0).1).toNat = c at *
   have hs : sumS (putS b a 2 0).1 = 65535 - c := by omega
   rw [sumS_eq h256z (by omega)] at hs
   rw [q4] at hs ⊢
   obtain ⟨k, rfl⟩ : ∃ k : Nat, a = k := ⟨a.toNat, by omega⟩
   simp only [Int.toNat_natCast] at *
   have hlt : (b.take k).length = k := by rw [List.length_take]; omega
   have hev : (b.take k).length % 2 = 0 := by omega
   rw [ws_word hev (by omega)] at hs
   rw [List.take_left' hlt]
   have hdr : (b.take k ++ (dig 2 0 ++ b.drop (k + 2))).drop (k + 2) = b.drop (k + 2) := by
    rw [← List.append_assoc]
    exact List.drop_left' (by simp; omega)
   rw [hdr, ws_word hev r3]
   have m := foldS_mod (n := ((ws (b.take k) + 0 + ws (b.drop (k + 2)) : Nat) : Int)) (by omega)
   have z := foldS_zero (n := ((ws (b.take k) + 0 + ws (b.drop (k + 2)) : Nat) : Int)) (by omega)
   generalize ws (b.take k) = A at *
   generalize ws (b.drop (k + 2)) = B at *
   rw [hs] at m z
   unfold foldS
   split <;> omega
def wt (p : Bool) (j : Nat) : Nat := if p = decide (j % 2 = 0) then 256 else 1
theorem w2_set : ∀ (l : List Nat) (p : Bool) (j v : Nat), j < l.length → w2 p (l.set j v) + wt p j * l.getD j 0 = w2 p l + wt p j * v
 | [], p, j, v, h => by simp at h
 | a :: l, true, 0, v, h => by simp [w2, wt]; omega
 | a :: l, false, 0, v, h => by simp [w2, wt]; omega
 | a :: l, true, j + 1, v, h => by
   have ih := w2_set l false j v (by simpa using h)
   have e : wt true (j + 1) = wt false j := by
    unfold wt
    rcases Nat.mod_two_eq_zero_or_one j with h | h
    ·simp [h, show (j + 1) % 2 = 1 by omega]
    ·simp [h, show (j + 1) % 2 = 0 by omega]
   simp only [List.set_cons_succ, w2, List.getD_cons_succ, e]
   omega
 | a :: l, false, j + 1, v, h => by
   have ih := w2_set l true j v (by simpa using h)
   have e : wt false (j + 1) = wt true j := by
    unfold wt
    rcases Nat.mod_two_eq_zero_or_one j with h | h
    ·simp [h, show (j + 1) % 2 = 1 by omega]
    ·simp [h, show (j + 1) % 2 = 0 by omega]
   simp only [List.set_cons_succ, w2, List.getD_cons_succ, e]
   omega
theorem ws_setw {l : List Nat} {i h lo : Nat} (hi : 2 * i + 1 < l.length) : ws ((l.set (2 * i) h).set (2 * i + 1) lo) + (256 * l.getD (2 * i) 0 + l.getD (2 * i + 1) 0) = ws l + (256 * h + lo) := by
 have h1 := w2_set l true (2 * i) h (by omega)
 have h2 := w2_set (l.set (2 * i) h) true (2 * i + 1) lo (by simpa using hi)
 have e1 : wt true (2 * i) = 256 := by unfold wt; simp
 have e2 : wt true (2 * i + 1) = 1 := by unfold wt; simp [show (2 * i + 1) % 2 = 1 by omega]
 have e3 : (l.set (2 * i) h).getD (2 * i + 1) 0 = l.getD (2 * i + 1) 0 := by
  simp [List.getD, List.getElem?_set]
 rw [e1] at h1
 rw [e2, e3] at h2
 rw [ws_w2, ws_w2]
 omega
section
variable {E : EnvW} (e : WbvC03Env E) (ef : WbvC03fEnv E) (e1 : WbvC01Env E)
include e in
theorem live : callV E "law03.live" [] [] = some ([rB true], [], []) := by
 rw [callV_prim e.law03_live]; rfl
include e ef e1 in
theorem law_OnesumSums (B : Nat) (avs : List PV) (ha : PArgs B [.sl 1 1 (.int .u8), .arr 2 (.int .u16)] avs) :
 ∃ o ho, callV E "law03.OnesumSums" (avs.map .v) [] = some ([rB true], o, ho) := by
 simp only [PArgs] at ha
 obtain ⟨v0, _, rfl, a0, v1, _, rfl, a1, rfl⟩ := ha
 obtain ⟨b, rfl, h256, hlen, _⟩ := pv_bytesR a0
 obtain ⟨l, hl, rfl, hw⟩ := pv_arr a1
 match l, hl with
 | [x, y], _ =>
 have hx := wf_u16 (hw x (by simp))
 have hy := wf_u16 (hw y (by simp))
 have q1 := onesum_Sum e b h256
 have q2 := ref03_Sum e b hlen h256
 have q3 := onesum_Check e b h256
 have q4 := ref03_Check e b hlen h256
 have q5 := onesum_Good e b h256
 have q6 := ref03_Good e b hlen h256
 have q7 := onesum_Add e ef x y hx hy
 have q8 := ref03_Add e x y hx hy
 have q9 := onesum_Swap e x hx
 have q10 := ref03_Swap e x hx
 have hlive := live e
 generalize sumS b = s at *
 generalize foldS (x + y) = f at *
 generalize swapS x = z at *
 refine ⟨[na, na], [], ?_⟩
 rw [List.map_cons, List.map_cons, List.map_nil, show mp (fun n : Int => PV.sc (.int .u16 n)) [x, y] = [.sc (.int .u16 x), .sc (.int .u16 y)] from rfl]
 refine callV_fn e.law03_OnesumSums fun nd hnd => ?_
 simp (maxSteps := 1000000) (disch := first | omega | (simp only [lnS] <;> omega) | assumption | fail) [law03_OnesumSums_B, wwS, -List.getD_eq_getElem?_getD, -List.drop_drop, q1, q2, q3, q4, q5, q6, q7, q8, q9, q10, hlive]
include e ef e1 in
theorem law_OnesumJoins (B : Nat) (avs : List PV) (ha : PArgs B [.sl 1 1 (.int .u8), .int .i64, .arr 2 (.int .u16)] avs) :
 ∃ o ho, callV E "law03.OnesumJoins" (avs.map .v) [] = some ([rB true], o, ho) := by
 simp only [PArgs] at ha
 obtain ⟨v0, _, rfl, a0, v1, _, rfl, a1, v2, _, rfl, a2, rfl⟩ := ha
 obtain ⟨b, rfl, h256, hlen, _⟩ := pv_bytesR a0
 obtain ⟨k, rfl, hk⟩ := pv_int a1
 obtain ⟨l, hl, rfl, hw⟩ := pv_arr a2
 match l, hl with
 | [x, y], _ =>
 have hk := wf_i64 hk
 have hx := wf_u16 (hw x (by simp))
 have hy := wf_u16 (hw y (by simp))
 have q1 := onesum_Join e ef x k y hx hy
 have q2 := ref03_Join e x k y hx hy
 have hlive := live e
 have hlb := hlen
 unfold room at hlb
 refine ⟨[na, na, na], [], ?_⟩
 rw [List.map_cons, List.map_cons, List.map_cons, List.map_nil, show mp (fun n : Int => PV.sc (.int .u16 n)) [x, y] = [.sc (.int .u16 x), .sc (.int .u16 y)] from rfl]
 by_cases g1 : k < 0
 ·refine callV_fn e.law03_OnesumJoins fun nd hnd => ?_
  simp (maxSteps := 1000000) (disch := first | omega | (simp only [lnS] <;> omega) | assumption | fail) [law03_OnesumJoins_B, wwS, -List.getD_eq_getElem?_getD, -List.drop_drop, q1, q2, hlive, g1]
 ·by_cases g2 : (b.length : Int) < k
  ·refine callV_fn e.law03_OnesumJoins fun nd hnd => ?_
   simp (maxSteps := 1000000) (disch := first | omega | (simp only [lnS] <;> omega) | assumption | fail) [law03_OnesumJoins_B, wwS, -List.getD_eq_getElem?_getD, -List.drop_drop, q1, q2, hlive, g1, g2]
  ·obtain ⟨m, rfl⟩ : ∃ m : Nat, k = m := ⟨k.toNat, by omega⟩
   have hm : m ≤ b.length := by omega
   have hj := join_law h256 hlen hm
   have q3 := onesum_Sum e b h256
   have q4 := onesum_Sum e (b.take m) (fun x hx => h256 x (List.mem_of_mem_take hx))
   have q5 := onesum_Sum e (b.drop m) (fun x hx => h256 x (List.mem_of_mem_drop hx))
   have q6 := onesum_Join e ef (sumS (b.take m)) m (sumS (b.drop m)) sumS_range sumS_range
   rw [hj] at q6
   have e4 : vb (b.take m) = .v (.sl m (bp (b.take m))) := by unfold vb; rw [List.length_take, Nat.min_eq_left hm]
   have e5 : vb (b.drop m) = .v (.sl (b.length - m) (bp (b.drop m))) := by unfold vb; rw [List.length_drop]
   rw [e4] at q4
   rw [e5] at q5
   generalize sumS (b.take m) = sa at *
   generalize sumS (b.drop m) = sb at *
   generalize sumS b = s at *
   refine callV_fn e.law03_OnesumJoins fun nd hnd => ?_
   simp (maxSteps := 1000000) (disch := first | omega | (simp only [lnS] <;> omega) | assumption | fail) [law03_OnesumJoins_B, wwS, -List.getD_eq_getElem?_getD, -List.drop_drop, q1, q2, q3, q4, q5, q6, hlive, g1, g2]
include e ef e1 in
theorem law_OnesumFills (B : Nat) (avs : List PV) (ha : PArgs B [.sl 1 1 (.int .u8), .int .i64] avs) :
 ∃ o ho, callV E "law03.OnesumFills" (avs.map .v) [] = some ([rB true], o, ho) := by
 simp only [PArgs] at ha
 obtain ⟨v0, _, rfl, a0, v1, _, rfl, a1, rfl⟩ := ha
 obtain ⟨b, rfl, h256, hlen, _⟩ := pv_bytesR a0
 obtain ⟨k, rfl, hk⟩ := pv_int a1
 have hk := wf_i64 hk
 have q1 := onesum_Fill e e1 b hlen h256 k hk
 have q2 := ref03_Fill e e1 b hlen h256 k hk
 have q3 := ref01_Join1 e1 b hlen
 have q4 := ref01_SameBytes e1 b b hlen
 have hfl : (fillS b k).1.length ≤ b.length := by
  unfold fillS
  split
  ·simp
  ·split
   ·simp
   ·exact Nat.le_trans putS_len putS_len
 have h256f : ∀ x ∈ (fillS b k).1, x < 256 := by
  unfold fillS
  split
  ·simp
  ·split
   ·simp
   ·exact putS_256 (putS_256 h256)
 have q5 := ref01_SameBytes e1 (fillS b k).1 (fillS b k).1 (by omega)
 have q6 := onesum_Good e (fillS b k).1 h256f
 have hg := fun h => fill_good (a := k) h256 hlen h
 have hlive := live e
 have hlb := hlen
 unfold room at hlb
 generalize fillS b k = z at *
 refine ⟨[na, na], [], ?_⟩
 rw [List.map_cons, List.map_cons, List.map_nil]
 by_cases g1 : z.2 = 0
 ·rw [hg g1] at q6
  refine callV_fn e.law03_OnesumFills fun nd hnd => ?_
  simp (maxSteps := 1000000) (disch := first | omega | (simp only [lnS] <;> omega) | assumption | fail) [law03_OnesumFills_B, wwS, -List.getD_eq_getElem?_getD, -List.drop_drop, q1, q2, q3, q4, q5, q6, hlive, g1]
 ·refine callV_fn e.law03_OnesumFills fun nd hnd => ?_
  simp (maxSteps := 1000000) (disch := first | omega | (simp only [lnS] <;> omega) | assumption | fail) [law03_OnesumFills_B, wwS, -List.getD_eq_getElem?_getD, -List.drop_drop, q1, q2, q3, q4, q5, q6, hlive, g1]
def swapL (l : List Nat) (i k : Nat) : List Nat := (((l.set (2 * i) (l.getD (2 * k) 0)).set (2 * i + 1) (l.getD (2 * k + 1) 0)).set (2 * k) (l.getD (2 * i) 0)).set (2 * k + 1) (l.getD (2 * i + 1) 0)
omit e in
theorem getD_set_ne' {l : List Nat} {i j v : Nat} (h : i ≠ j) : (l.set i v).getD j 0 = l.getD j 0 := by
 simp [List.getD, List.getElem?_set_ne h]
omit e in
theorem getD_set_eq' {l : List Nat} {i v : Nat} (h : i < l.length) : (l.set i v).getD i 0 = v := by
 simp [List.getD, h]
omit e in
theorem swap_ws {l : List Nat} {i k : Nat} (hi : 2 * i + 1 < l.length) (hk : 2 * k + 1 < l.length) : ws (swapL l i k) = ws l := by
 unfold swapL
 have h1 := ws_setw (l := l) (i := i) (h := l.getD (2 * k) 0) (lo := l.getD (2 * k + 1) 0) hi
 have h2 := ws_setw (l := (l.set (2 * i) (l.getD (2 * k) 0)).set (2 * i + 1) (l.getD (2 * k + 1) 0)) (i := k) (h := l.getD (2 * i) 0) (lo := l.getD (2 * i + 1) 0) (by simpa using hk)
 by_cases hik : i = k
 ·subst hik
  rw [getD_set_ne' (by omega), getD_set_eq' (by omega), getD_set_eq' (by simpa using hi)] at h2
  omega
 ·rw [getD_set_ne' (by omega), getD_set_ne' (by omega), getD_set_ne' (by omega), getD_set_ne' (by omega)] at h2
  omega
omit e in
theorem swap_256 {l : List Nat} {i k : Nat} (h : ∀ x ∈ l, x < 256) (hi : 2 * i + 1 < l.length) (hk : 2 * k + 1 < l.length) : (∀ x ∈ swapL l i k, x < 256) ∧ (swapL l i k).length = l.length := by
 refine ⟨fun x hx => ?_, by simp [swapL]⟩
 unfold swapL at hx
 have g : ∀ j, j < l.length → l.getD j 0 < 256 := fun j hj => h _ (getD_mem hj)
 rcases List.mem_or_eq_of_mem_set hx with hx | rfl
 ·rcases List.mem_or_eq_of_mem_set hx with hx | rfl
  ·rcases List.mem_or_eq_of_mem_set hx with hx | rfl
   ·rcases List.mem_or_eq_of_mem_set hx with hx | rfl
    ·exact h x hx
    ·exact g _ (by omega)
   ·exact g _ hk
  ·exact g _ (by omega)
 ·exact g _ hi
omit e in
theorem sumS_eq' {bs : List Nat} (h : ∀ x ∈ bs, x < 256) (hr : bs.length ≤ 140737488351240) : sumS bs = foldS (ws bs) := by
 have := ws_le bs h
 unfold sumS
 rw [IntKind.wrap_u64, Int.emod_eq_of_lt (by omega) (by omega)]
theorem finds_law {l : List Nat} {i : Nat} {y : Int} (h256 : ∀ x ∈ l, x < 256) (hl : l.length ≤ 140737488351240) (hi : 2 * i + 1 < l.length) (i0 : i ≠ 0) (hy : 0 ≤ y ∧ y < 65536) (hw : l.getD 0 0 ≠ 0 ∨ l.getD 1 0 ≠ 0) :
 (sumS ((l.set (2 * i) (y / 256).toNat).set (2 * i + 1) (y % 256).toNat) = sumS l) ↔ ((l.getD (2 * i) 0 : Int) * 256 + l.getD (2 * i + 1) 0 = y ∨ ((l.getD (2 * i) 0 : Int) * 256 + l.getD (2 * i + 1) 0 = 0 ∧ y = 65535) ∨ ((l.getD (2 * i) 0 : Int) * 256 + l.getD (2 * i + 1) 0 = 65535 ∧ y = 0)) := by
 have h1 := h256 _ (getD_mem (show 2 * i < l.length by omega))
 have h2 := h256 _ (getD_mem hi)
 have hs := ws_setw (l := l) (i := i) (h := (y / 256).toNat) (lo := (y % 256).toNat) hi
 have hx : ∀ x ∈ (l.set (2 * i) (y / 256).toNat).set (2 * i + 1) (y % 256).toNat, x < 256 := by
  intro x hx
  rcases List.mem_or_eq_of_mem_set hx with hx | rfl
  ·rcases List.mem_or_eq_of_mem_set hx with hx | rfl
   ·exact h256 x hx
   ·omega
  ·omega
 rw [sumS_eq' hx (by simpa using hl), sumS_eq' h256 hl]
 have hpos : l.getD (2 * i) 0 * 256 + l.getD (2 * i + 1) 0 < ws l := by
  have h3 := ws_setw (l := l) (i := i) (h := 0) (lo := 0) hi
  have h4 : ws ((l.set (2 * i) 0).set (2 * i + 1) 0) ≠ 0 := by
   rw [ws_w2]
   intro hz
   rw [w2_zero] at hz
   have q0 : ((l.set (2 * i) 0).set (2 * i + 1) 0).getD 0 0 = 0 := hz _ (getD_mem (by simp; omega))
   have q1 : ((l.set (2 * i) 0).set (2 * i + 1) 0).getD 1 0 = 0 := hz _ (getD_mem (by simp; omega))
   rw [getD_set_ne' (by omega), getD_set_ne' (by omega)] at q0 q1
   omega
  omega
 generalize ws ((l.set (2 * i) (y / 256).toNat).set (2 * i + 1) (y % 256).toNat) = X at *
 generalize ws l = W at *
 generalize l.getD (2 * i) 0 = a at *
 generalize l.getD (2 * i + 1) 0 = c at *
 unfold foldS
 rw [if_neg (by omega), if_neg (by omega)]
 omega
include e ef e1 in
theorem finds1 {L : List Nat} (h256 : ∀ x ∈ L, x < 256) (hL : L.length ≤ 140737488351240) {i k : Nat} (hi : 2 * i + 1 < L.length) (hk : 2 * k + 1 < L.length) {N : Nat} (hN : N = L.length) :
 ex E [.c law03_OnesumFinds_K1] (updT (updT (updT botT 10 (ti .i64 k)) 9 (ti .i64 i)) 7 (.own N 1 (bp L))) = some (.ret, updT botT 6 (tb true)) := by
 subst hN
 have hlive := live e
 obtain ⟨s256, slen⟩ := swap_256 h256 hi hk
 have q1 := onesum_Sum e L h256
 have q2 := onesum_Sum e (swapL L i k) s256
 have hws : sumS (swapL L i k) = sumS L := by
  unfold sumS; rw [swap_ws hi hk]
 rw [hws, show vb (swapL L i k) = .v (.sl L.length (bp (swapL L i k))) by unfold vb; rw [slen]] at q2
 unfold swapL at q2
 have i1 : (2 * (i : Int)).toNat = 2 * i := by omega
 have i2 : (2 * (i : Int) + 1).toNat = 2 * i + 1 := by omega
 have k1 : (2 * (k : Int)).toNat = 2 * k := by omega
 have k2 : (2 * (k : Int) + 1).toNat = 2 * k + 1 := by omega
 simp (maxSteps := 1000000) (disch := first | omega | (simp only [lnS] <;> omega) | assumption | fail) [wwS, -List.getD_eq_getElem?_getD, -List.drop_drop, law03_OnesumFinds_K1, law03_OnesumFinds_K0, hlive, q1, q2, i1, i2, k1, k2]
include e ef e1 in
theorem finds2 {L X : List Nat} (h256 : ∀ x ∈ L, x < 256) (x256 : ∀ x ∈ X, x < 256) (hL : L.length ≤ 140737488351240) {i k : Nat} (hi : 2 * i + 1 < L.length) (hk : 2 * k + 1 < L.length) {N M : Nat} (hN : N = L.length) (hM : M = X.length) {sm : Bool} (hs : decide (sumS X = sumS L) = sm) :
 ex E [.c law03_OnesumFinds_K2] (updT (updT (updT (updT (updT botT 13 (tb sm)) 12 (.own M 1 (bp X))) 10 (ti .i64 k)) 9 (ti .i64 i)) 7 (.own N 1 (bp L))) = some (.ret, updT botT 6 (tb true)) := by
 have h1 := finds1 e ef e1 h256 hL hi hk hN
 subst hN hM hs
 have q1 := onesum_Sum e L h256
 have q2 := onesum_Sum e X x256
 simp (maxSteps := 1000000) (disch := first | omega | (simp only [lnS] <;> omega) | assumption | fail) [wwS, -List.getD_eq_getElem?_getD, -List.drop_drop, law03_OnesumFinds_K2, h1, q1, q2]
include e ef e1 in
theorem finds3 {L X : List Nat} (h256 : ∀ x ∈ L, x < 256) (x256 : ∀ x ∈ X, x < 256) (hL : L.length ≤ 140737488351240) {i k : Nat} (hi : 2 * i + 1 < L.length) (hk : 2 * k + 1 < L.length) {N M : Nat} (hN : N = L.length) (hM : M = X.length) {was x y : Int}
 (hs : (sumS X = sumS L) ↔ (was = y ∨ (was = 0 ∧ y = 65535) ∨ (was = 65535 ∧ y = 0))) :
 ex E [.c law03_OnesumFinds_K3] (updT (updT (updT (updT (updT (updT botT 12 (.own M 1 (bp X))) 11 (ti .u16 was)) 10 (ti .i64 k)) 9 (ti .i64 i)) 7 (.own N 1 (bp L))) 5 (.box [.v (.sc (.int .u16 x)), .v (.sc (.int .u16 y))])) = some (.ret, updT botT 6 (tb true)) := by
 have h2 := fun sm h => finds2 e ef e1 h256 x256 hL hi hk hN hM (sm := sm) h
 by_cases g1 : was = y
 ·have h2 := h2 true (decide_eq_true (hs.2 (.inl g1)))
  simp (maxSteps := 1000000) (disch := first | omega | (simp only [lnS] <;> omega) | assumption | fail) [wwS, -List.getD_eq_getElem?_getD, -List.drop_drop, law03_OnesumFinds_K3, g1, h2]
 ·by_cases g2 : was = 0
  ·subst g2
   by_cases g3 : y = 65535
   ·subst g3
    have h2 := h2 true (decide_eq_true (hs.2 (.inr (.inl ⟨rfl, rfl⟩))))
    simp (maxSteps := 1000000) (disch := first | omega | (simp only [lnS] <;> omega) | assumption | fail) [wwS, -List.getD_eq_getElem?_getD, -List.drop_drop, law03_OnesumFinds_K3, h2]
   ·have h2 := h2 false (decide_eq_false (fun h => by have := hs.1 h; omega))
    simp (maxSteps := 1000000) (disch := first | omega | (simp only [lnS] <;> omega) | assumption | fail) [wwS, -List.getD_eq_getElem?_getD, -List.drop_drop, law03_OnesumFinds_K3, g1, g3, h2]
  ·by_cases g4 : was = 65535
   ·subst g4
    by_cases g5 : y = 0
    ·subst g5
     have h2 := h2 true (decide_eq_true (hs.2 (.inr (.inr ⟨rfl, rfl⟩))))
     simp (maxSteps := 1000000) (disch := first | omega | (simp only [lnS] <;> omega) | assumption | fail) [wwS, -List.getD_eq_getElem?_getD, -List.drop_drop, law03_OnesumFinds_K3, h2]
    ·have h2 := h2 false (decide_eq_false (fun h => by have := hs.1 h; omega))
     simp (maxSteps := 1000000) (disch := first | omega | (simp only [lnS] <;> omega) | assumption | fail) [wwS, -List.getD_eq_getElem?_getD, -List.drop_drop, law03_OnesumFinds_K3, g1, g5, h2]
   ·have h2 := h2 false (decide_eq_false (fun h => by have := hs.1 h; omega))
    simp (maxSteps := 1000000) (disch := first | omega | (simp only [lnS] <;> omega) | assumption | fail) [wwS, -List.getD_eq_getElem?_getD, -List.drop_drop, law03_OnesumFinds_K3, g1, g2, g4, h2]
include e ef e1 in
theorem finds4 {L : List Nat} (h256 : ∀ x ∈ L, x < 256) (hr : L.length ≤ 140737488351240) {i k : Nat} (i0 : i ≠ 0) (hi : 2 * i + 1 < L.length) (hk : 2 * k + 1 < L.length) {N M : Nat} (hN : N = L.length) (hM : M = L.length) {x y was : Int} (hy : 0 ≤ y ∧ y < 65536) (hw : L.getD 0 0 ≠ 0 ∨ L.getD 1 0 ≠ 0)
 (hwas : was = (L.getD (2 * i) 0 : Int) * 256 + L.getD (2 * i + 1) 0) :
 ex E [.c law03_OnesumFinds_K4] (updT (updT (updT (updT (updT (updT botT 12 (.own M 1 (bp L))) 11 (ti .u16 was)) 10 (ti .i64 k)) 9 (ti .i64 i)) 7 (.own N 1 (bp L))) 5 (.box [.v (.sc (.int .u16 x)), .v (.sc (.int .u16 y))])) = some (.ret, updT botT 6 (tb true)) := by
 have x256 : ∀ x ∈ (L.set (2 * i) (y / 256).toNat).set (2 * i + 1) (y % 256).toNat, x < 256 := by
  intro x hx
  rcases List.mem_or_eq_of_mem_set hx with hx | rfl
  ·rcases List.mem_or_eq_of_mem_set hx with hx | rfl
   ·exact h256 x hx
   ·omega
  ·omega
 have hf := finds_law h256 hr hi i0 hy hw
 rw [← hwas] at hf
 have h3 := finds3 (x := x) e ef e1 h256 x256 hr hi hk hN (M := M) (by rw [hM]; simp) hf
 clear hf hwas
 subst hM
 have i1 : (2 * (i : Int)).toNat = 2 * i := by omega
 have i2 : (2 * (i : Int) + 1).toNat = 2 * i + 1 := by omega
 simp (maxSteps := 1000000) (disch := first | omega | (simp only [lnS] <;> omega) | assumption | fail) [wwS, -List.getD_eq_getElem?_getD, -List.drop_drop, law03_OnesumFinds_K4, h3, i1, i2]
include e ef e1 in
theorem finds6 {L : List Nat} (h256 : ∀ x ∈ L, x < 256) (hr : L.length ≤ 140737488351240) {i k : Nat} (i0 : i ≠ 0) (hi : 2 * i + 1 < L.length) (hk : 2 * k + 1 < L.length) {N : Nat} (hN : N = L.length) {x y : Int} (hy : 0 ≤ y ∧ y < 65536) (hw : L.getD 0 0 ≠ 0 ∨ L.getD 1 0 ≠ 0) :
 ex E [.c law03_OnesumFinds_K6] (updT (updT (updT (updT botT 10 (ti .i64 k)) 9 (ti .i64 i)) 7 (.own N 1 (bp L))) 5 (.box [.v (.sc (.int .u16 x)), .v (.sc (.int .u16 y))])) = some (.ret, updT botT 6 (tb true)) := by
 have h1 := h256 _ (getD_mem (show 2 * i < L.length by omega))
 have h2 := h256 _ (getD_mem hi)
 have h4 := fun was h => finds4 (x := x) e ef e1 h256 hr i0 hi hk hN (M := N) hN hy hw (was := was) h
 subst hN
 have i1 : (2 * (i : Int)).toNat = 2 * i := by omega
 have i2 : (2 * (i : Int) + 1).toNat = 2 * i + 1 := by omega
 generalize hA : L.getD (2 * i) 0 = A at *
 generalize hC : L.getD (2 * i + 1) 0 = C at *
 have h4 := h4 _ rfl
 simp (maxSteps := 1000000) (disch := first | omega | (simp only [lnS] <;> omega) | assumption | fail) [wwS, -List.getD_eq_getElem?_getD, -List.drop_drop, law03_OnesumFinds_K6, law03_OnesumFinds_K5, h4, i1, i2, hA, hC, or16]
include e ef e1 in
theorem finds10 {L : List Nat} (h256 : ∀ x ∈ L, x < 256) (hr : L.length ≤ 140737488351240) (hp : L.length % 2 = 0) (hl : 4 ≤ L.length) {N : Nat} (hN : N = L.length) {x y p q : Int} (hx : 0 ≤ x ∧ x < 65536) (hy : 0 ≤ y ∧ y < 65536) (p0 : 0 ≤ p ∧ p < 256) (q0 : 0 ≤ q ∧ q < 256) (hw : x ≠ 0 → L.getD 0 0 ≠ 0 ∨ L.getD 1 0 ≠ 0) :
 ex E [.c law03_OnesumFinds_K10] (updT (updT (updT botT 7 (.own N 1 (bp L))) 5 (.box [.v (.sc (.int .u16 x)), .v (.sc (.int .u16 y))])) 4 (.box [.v (.sc (.int .u8 p)), .v (.sc (.int .u8 q))])) = some (.ret, updT botT 6 (tb true)) := by
 have hlive := live e
 obtain ⟨n, hn⟩ : ∃ n : Nat, L.length = 2 * n + 2 := ⟨L.length / 2 - 1, by omega⟩
 obtain ⟨i, hi⟩ : ∃ i : Nat, p % (n : Int) = i := ⟨(p % (n : Int)).toNat, by have := Int.emod_nonneg p (show (n : Int) ≠ 0 by omega); omega⟩
 obtain ⟨k, hk⟩ : ∃ k : Nat, q % (n : Int) = k := ⟨(q % (n : Int)).toNat, by have := Int.emod_nonneg q (show (n : Int) ≠ 0 by omega); omega⟩
 have hi' : i < n := by have := Int.emod_lt_of_pos p (show (0 : Int) < n by omega); omega
 have hk' : k < n := by have := Int.emod_lt_of_pos q (show (0 : Int) < n by omega); omega
 have h6 := fun h => finds6 (x := x) e ef e1 h256 hr (i := 1 + i) (k := 1 + k) (by omega) (by omega) (by omega) hN hy (hw h)
 subst hN
 have hq : (2 * (n : Int) + 2) / 2 - 1 = n := by omega
 have hn0 : ¬ n = 0 := by omega
 simp only [Int.natCast_add, Int.cast_ofNat_Int] at h6
 by_cases g : x = 0
 ·subst g
  simp (maxSteps := 1000000) (disch := first | omega | (simp only [lnS] <;> omega) | assumption | fail) [wwS, -List.getD_eq_getElem?_getD, -List.drop_drop, law03_OnesumFinds_K10, law03_OnesumFinds_K9, law03_OnesumFinds_K8, law03_OnesumFinds_K7, hlive, hn, hq, hn0, hi, hk]
 ·have h6 := h6 g
  rw [hn] at h6
  simp (maxSteps := 1000000) (disch := first | omega | (simp only [lnS] <;> omega) | assumption | fail) [wwS, -List.getD_eq_getElem?_getD, -List.drop_drop, law03_OnesumFinds_K10, law03_OnesumFinds_K9, law03_OnesumFinds_K8, law03_OnesumFinds_K7, h6, hn, hq, hn0, hi, hk, g]
include e ef e1 in
theorem law_OnesumFinds (B : Nat) (avs : List PV) (ha : PArgs B [.sl 1 1 (.int .u8), .arr 2 (.int .u8), .arr 2 (.int .u16)] avs) :
 ∃ o ho, callV E "law03.OnesumFinds" (avs.map .v) [] = some ([rB true], o, ho) := by
 simp only [PArgs] at ha
 obtain ⟨v0, _, rfl, a0, v1, _, rfl, a1, v2, _, rfl, a2, rfl⟩ := ha
 obtain ⟨b, rfl, h256, hlen, _⟩ := pv_bytes a0
 obtain ⟨l1, hl1, rfl, hw1⟩ := pv_arr a1
 obtain ⟨l2, hl2, rfl, hw2⟩ := pv_arr a2
 obtain ⟨p, q, rfl⟩ : ∃ p q, l1 = [p, q] := by
  match l1, hl1 with
  | [p, q], _ => exact ⟨p, q, rfl⟩
 obtain ⟨x, y, rfl⟩ : ∃ p q, l2 = [p, q] := by
  match l2, hl2 with
  | [p, q], _ => exact ⟨p, q, rfl⟩
 have hp := wf_u8 (hw1 p (by simp))
 have hq := wf_u8 (hw1 q (by simp))
 have hx := wf_u16 (hw2 x (by simp))
 have hy := wf_u16 (hw2 y (by simp))
 have hlb := hlen
 unfold reach reachBytes at hlb
 have hlen := reach_room hlen
 refine ⟨[na, na, na], [], ?_⟩
 rw [List.map_cons, List.map_cons, List.map_cons, List.map_nil, show mp (fun n : Int => PV.sc (.int .u8 n)) [p, q] = [.sc (.int .u8 p), .sc (.int .u8 q)] from rfl, show mp (fun n : Int => PV.sc (.int .u16 n)) [x, y] = [.sc (.int .u16 x), .sc (.int .u16 y)] from rfl]
 have hh : 0 ≤ x / 256 := by omega
 have hm : 0 ≤ x % 256 := by omega
 have hm' : x % 256 < 256 := by omega
 have hxw : x ≠ 0 → (x / 256).toNat ≠ 0 ∨ (x % 256).toNat ≠ 0 := by omega
 have c1 : [PV.sc (.int .u8 (x / 256)), .sc (.int .u8 (x % 256)), .sc (.int .u8 1)] = bp [(x / 256).toNat, (x % 256).toNat, 1] := by
  rw [← bp_consI hh, ← bp_consI hm]; rfl
 by_cases g : b.length % 2 = 1
 ·have h10 := finds10 (x := x) e ef e1 (L := (x / 256).toNat :: (x % 256).toNat :: 1 :: b) (by simp only [List.mem_cons]; intro z hz; rcases hz with rfl | rfl | rfl | hz; omega; omega; omega; exact h256 z hz) (by simp <;> omega) (by simp <;> omega) (by simp <;> omega) (N := 3 + b.length) (by simp <;> omega) hx hy hp hq (by simpa using hxw)
  have hg : (3 + (b.length : Int)) % 2 = 0 := by omega
  refine callV_fn e.law03_OnesumFinds fun nd hnd => ?_
  simp (maxSteps := 1000000) (disch := first | omega | (simp only [lnS] <;> omega) | assumption | fail) [law03_OnesumFinds_B, wwS, -List.getD_eq_getElem?_getD, -List.drop_drop, law03_OnesumFinds_K13, law03_OnesumFinds_K12, law03_OnesumFinds_K11, h10, c1, hg]
 ·have h10 := finds10 (x := x) e ef e1 (L := (x / 256).toNat :: (x % 256).toNat :: 1 :: (b ++ [0])) (by simp only [List.mem_cons, List.mem_append, List.not_mem_nil, or_false]; intro z hz; rcases hz with rfl | rfl | rfl | hz | rfl; omega; omega; omega; exact h256 z hz; omega) (by simp <;> omega) (by simp <;> omega) (by simp <;> omega) (N := 3 + b.length + 1) (by simp <;> omega) hx hy hp hq (by simpa using hxw)
  have hg : ¬ (3 + (b.length : Int)) % 2 = 0 := by omega
  refine callV_fn e.law03_OnesumFinds fun nd hnd => ?_
  simp (maxSteps := 1000000) (disch := first | omega | (simp only [lnS] <;> omega) | assumption | fail) [law03_OnesumFinds_B, wwS, -List.getD_eq_getElem?_getD, -List.drop_drop, law03_OnesumFinds_K13, law03_OnesumFinds_K12, law03_OnesumFinds_K11, h10, c1, hg]
end
end Go.Wb.P03

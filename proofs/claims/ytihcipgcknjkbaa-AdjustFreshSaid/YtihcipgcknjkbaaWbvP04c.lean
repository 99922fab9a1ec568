/- Chapter 4: the checksum is the one that is reckoned anew. -/
import Derived.Test.YtihcipgcknjkbaaWbvP04b
import Derived.Test.YtihcipgcknjkbaaWbvP03b
set_option maxRecDepth 100000
set_option linter.all false
namespace Go.Wb.P04
open Go Go.Wb Go.Wb.Code Go.Wb.P01 Go.Wb.P03

/-! ### The plain law -/
def setW (L : List Nat) (k n : Nat) : List Nat := (L.set k (n / 256)).set (k + 1) (n % 256)
def word (L : List Nat) (k : Nat) : Nat := 256 * L.getD k 0 + L.getD (k + 1) 0

theorem take_set2 : ∀ (L : List Nat) (k a b : Nat), k + 1 < L.length → L.take k ++ (a :: b :: L.drop (k + 2)) = (L.set k a).set (k + 1) b
  | [], _, _, _, h => by simp at h
  | [_], _, _, _, h => by simp at h
  | x :: y :: L, 0, a, b, h => rfl
  | x :: y :: L, k + 1, a, b, h => by
    have := take_set2 (y :: L) k a b (by simpa using h)
    simpa using this

theorem getD_eqs {l : List Nat} {i v : Nat} (h : i < l.length) : (l.set i v).getD i 0 = v := by
  simp [List.getD, h]
theorem getD_nes {l : List Nat} {i j v : Nat} (h : i ≠ j) : (l.set i v).getD j 0 = l.getD j 0 := by
  simp [List.getD, List.getElem?_set_ne h]

theorem setW_len {L : List Nat} {k n : Nat} : (setW L k n).length = L.length := by simp [setW]
theorem setW_256 {L : List Nat} {k n : Nat} (h : ∀ x ∈ L, x < 256) (hn : n < 65536) : ∀ x ∈ setW L k n, x < 256 := by
  intro x hx
  unfold setW at hx
  rcases List.mem_or_eq_of_mem_set hx with hx | rfl
  · rcases List.mem_or_eq_of_mem_set hx with hx | rfl
    · exact h x hx
    · omega
  · omega
theorem setW_zero {L : List Nat} {k n : Nat} (hk : 2 ≤ k) : (setW L k n).getD 0 0 = L.getD 0 0 := by
  unfold setW
  rw [getD_nes (by omega), getD_nes (by omega)]
theorem word_same {L : List Nat} {k n : Nat} (hk : k + 1 < L.length) : word (setW L k n) k = n := by
  unfold word setW
  rw [getD_nes (by omega), getD_eqs (by omega), getD_eqs (by simpa using hk)]
  omega
theorem word_ne {L : List Nat} {k j n : Nat} (hk : k % 2 = 0) (hj : j % 2 = 0) (h : k ≠ j) : word (setW L k n) j = word L j := by
  unfold word setW
  rw [getD_nes (by omega), getD_nes (by omega), getD_nes (by omega), getD_nes (by omega)]
theorem setW_setW {L : List Nat} {k n m : Nat} : setW (setW L k n) k m = setW L k m := by
  unfold setW
  rw [List.set_comm _ _ (show k + 1 ≠ k by omega), List.set_set, List.set_set]
theorem word_lt {L : List Nat} {k : Nat} (h : ∀ x ∈ L, x < 256) (hk : k + 1 < L.length) : word L k < 65536 := by
  have h1 := h _ (memG (d := 0) (show k < L.length by omega))
  have h2 := h _ (memG (d := 0) hk)
  unfold word; omega
theorem ws_set {L : List Nat} {k n : Nat} (he : k % 2 = 0) (hk : k + 1 < L.length) : ws (setW L k n) + word L k = ws L + n := by
  obtain ⟨i, rfl⟩ : ∃ i, k = 2 * i := ⟨k / 2, by omega⟩
  have := ws_setw (l := L) (i := i) (h := n / 256) (lo := n % 256) hk
  unfold setW word
  omega

theorem ws_pos {L : List Nat} (h0 : L.getD 0 0 = 7) : ws L ≠ 0 := by
  intro h
  rw [ws_w2] at h
  match L, h0 with
  | [], h0 => simp at h0
  | x :: L, h0 =>
    have hx : x = 7 := by simpa using h0
    have := (w2_zero (x :: L) true).1 h x (by simp)
    omega

theorem dig_two {n : Nat} (hn : n < 65536) : dig 2 n = [n / 256, n % 256] := by
  simp only [dig, Nat.pow_one, Nat.pow_zero, Nat.div_one]
  rw [Nat.mod_eq_of_lt (by omega : n / 256 < 256)]

theorem spans_two {len k : Nat} (hk : k + 2 ≤ len) : spansE len k 2 = 0 := by
  rcases spansE_cases len k 2 (by omega) with h | h
  · omega
  · rcases h.2.2.2 with h | h
    · omega
    · exact h.1
theorem put_set {L : List Nat} {k n : Nat} (hk : k + 1 < L.length) (hn : n < 65536) : putS L k 2 n = (setW L k n, 0) := by
  have : putE L.length k 2 n = 0 := by
    unfold putE
    rw [spans_two (by omega), if_neg]
    have : 256 ^ (2 : Int).toNat = 65536 := by decide
    rw [this]; omega
  unfold putS
  rw [if_pos this]
  show (L.take k ++ (dig 2 n ++ L.drop (k + 2)), 0) = _
  rw [dig_two hn]
  exact congrArg (·, (0 : Int)) (take_set2 L k _ _ hk)
theorem get_word {L : List Nat} {k : Nat} (hk : k + 1 < L.length) : getS L k 2 = (word L k, 0) := by
  unfold getS
  rw [if_pos (spans_two (by omega))]
  show (num ((L.drop k).take 2), 0) = _
  rw [drop_getD (by omega), drop_getD hk]
  show (num [L.getD k 0, L.getD (k + 1) 0], 0) = _
  simp only [num, List.foldl_cons, List.foldl_nil, word]
  congr 1
  omega

theorem fill_set {L : List Nat} {k : Nat} (he : k % 2 = 0) (hk : k + 1 < L.length) : fillS L k = (setW L k (65535 - sumS (setW L k 0)).toNat, 0) := by
  unfold fillS
  have hs := @sumS_range (setW L k 0)
  rw [if_neg (by omega), put_set hk (by omega)]
  dsimp only
  rw [if_neg (by simp), put_set (by rw [setW_len]; exact hk) (by omega), setW_setW]

theorem at_set {L : List Nat} {k j : Nat} (hk : k % 2 = 0) (hj : j % 2 = 0) (hn : k ≠ j) (h1 : k + 1 < L.length) (h2 : j + 1 < L.length) {w : Int} (hw : W16 w) (h256 : ∀ x ∈ L, x < 256) :
    atS L k j w = (setW (setW L j w.toNat) k (cleanS (wordS (word L k) (word L j) w)).toNat, 0) := by
  have w1 := word_lt h256 h1
  have w2 := word_lt h256 h2
  have hr := wordS_range (c := word L k) (o := word L j) (n := w) (by unfold W16; omega) (by unfold W16; omega) hw
  have hcl : 0 ≤ cleanS (wordS (word L k) (word L j) w) ∧ cleanS (wordS (word L k) (word L j) w) < 65536 := by unfold cleanS; unfold W16 at hr; split <;> omega
  unfold W16 at hw
  unfold atS
  rw [if_neg (by omega), get_word h1, get_word h2, if_neg (by simp), if_neg (by simp), put_set h2 (by omega)]
  dsimp only
  rw [put_set (by rw [setW_len]; exact h1) (by omega)]

theorem ar1 {A c fA : Int} (m1 : fA % 65535 = A % 65535) (hc : c = 65535 - fA ∨ c = 65535 ∧ 65535 - fA = 0) : (c + A) % 65535 = 0 := by omega
theorem ar2 {A c o w Z fq fZ : Int} (h : (c + A) % 65535 = 0) (m4 : fq % 65535 = (131070 - c - o + w) % 65535) (hZ : Z = A - o + w) (m3 : fZ % 65535 = Z % 65535) : fq % 65535 = fZ % 65535 := by omega
theorem ar3 {fq fZ q : Int} (h : fq % 65535 = fZ % 65535) (r3 : 1 ≤ fZ ∧ fZ < 65536) (r4 : 0 ≤ fq ∧ fq < 65536) (hq : q = if 65535 - fq = 65535 then 0 else 65535 - fq) : 65535 - fZ = q := by split at hq <;> omega
theorem ar4 {Y Z q fY fZ : Int} (hY : Y = Z + q) (hq : 65535 - fZ = q) (m2 : fY % 65535 = Y % 65535) (m3 : fZ % 65535 = Z % 65535) (r2 : 1 ≤ fY ∧ fY < 65536) : fY = 65535 := by omega

/-- After a fill, and with another word put at another place: good, and filled as it would be. -/
theorem fresh {L : List Nat} {k j c : Nat} {w : Int} (hk : k % 2 = 0) (hj : j % 2 = 0) (hn : k ≠ j) (k2 : 2 ≤ k) (j2 : 2 ≤ j) (h1 : k + 1 < L.length) (h2 : j + 1 < L.length) (hw : W16 w) (h256 : ∀ x ∈ L, x < 256) (hr : L.length ≤ room) (h0 : L.getD 0 0 = 7)
    (hc : (c : Int) = 65535 - sumS (setW L k 0) ∨ (c = 65535 ∧ 65535 - sumS (setW L k 0) = 0)) :
    ∃ Y, Y.length = L.length ∧ (∀ x ∈ Y, x < 256) ∧ atS (setW L k c) k j w = (Y, 0) ∧ sumS Y = 65535 ∧ fillS Y k = (Y, 0) := by
  have hsr := @sumS_range (setW L k 0)
  have hcl : c < 65536 := by omega
  have x256 := setW_256 (k := k) h256 hcl
  have hat := at_set (L := setW L k c) (w := w) hk hj hn (by rw [setW_len]; exact h1) (by rw [setW_len]; exact h2) hw x256
  rw [word_same h1, word_ne hk hj hn] at hat
  have ho := word_lt h256 h2
  have hwr := wordS_range (c := c) (o := word L j) (n := w) (by unfold W16; omega) (by unfold W16; omega) hw
  generalize hq : (cleanS (wordS c (word L j) w)).toNat = q at hat
  have hq1 : (q : Int) = cleanS (wordS c (word L j) w) := by
    have : 0 ≤ cleanS (wordS c (word L j) w) := by unfold cleanS; unfold W16 at hwr; split <;> omega
    omega
  have hq2 : q < 65536 := by unfold cleanS at hq1; unfold W16 at hwr; split at hq1 <;> omega
  have hw' := hw
  unfold W16 at hw'
  have y256 := setW_256 (k := k) (setW_256 (k := j) (n := w.toNat) x256 (by omega)) hq2
  refine ⟨_, by rw [setW_len, setW_len, setW_len], y256, hat, ?_⟩
  have e1 := ws_set (L := L) (n := 0) hk h1
  have e2 := ws_set (L := L) (n := c) hk h1
  have e3 := ws_set (L := setW L k c) (k := j) (n := w.toNat) hj (by rw [setW_len]; exact h2)
  rw [word_ne hk hj hn] at e3
  have e4 := ws_set (L := setW (setW L k c) j w.toNat) (k := k) (n := q) hk (by rw [setW_len, setW_len]; exact h1)
  rw [word_ne hj hk (Ne.symm hn), word_same h1] at e4
  have e5 := ws_set (L := setW (setW L k c) j w.toNat) (k := k) (n := 0) hk (by rw [setW_len, setW_len]; exact h1)
  rw [word_ne hj hk (Ne.symm hn), word_same h1] at e5
  have z1 := ws_pos (L := setW L k 0) (by rw [setW_zero k2]; exact h0)
  have z2 := ws_pos (L := setW (setW (setW L k c) j w.toNat) k 0) (by rw [setW_zero k2, setW_zero j2, setW_zero k2]; exact h0)
  have s0 := sumS_eq (setW_256 (k := k) (n := 0) h256 (by omega)) (by rw [setW_len]; exact hr)
  have sy := sumS_eq y256 (by rw [setW_len, setW_len, setW_len]; exact hr)
  have sz := sumS_eq (setW_256 (k := k) (n := 0) (setW_256 (k := j) (n := w.toNat) x256 (by omega)) (by omega)) (by rw [setW_len, setW_len, setW_len]; exact hr)
  have hf := fill_set (L := setW (setW (setW L k c) j w.toNat) k q) hk (by rw [setW_len, setW_len, setW_len]; exact h1)
  rw [setW_setW, setW_setW] at hf
  rw [s0] at hc
  rw [sy, hf, sz]
  generalize ws (setW L k 0) = A at *
  generalize ws (setW (setW (setW L k c) j w.toNat) k q) = Y at *
  generalize ws (setW (setW (setW L k c) j w.toNat) k 0) = Z at *
  generalize ws (setW (setW L k c) j w.toNat) = X at *
  generalize ws (setW L k c) = V at *
  generalize word L j = o at *
  generalize word L k = p at *
  generalize ws L = U at *
  have m1 := foldS_mod (n := (A : Int)) (by omega)
  have m2 := foldS_mod (n := (Y : Int)) (by omega)
  have m3 := foldS_mod (n := (Z : Int)) (by omega)
  have m4 := foldS_mod (n := 131070 - (c : Int) - o + w) (by omega)
  have n1 := foldS_zero (n := (A : Int)) (by omega)
  have n2 := foldS_zero (n := (Y : Int)) (by omega)
  have n3 := foldS_zero (n := (Z : Int)) (by omega)
  have r1 := foldS_range (n := (A : Int)) (by omega)
  have r2 := foldS_range (n := (Y : Int)) (by omega)
  have r3 := foldS_range (n := (Z : Int)) (by omega)
  have r4 := foldS_range (n := 131070 - (c : Int) - o + w) (by omega)
  unfold wordS cleanS at hq1
  generalize foldS A = fA at *
  generalize foldS Y = fY at *
  generalize foldS Z = fZ at *
  generalize foldS (131070 - (c : Int) - o + w) = fq at *
  have x1 := ar1 m1 (hc.imp id (fun h => ⟨by rw [h.1]; rfl, h.2⟩))
  have x2 := ar2 (o := o) (w := w) (Z := Z) x1 m4 (by clear m1 m2 m3 m4 hq1 hc x1; omega) m3
  have x3 := ar3 x2 (by clear m1 m2 m3 m4 hq1 hc x1 x2; omega) r4 hq1
  have x4 := ar4 (Y := Y) (Z := Z) (by clear m1 m2 m3 m4 hq1 hc x1 x2 x3; omega) x3 m2 m3 (by clear m1 m2 m3 m4 hq1 hc x1 x2 x3; omega)
  refine ⟨x4, ?_⟩
  rw [x3]
  simp

/-! ### The walk -/
section
variable {E : EnvW} (e : WbvC04Env E) (e3 : WbvC03Env E) (ef : WbvC03fEnv E) (e1 : WbvC01Env E)

theorem pad_loop {w p q : Int} : ∀ (m : Nat) (L : List Nat) (N : Nat), (if L.length < 6 then 6 - L.length else L.length % 2) = m → N = L.length → L.length + m ≤ room → (∀ x ∈ L, x < 256) → L.getD 0 0 = 7 → 0 < L.length →
    ∃ X : List Nat, X.length % 2 = 0 ∧ 6 ≤ X.length ∧ X.length ≤ L.length + m ∧ (∀ x ∈ X, x < 256) ∧ X.getD 0 0 = 7 ∧
    runV E (.loop [2, 4, 7] law04_AdjustFresh_L0) (updT (updT (updT botT 7 (.own N 1 (bp L))) 4 (.box [.v (.sc (.int .u8 p)), .v (.sc (.int .u8 q))])) 2 (ti .u16 w)) =
      some (.exit 0, updT (updT (updT botT 7 (.own X.length 1 (bp X))) 4 (.box [.v (.sc (.int .u8 p)), .v (.sc (.int .u8 q))])) 2 (ti .u16 w))
  | 0, L, N, hm, hN, hr, h256, h0, hp => by
    have h6 : ¬ L.length < 6 := by intro h; rw [if_pos h] at hm; omega
    rw [if_neg h6] at hm
    subst hN
    refine ⟨L, hm, by omega, by omega, h256, h0, ?_⟩
    have c1 : ¬ ((L.length : Int) < 6) := by omega
    have c2 : (L.length : Int) % 2 = 0 := by omega
    unfold room at hr
    refine loop_out (by simp (maxSteps := 1000000) (disch := first | omega | (simp only [mp_len, Nat.mul_one, Nat.one_mul, List.length_take, List.length_drop, List.length_append, List.length_set, List.length_cons, List.length_nil, List.length_replicate] <;> omega) | assumption | fail) [law04_AdjustFresh_L0, hidB, wrap_i64, IntKind.wrap_u64, IntKind.wrap_u32, wrap_u16, IntKind.wrap_u8, Int.emod_eq_of_lt, Int.tdiv_eq_ediv_of_nonneg, Int.tmod_eq_emod_of_nonneg, -List.getD_eq_getElem?_getD, -List.drop_drop, c1, c2]; first | exact ⟨rfl, rfl⟩ | exact rfl) ?_ (by simp)
    rfl
  | m + 1, L, N, hm, hN, hr, h256, h0, hp => by
    have h256' : ∀ x ∈ L ++ [0], x < 256 := by
      intro x hx
      rcases List.mem_append.1 hx with hx | hx
      · exact h256 x hx
      · have : x = 0 := by simpa using hx
        omega
    have h0' : (L ++ [0]).getD 0 0 = 7 := by
      rw [← h0]
      simp only [List.getD_eq_getElem?_getD]
      rw [List.getElem?_append_left hp]
    have hlen : (L ++ [0]).length = L.length + 1 := by simp
    obtain ⟨X, x1, x2, x3, x4, x5, x6⟩ := pad_loop m (L ++ [0]) (N + 1) (by rw [hlen]; split at hm <;> split <;> omega) (by rw [hlen, hN]) (by rw [hlen]; omega) h256' h0' (by omega)
    refine ⟨X, x1, x2, ?_, x4, x5, ?_⟩
    · rw [hlen] at x3
      omega
    · subst hN
      unfold room at hr
      by_cases c1 : ((L.length : Int) < 6)
      · refine loop_go (by simp (maxSteps := 1000000) (disch := first | omega | (simp only [mp_len, Nat.mul_one, Nat.one_mul, List.length_take, List.length_drop, List.length_append, List.length_set, List.length_cons, List.length_nil, List.length_replicate] <;> omega) | assumption | fail) [law04_AdjustFresh_L0, hidB, wrap_i64, IntKind.wrap_u64, IntKind.wrap_u32, wrap_u16, IntKind.wrap_u8, Int.emod_eq_of_lt, Int.tdiv_eq_ediv_of_nonneg, Int.tmod_eq_emod_of_nonneg, -List.getD_eq_getElem?_getD, -List.drop_drop, c1]; rfl) ?_
        exact x6
      · have c2 : ¬ (L.length : Int) % 2 = 0 := by split at hm <;> omega
        refine loop_go (by simp (maxSteps := 1000000) (disch := first | omega | (simp only [mp_len, Nat.mul_one, Nat.one_mul, List.length_take, List.length_drop, List.length_append, List.length_set, List.length_cons, List.length_nil, List.length_replicate] <;> omega) | assumption | fail) [law04_AdjustFresh_L0, hidB, wrap_i64, IntKind.wrap_u64, IntKind.wrap_u32, wrap_u16, IntKind.wrap_u8, Int.emod_eq_of_lt, Int.tdiv_eq_ediv_of_nonneg, Int.tmod_eq_emod_of_nonneg, -List.getD_eq_getElem?_getD, -List.drop_drop, c1, c2]; rfl) ?_
        exact x6

include e in
theorem fresh2 {X Y : List Nat} {N : Nat} (hN : N = X.length) (hX : X.length ≤ 140737488355000) {f a w : Int} (hY : Y.length = X.length)
    (q1 : callV E "adjust.At" [vb X, vi f, vi a, vk .u16 w] [] = some ([ro Y, ri 0], [na, na, na, na], [])) (q2 : callV E "onesum.Good" [vb Y] [] = some ([rB true], [na], [])) (q3 : callV E "onesum.Fill" [vb Y, vi f] [] = some ([ro Y, ri 0], [na, na], []))
    (q4 : callV E "ref01.SameBytes" [vb Y, vb Y] [] = some ([rB true], [na, na], [])) :
    ex E [.c law04_AdjustFresh_K2] (updT (updT (updT (updT botT 11 (.own N 1 (bp X))) 10 (ti .i64 a)) 9 (ti .i64 f)) 2 (ti .u16 w)) = some (.ret, updT botT 6 (tb true)) := by
  have hlive := live e
  subst hN
  simp (maxSteps := 1000000) (disch := first | omega | (simp only [mp_len, Nat.mul_one, Nat.one_mul, List.length_take, List.length_drop, List.length_append, List.length_set, List.length_cons, List.length_nil, List.length_replicate] <;> omega) | assumption | fail) [hidB, wrap_i64, IntKind.wrap_u64, IntKind.wrap_u32, wrap_u16, IntKind.wrap_u8, Int.emod_eq_of_lt, Int.tdiv_eq_ediv_of_nonneg, Int.tmod_eq_emod_of_nonneg, -List.getD_eq_getElem?_getD, -List.drop_drop, law04_AdjustFresh_K2, law04_AdjustFresh_K1, law04_AdjustFresh_K0, q1, q2, q3, q4, hlive]

include e in
theorem fresh3 {X : List Nat} {N k : Nat} (hN : N = X.length) (hX : X.length ≤ 140737488355000) (h256 : ∀ x ∈ X, x < 256) (hk : k + 1 < X.length) {p q a w : Int} (hp : 0 ≤ p ∧ p < 256)
    (r1 : ex E [.c law04_AdjustFresh_K2] (updT (updT (updT (updT botT 11 (.own N 1 (bp X))) 10 (ti .i64 a)) 9 (ti .i64 k)) 2 (ti .u16 w)) = some (.ret, updT botT 6 (tb true)))
    (r2 : word X k = 0 → ex E [.c law04_AdjustFresh_K2] (updT (updT (updT (updT botT 11 (.own N 1 (bp (setW X k 65535)))) 10 (ti .i64 a)) 9 (ti .i64 k)) 2 (ti .u16 w)) = some (.ret, updT botT 6 (tb true))) :
    ex E [.c law04_AdjustFresh_K3] (updT (updT (updT (updT (updT botT 11 (.own N 1 (bp X))) 10 (ti .i64 a)) 9 (ti .i64 k)) 4 (.box [.v (.sc (.int .u8 p)), .v (.sc (.int .u8 q))])) 2 (ti .u16 w)) = some (.ret, updT botT 6 (tb true)) := by
  have i2 : ((k : Int) + 1).toNat = k + 1 := by omega
  subst hN
  by_cases c1 : p % 3 = 0
  · by_cases c2 : X.getD k 0 = 0
    · by_cases c3 : X.getD (k + 1) 0 = 0
      · have r3 := r2 (by unfold word; omega)
        unfold setW at r3
        simp (maxSteps := 1000000) (disch := first | omega | (simp only [mp_len, Nat.mul_one, Nat.one_mul, List.length_take, List.length_drop, List.length_append, List.length_set, List.length_cons, List.length_nil, List.length_replicate] <;> omega) | assumption | fail) [hidB, wrap_i64, IntKind.wrap_u64, IntKind.wrap_u32, wrap_u16, IntKind.wrap_u8, Int.emod_eq_of_lt, Int.tdiv_eq_ediv_of_nonneg, Int.tmod_eq_emod_of_nonneg, -List.getD_eq_getElem?_getD, -List.drop_drop, law04_AdjustFresh_K3, r3, i2, c1, c2, c3]
      · simp (maxSteps := 1000000) (disch := first | omega | (simp only [mp_len, Nat.mul_one, Nat.one_mul, List.length_take, List.length_drop, List.length_append, List.length_set, List.length_cons, List.length_nil, List.length_replicate] <;> omega) | assumption | fail) [hidB, wrap_i64, IntKind.wrap_u64, IntKind.wrap_u32, wrap_u16, IntKind.wrap_u8, Int.emod_eq_of_lt, Int.tdiv_eq_ediv_of_nonneg, Int.tmod_eq_emod_of_nonneg, -List.getD_eq_getElem?_getD, -List.drop_drop, law04_AdjustFresh_K3, r1, i2, c1, c2, c3]
    · simp (maxSteps := 1000000) (disch := first | omega | (simp only [mp_len, Nat.mul_one, Nat.one_mul, List.length_take, List.length_drop, List.length_append, List.length_set, List.length_cons, List.length_nil, List.length_replicate] <;> omega) | assumption | fail) [hidB, wrap_i64, IntKind.wrap_u64, IntKind.wrap_u32, wrap_u16, IntKind.wrap_u8, Int.emod_eq_of_lt, Int.tdiv_eq_ediv_of_nonneg, Int.tmod_eq_emod_of_nonneg, -List.getD_eq_getElem?_getD, -List.drop_drop, law04_AdjustFresh_K3, r1, i2, c1, c2]
  · simp (maxSteps := 1000000) (disch := first | omega | (simp only [mp_len, Nat.mul_one, Nat.one_mul, List.length_take, List.length_drop, List.length_append, List.length_set, List.length_cons, List.length_nil, List.length_replicate] <;> omega) | assumption | fail) [hidB, wrap_i64, IntKind.wrap_u64, IntKind.wrap_u32, wrap_u16, IntKind.wrap_u8, Int.emod_eq_of_lt, Int.tdiv_eq_ediv_of_nonneg, Int.tmod_eq_emod_of_nonneg, -List.getD_eq_getElem?_getD, -List.drop_drop, law04_AdjustFresh_K3, r1, i2, c1]

include e e1 e3 ef in
theorem fresh9 {L : List Nat} {N : Nat} (hN : N = L.length) (hr : L.length ≤ room) (h256 : ∀ x ∈ L, x < 256) (h0 : L.getD 0 0 = 7) (hpar : L.length % 2 = 0) (hl : 6 ≤ L.length) {p q w : Int} (hp : 0 ≤ p ∧ p < 256) (hq : 0 ≤ q ∧ q < 256) (hw : W16 w) :
    ex E [.c law04_AdjustFresh_K9] (updT (updT (updT botT 7 (.own N 1 (bp L))) 4 (.box [.v (.sc (.int .u8 p)), .v (.sc (.int .u8 q))])) 2 (ti .u16 w)) = some (.ret, updT botT 6 (tb true)) := by
  have hlive := live e
  obtain ⟨n, hn⟩ : ∃ n : Nat, L.length = 2 * n + 2 := ⟨L.length / 2 - 1, by omega⟩
  obtain ⟨i, hi⟩ : ∃ i : Nat, p % (n : Int) = i := ⟨(p % (n : Int)).toNat, by have := Int.emod_nonneg p (show (n : Int) ≠ 0 by omega); omega⟩
  obtain ⟨j, hj⟩ : ∃ j : Nat, q % (n : Int) = j := ⟨(q % (n : Int)).toNat, by have := Int.emod_nonneg q (show (n : Int) ≠ 0 by omega); omega⟩
  have hi' : i < n := by have := Int.emod_lt_of_pos p (show (0 : Int) < n by omega); omega
  have hj' : j < n := by have := Int.emod_lt_of_pos q (show (0 : Int) < n by omega); omega
  obtain ⟨k, hk⟩ : ∃ k : Nat, k = 2 + 2 * i := ⟨_, rfl⟩
  obtain ⟨a, ha⟩ : ∃ a : Nat, a = 2 + 2 * j := ⟨_, rfl⟩
  have hki : (2 : Int) + 2 * i = k := by omega
  have haj : (2 : Int) + 2 * j = a := by omega
  have hk1 : k + 1 < L.length := by omega
  have ha1 : a + 1 < L.length := by omega
  have hke : k % 2 = 0 := by omega
  have hae : a % 2 = 0 := by omega
  have hlr := hr
  unfold room at hlr
  have hq0 : (2 * (n : Int) + 2) / 2 - 1 = n := by omega
  have hn0 : ¬ n = 0 := by omega
  by_cases hka : k = a
  · subst hN
    have haj' : (2 : Int) + 2 * j = k := by omega
    simp (maxSteps := 1000000) (disch := first | omega | (simp only [mp_len, Nat.mul_one, Nat.one_mul, List.length_take, List.length_drop, List.length_append, List.length_set, List.length_cons, List.length_nil, List.length_replicate] <;> omega) | assumption | fail) [hidB, wrap_i64, IntKind.wrap_u64, IntKind.wrap_u32, wrap_u16, IntKind.wrap_u8, Int.emod_eq_of_lt, Int.tdiv_eq_ediv_of_nonneg, Int.tmod_eq_emod_of_nonneg, -List.getD_eq_getElem?_getD, -List.drop_drop, law04_AdjustFresh_K9, law04_AdjustFresh_K8, law04_AdjustFresh_K7, law04_AdjustFresh_K6, hlive, hn, hq0, hn0, hi, hj, hki, haj']
  · have hsr := @sumS_range (setW L k 0)
    have qf := P03.onesum_Fill e3 e1 L hr h256 k (by unfold I64; omega)
    rw [fill_set hke hk1] at qf
    have main : ∀ c : Nat, ((c : Int) = 65535 - sumS (setW L k 0) ∨ (c = 65535 ∧ 65535 - sumS (setW L k 0) = 0)) →
        ex E [.c law04_AdjustFresh_K2] (updT (updT (updT (updT botT 11 (.own N 1 (bp (setW L k c)))) 10 (ti .i64 a)) 9 (ti .i64 k)) 2 (ti .u16 w)) = some (.ret, updT botT 6 (tb true)) := by
      intro c hc
      have c16 : c < 65536 := by omega
      obtain ⟨Y, y1, y2, y3, y4, y5⟩ := fresh hke hae hka (by omega) (by omega) hk1 ha1 hw h256 hr h0 hc
      have x256 := setW_256 (k := k) h256 c16
      have q1 := adjust_At e e3 ef e1 (setW L k c) (by rw [setW_len]; exact hr) x256 k a w (by unfold I64; omega) (by unfold I64; omega) hw
      rw [y3] at q1
      have q2 := onesum_Good e3 Y y2
      rw [y4] at q2
      have q3 := P03.onesum_Fill e3 e1 Y (by omega) y2 k (by unfold I64; omega)
      rw [y5] at q3
      have q4 := ref01_SameBytes e1 Y Y (by omega)
      rw [decide_eq_true rfl] at q4
      exact fresh2 e (by rw [setW_len]; exact hN) (by rw [setW_len]; omega) (by rw [setW_len]; exact y1) q1 (by simpa using q2) q3 q4
    have m1 := main (65535 - sumS (setW L k 0)).toNat (.inl (by omega))
    have m2 := main 65535
    have hw1 := word_same (n := (65535 - sumS (setW L k 0)).toNat) hk1
    have f3 := fresh3 (E := E) e (X := setW L k (65535 - sumS (setW L k 0)).toNat) (N := N) (k := k) (a := a) (w := w) (p := p) (q := q) (by rw [setW_len]; exact hN) (by rw [setW_len]; omega) (setW_256 h256 (by omega)) (by rw [setW_len]; exact hk1) hp m1 (fun hz => by
      rw [setW_setW]
      exact m2 (.inr ⟨rfl, by rw [hw1] at hz; omega⟩))
    have hxl := @setW_len L k (65535 - sumS (setW L k 0)).toNat
    generalize setW L k (65535 - sumS (setW L k 0)).toNat = X at *
    subst hN
    rw [hn] at f3 hxl
    have qf : callV E "onesum.Fill" [.v (.sl (2 * n + 2) (bp L)), vi k] [] = some ([ro X, ri 0], [na, na], []) := by rw [← hn]; exact qf
    have hkai : ¬ (k : Int) = a := by omega
    simp (maxSteps := 1000000) (disch := first | omega | (simp only [mp_len, Nat.mul_one, Nat.one_mul, List.length_take, List.length_drop, List.length_append, List.length_set, List.length_cons, List.length_nil, List.length_replicate] <;> omega) | assumption | fail) [hidB, wrap_i64, IntKind.wrap_u64, IntKind.wrap_u32, wrap_u16, IntKind.wrap_u8, Int.emod_eq_of_lt, Int.tdiv_eq_ediv_of_nonneg, Int.tmod_eq_emod_of_nonneg, -List.getD_eq_getElem?_getD, -List.drop_drop, law04_AdjustFresh_K9, law04_AdjustFresh_K8, law04_AdjustFresh_K7, law04_AdjustFresh_K6, law04_AdjustFresh_K5, law04_AdjustFresh_K4, hn, hq0, hn0, hi, hj, hki, haj, hkai, hka, qf, f3, hxl]

include e e1 e3 ef in
theorem law_AdjustFresh (B : Nat) (avs : List PV) (ha : PArgs B [.sl 1 1 (.int .u8), .arr 2 (.int .u8), .int .u16] avs) :
    ∃ o ho, callV E "law04.AdjustFresh" (avs.map .v) [] = some ([rB true], o, ho) := by
  simp only [PArgs] at ha
  obtain ⟨v0, _, rfl, a0, v1, _, rfl, a1, v2, _, rfl, a2, rfl⟩ := ha
  obtain ⟨b, rfl, h256, hlen, _⟩ := pv_bytes a0
  have hlb := hlen
  unfold reach reachBytes at hlb
  obtain ⟨l1, hl1, rfl, hw1⟩ := pv_arr a1
  obtain ⟨w, rfl, hw⟩ := pv_int a2
  obtain ⟨p, q, rfl⟩ : ∃ p q, l1 = [p, q] := by
    match l1, hl1 with
    | [p, q], _ => exact ⟨p, q, rfl⟩
  have hp := wf_u8 (hw1 p (by simp))
  have hq := wf_u8 (hw1 q (by simp))
  have hw : W16 w := wf_u16 hw
  obtain ⟨X, x1, x2, x3, x4, x5, x6⟩ := pad_loop (E := E) (w := w) (p := p) (q := q) (if (7 :: b).length < 6 then 6 - (7 :: b).length else (7 :: b).length % 2) (7 :: b) (1 + b.length) rfl (by simp; omega) (by unfold room; simp only [List.length_cons]; split <;> omega) (by simp only [List.mem_cons]; rintro x (rfl | hx); omega; exact h256 x hx) rfl (by simp)
  have hx : X.length ≤ 140737488354000 := by
    simp only [List.length_cons] at x3
    split at x3 <;> omega
  have h9 := fresh9 (E := E) e e3 ef e1 (L := X) (N := X.length) rfl (by unfold room; omega) x4 x5 x1 x2 hp hq hw
  have c1 : [PV.sc (.int .u8 7)] = bp [7] := rfl
  clear x1 x2 x3 x4 x5
  refine ⟨[na, na, na], [], ?_⟩
  rw [List.map_cons, List.map_cons, List.map_cons, List.map_nil, show mp (fun n : Int => PV.sc (.int .u8 n)) [p, q] = [.sc (.int .u8 p), .sc (.int .u8 q)] from rfl]
  refine callV_fn e.law04_AdjustFresh fun nd hnd => ?_
  simp (maxSteps := 1000000) (disch := first | omega | (simp only [mp_len, Nat.mul_one, Nat.one_mul, List.length_take, List.length_drop, List.length_append, List.length_set, List.length_cons, List.length_nil, List.length_replicate] <;> omega) | assumption | fail) [law04_AdjustFresh_B, hidB, wrap_i64, IntKind.wrap_u64, IntKind.wrap_u32, wrap_u16, IntKind.wrap_u8, Int.emod_eq_of_lt, Int.tdiv_eq_ediv_of_nonneg, Int.tmod_eq_emod_of_nonneg, -List.getD_eq_getElem?_getD, -List.drop_drop, law04_AdjustFresh_K10, x6, h9, c1]
end
end Go.Wb.P04

/- Chapter 1: digits. -/
import Derived.Test.YtihcipgcknjkbaaWbP01c
import Derived.Test.YtihcipgcknjkbaaWbStr
set_option maxRecDepth 100000
namespace Go.Wb.P01
open Go Go.Wb Go.Wb.Code

def hexc (d : Nat) : Nat := if d < 10 then 48 + d else 87 + d

theorem figure : ∀ j : Nat, j < 16 → aStrAt ⟨#[48, 49, 50, 51, 52, 53, 54, 55, 56, 57, 97, 98, 99, 100, 101, 102]⟩ (j : Int) = some (.int .u8 (hexc j : Nat)) := by
  intro j hj
  have h : ∀ k : Fin 16, (([48, 49, 50, 51, 52, 53, 54, 55, 56, 57, 97, 98, 99, 100, 101, 102] : List UInt8)[k.val]?).map (fun b => b.toNat) = some (hexc k.val) := by decide
  have := h ⟨j, hj⟩
  unfold aStrAt
  rw [if_pos (by omega)]
  simp only [Int.toNat_natCast]
  rw [Option.map_eq_some_iff] at this
  obtain ⟨b, h1, h2⟩ := this
  simp only at h1 h2
  rw [h1, Option.map_some, h2]

def hexL (b : List Nat) : List Nat := b.flatMap fun c => [hexc (c / 16), hexc (c % 16)]

theorem hexL_length : ∀ b : List Nat, (hexL b).length = 2 * b.length
  | [] => rfl
  | c :: b => by
    have := hexL_length b
    simp only [hexL, List.flatMap_cons, List.length_append, List.length_cons, List.length_nil] at this ⊢
    omega

theorem hexL_take {b : List Nat} {k : Nat} (h : k < b.length) : hexL (b.take (k + 1)) = hexL (b.take k) ++ [hexc (b.getD k 0 / 16), hexc (b.getD k 0 % 16)] := by
  rw [take_succ_getD h]
  simp [hexL]

section
variable {E : Env} (e : WbC01Env E)
include e

omit e in
theorem octet_Hex_loop (h0 : Heap) (b : List Nat) (v : Value) (hv : SlB h0 b v) (h256 : ∀ x ∈ b, x < 256) (hlb : b.length ≤ 70368744177664) : ∀ (m k : Nat) (o : Value) (h : Heap) (t : T) (r), k + m = b.length → Ext h0 h → OwnB h0 h (hexL (b.take k)) o → runA E (.loop octet_Hex_L0) t h = r →
    t 10 = v → t 3 = o → t 11 = .int .i64 (b.length : Nat) → t 12 = .int .i64 k → ∃ t' h' o', r = some (.exit 0, t', h') ∧ Ext h0 h' ∧ OwnB h0 h' (hexL b) o' ∧ t' 3 = o'
  | 0, k, o, h, t, r, hk, hx, ho, hr, t10, t3, t11, t12 => by
    have hn : ¬ ((k : Int) < b.length) := by omega
    rw [runA_loop] at hr
    simp [octet_Hex_L0, t11, t12, hn] at hr
    rw [List.take_of_length_le (by omega)] at ho
    exact ⟨_, _, o, hr.symm, hx, ho, by simp [t3]⟩
  | m + 1, k, o, h, t, r, hk, hx, ho, hr, t10, t3, t11, t12 => by
    have hn : ((k : Int) < b.length) := by omega
    have hk' : k < b.length := by omega
    have hv' := hv.mono hx
    have hi := hv'.idx (k := .i64) (j := k) (by omega) hn
    have hrd := hv'.read hk'
    have hc := h256 _ (getD_mem hk')
    have hstep := hexL_take hk'
    have hlen := hexL_length (b.take k)
    rw [List.length_take] at hlen
    have ih := octet_Hex_loop h0 b v hv h256 hlb m (k + 1)
    rw [hstep] at ih
    generalize b.getD k 0 = c at *
    have hs := shr_u8 (a := c) (k := 4) (by decide)
    have ha := and_u8 hc
    have f1 := figure (c / 16) (by omega)
    have f2 := figure (c % 16) (by omega)
    obtain ⟨o', h', q1, q2, q3, q4⟩ := ho.append (hx.trans (.new h [.int .u8 (hexc (c / 16) : Nat), .int .u8 (hexc (c % 16) : Nat)])) (.new h _) (slB_two h _ _) (by simp; omega)
    simp at hi hs ha f1 f2
    rw [runA_loop] at hr
    simp (disch := omega) [octet_Hex_L0, t3, t10, t11, t12, hn, hi, hrd, hs, ha, f1, f2, repCells, q1, wrap_i64] at hr
    exact ih o' h' _ _ (by omega) q2 q3 hr (by simp [t10]) (by simp) (by simp [t11]) (by simp)

theorem octet_Hex {h : Heap} {b : List Nat} {v : Value} (hv : SlB h b v) (h256 : ∀ x ∈ b, x < 256) (hlb : b.length ≤ 70368744177664) :
    ∃ h', callA E "octet.Hex" [v] h = some (.string (strOf (hexL b)), h') ∧ Ext h h' := by
  rw [callA_code e.octet_Hex]
  have hlen := hv.len
  have hm := aMake_none h (k := .i64) (k' := .i64) (size := 1) (bytes := 1) (z := .int .u8 0) (c := 2 * (b.length : Int)) (by omega) (by omega)
  have hloop := octet_Hex_loop (E := E) h b v hv h256 hlb b.length 0 (.slice (some ⟨h.length, 0, none⟩) 0 1) (newBlk h [])
  simp (disch := omega) [octet_Hex_B, hlen, wrap_i64, hm]
  generalize hr : runA E (.loop octet_Hex_L0) _ _ = r
  obtain ⟨t', h', o', rfl, q2, q3, q4⟩ := hloop _ _ (by omega) (.new h _) (by simpa [hexL] using own_none h) hr (by simp) (by simp) (by simp) (by simp)
  have hs := bytesStr_of q3.sl
  exact ⟨h', by simp [q4, hs], q2⟩

omit e in
theorem ref01_Hex_loop (h0 : Heap) (b : List Nat) (v : Value) (hv : SlB h0 b v) (h256 : ∀ x ∈ b, x < 256) (hlb : b.length ≤ 70368744177664) : ∀ (m k : Nat) (o : Value) (h : Heap) (t : T) (r), k + m = b.length → Ext h0 h → OwnB h0 h (hexL (b.take k)) o → runA E (.loop ref01_Hex_L0) t h = r →
    t 0 = v → t 3 = o → t 4 = .int .i64 k → ∃ t' h' o', r = some (.exit 0, t', h') ∧ Ext h0 h' ∧ OwnB h0 h' (hexL b) o' ∧ t' 3 = o'
  | 0, k, o, h, t, r, hk, hx, ho, hr, t0, t3, t4 => by
    have hl := (hv.mono hx).len
    have hn : ¬ ((k : Int) < b.length) := by omega
    rw [runA_loop] at hr
    simp [ref01_Hex_L0, t0, t4, hl, hn] at hr
    rw [List.take_of_length_le (by omega)] at ho
    exact ⟨_, _, o, hr.symm, hx, ho, by simp [t3]⟩
  | m + 1, k, o, h, t, r, hk, hx, ho, hr, t0, t3, t4 => by
    have hn : ((k : Int) < b.length) := by omega
    have hk' : k < b.length := by omega
    have hv' := hv.mono hx
    have hl := hv'.len
    have hi := hv'.idx (k := .i64) (j := k) (by omega) hn
    have hrd := hv'.read hk'
    have hc := h256 _ (getD_mem hk')
    have hstep := hexL_take hk'
    have hlen := hexL_length (b.take k)
    rw [List.length_take] at hlen
    have ih := ref01_Hex_loop h0 b v hv h256 hlb m (k + 1)
    rw [hstep] at ih
    generalize b.getD k 0 = c at *
    have m1 : (c : Int).tmod 16 = c % 16 := Int.tmod_eq_emod_of_nonneg (by omega)
    have f1 := figure (c / 16) (by omega)
    have f2 := figure (c % 16) (by omega)
    obtain ⟨o', h', q1, q2, q3, q4⟩ := ho.append (hx.trans (.new h [.int .u8 (hexc (c / 16) : Nat), .int .u8 (hexc (c % 16) : Nat)])) (.new h _) (slB_two h _ _) (by simp; omega)
    simp at hi f1 f2
    rw [runA_loop] at hr
    simp (disch := omega) [ref01_Hex_L0, t3, t0, t4, hl, hn, hi, hrd, m1, f1, f2, repCells, q1, wrap_i64, wrap_u8] at hr
    exact ih o' h' _ _ (by omega) q2 q3 hr (by simp [t0]) (by simp) (by simp)

theorem ref01_Hex {h : Heap} {b : List Nat} {v : Value} (hv : SlB h b v) (h256 : ∀ x ∈ b, x < 256) (hlb : b.length ≤ 70368744177664) :
    ∃ h', callA E "ref01.Hex" [v] h = some (.string (strOf (hexL b)), h') ∧ Ext h h' := by
  rw [callA_code e.ref01_Hex]
  have hloop := ref01_Hex_loop (E := E) h b v hv h256 hlb b.length 0 (.slice none 0 0) h
  simp (disch := omega) [ref01_Hex_B]
  generalize hr : runA E (.loop ref01_Hex_L0) _ _ = r
  obtain ⟨t', h', o', rfl, q2, q3, q4⟩ := hloop _ _ (by omega) (.refl h) (by simpa [hexL] using OwnB.nil) hr (by simp) (by simp) (by simp)
  have hs := bytesStr_of q3.sl
  exact ⟨h', by simp [q4, hs], q2⟩

omit e in
/-- Is it a digit's letter, and which digit? -/
def isHex (c : Nat) : Bool := (decide (48 ≤ c) && decide (c ≤ 57)) || (decide (97 ≤ c) && decide (c ≤ 102))
def nib (c : Nat) : Nat := if c ≤ 57 then c - 48 else c - 87

omit e in
theorem nib_lt {c : Nat} (h : isHex c = true) : nib c < 16 := by
  simp [isHex] at h
  unfold nib
  split <;> omega

theorem octet_nibble (c : Nat) (hc : c < 256) (h : Heap) : callA E "octet.nibble" [.int .u8 c] h = some (.tuple #[.int .u8 (if isHex c then nib c else 0 : Nat), .bool (isHex c)], h) := by
  rw [callA_code e.octet_nibble]
  by_cases h1 : 48 ≤ c
  · by_cases h2 : c ≤ 57
    · have e1 : isHex c = true := by simp [isHex, h1, h2]
      have e2 : (nib c : Int) = (c : Int) - 48 := by simp only [nib, h2, if_true]; omega
      have h1' : (48 : Int) ≤ c := by omega
      have h2' : (c : Int) ≤ 57 := by omega
      simp (disch := omega) [octet_nibble_B, h1', h2', e1, e2, wrap_u8]
    · have h1' : (48 : Int) ≤ c := by omega
      have h2' : ¬ (c : Int) ≤ 57 := by omega
      by_cases h3 : 97 ≤ c
      · have h3' : (97 : Int) ≤ c := by omega
        by_cases h4 : c ≤ 102
        · have h4' : (c : Int) ≤ 102 := by omega
          have e1 : isHex c = true := by simp [isHex, h3, h4]
          have e2 : (nib c : Int) = (c : Int) - 97 + 10 := by simp only [nib, h2, if_false]; omega
          simp (disch := omega) [octet_nibble_B, h1', h2', h3', h4', e1, e2, wrap_u8]
        · have h4' : ¬ (c : Int) ≤ 102 := by omega
          have e1 : isHex c = false := by simp [isHex, h2, h4]
          simp (disch := omega) [octet_nibble_B, h1', h2', h3', h4', e1]
      · have h3' : ¬ (97 : Int) ≤ c := by omega
        have e1 : isHex c = false := by simp [isHex, h2, h3]
        simp (disch := omega) [octet_nibble_B, h1', h2', h3', e1]
  · have h1' : ¬ (48 : Int) ≤ c := by omega
    have h3' : ¬ (97 : Int) ≤ c := by omega
    have h3 : ¬ 97 ≤ c := by omega
    have e1 : isHex c = false := by simp [isHex, h1, h3]
    simp (disch := omega) [octet_nibble_B, h1', h3', e1]

omit e in
theorem hexc_eq (c : Nat) (hc : c < 256) (k : Nat) (hk : k < 16) : hexc k = c ↔ isHex c = true ∧ nib c = k := by
  unfold hexc isHex nib
  by_cases h1 : c ≤ 57
  · by_cases h2 : 48 ≤ c
    · by_cases h3 : k < 10 <;> simp [h1, h2, h3] <;> omega
    · have h4 : ¬ 97 ≤ c := by omega
      by_cases h3 : k < 10 <;> simp [h1, h2, h3, h4] <;> omega
  · by_cases h2 : 97 ≤ c
    · by_cases h4 : c ≤ 102
      · by_cases h3 : k < 10 <;> simp [h1, h2, h3, h4] <;> omega
      · by_cases h3 : k < 10 <;> simp [h1, h2, h3, h4] <;> omega
    · by_cases h3 : k < 10 <;> simp [h1, h2, h3] <;> omega

omit e in
theorem ref01_digit_loop (h : Heap) (c : Nat) (hc : c < 256) : ∀ (m k : Nat) (t : T) (r), k + m = 16 → (isHex c = true → k ≤ nib c) → runA E (.loop ref01_digit_L0) t h = r →
    t 0 = .int .u8 c → t 3 = .int .i64 k → ∃ t' ex, r = some (ex, t', h) ∧ ((ex = .exit 0 ∧ isHex c = false) ∨ (ex = .ret ∧ t' 2 = .int .i64 (nib c : Nat) ∧ isHex c = true))
  | 0, k, t, r, hk, hle, hr, t0, t3 => by
    have hn : ¬ ((k : Int) < 16) := by omega
    rw [runA_loop] at hr
    simp [ref01_digit_L0, t3, hn] at hr
    refine ⟨_, _, hr.symm, .inl ⟨rfl, ?_⟩⟩
    cases hh : isHex c with
    | false => rfl
    | true =>
      have h1 := hle hh
      have h2 := nib_lt hh
      omega
  | m + 1, k, t, r, hk, hle, hr, t0, t3 => by
    have hn : ((k : Int) < 16) := by omega
    have f1 := figure k (by omega)
    have heq := hexc_eq c hc k (by omega)
    have ih := ref01_digit_loop h c hc m (k + 1)
    rw [runA_loop] at hr
    by_cases hx : hexc k = c
    · obtain ⟨q1, q2⟩ := heq.1 hx
      rw [hx] at f1
      simp (disch := omega) [ref01_digit_L0, t0, t3, hn, f1] at hr
      exact ⟨_, _, hr.symm, .inr ⟨rfl, by simp [q2], q1⟩⟩
    · have hx' : ¬ ((hexc k : Nat) : Int) = c := by omega
      simp (disch := omega) [ref01_digit_L0, t0, t3, hn, f1, hx', wrap_i64] at hr
      refine ih _ _ (by omega) (fun hh => ?_) hr (by simp [t0]) (by simp)
      have h1 := hle hh
      have h2 : ¬ nib c = k := fun q => hx (heq.2 ⟨hh, q⟩)
      omega

theorem ref01_digit (c : Nat) (hc : c < 256) (h : Heap) : callA E "ref01.digit" [.int .u8 c] h = some (.int .i64 (if isHex c then (nib c : Int) else -1), h) := by
  rw [callA_code e.ref01_digit]
  have hloop := ref01_digit_loop (E := E) h c hc 16 0
  simp [ref01_digit_B]
  generalize hr : runA E (.loop ref01_digit_L0) _ _ = r
  obtain ⟨t', ex, rfl, ⟨rfl, q⟩ | ⟨rfl, q, q2⟩⟩ := hloop _ _ (by omega) (fun _ => by omega) hr (by simp) (by simp)
  · simp [q]
  · simp [q, q2]

omit e in
/-- The bytes of so many digits. -/
def half (l : List Nat) (k : Nat) : List Nat := (List.range (l.length / 2)).map fun j => if 2 * j + 1 < k then nib (l.getD (2 * j) 0) * 16 + nib (l.getD (2 * j + 1) 0) else if 2 * j < k then nib (l.getD (2 * j) 0) else 0

omit e in
theorem half_length (l : List Nat) (k : Nat) : (half l k).length = l.length / 2 := by simp [half]

omit e in
theorem half_get (l : List Nat) (k j : Nat) (hj : j < l.length / 2) : (half l k).getD j 0 = if 2 * j + 1 < k then nib (l.getD (2 * j) 0) * 16 + nib (l.getD (2 * j + 1) 0) else if 2 * j < k then nib (l.getD (2 * j) 0) else 0 := by
  rw [List.getD_eq_getElem?_getD, List.getElem?_eq_getElem (by rw [half_length]; exact hj)]
  simp [half]

omit e in
theorem halves_step (l : List Nat) (k : Nat) : half l (k + 1) = if k / 2 < l.length / 2 then (half l k).set (k / 2) ((half l k).getD (k / 2) 0 * 16 + nib (l.getD k 0)) else half l k := by
  by_cases hk : k / 2 < l.length / 2
  · rw [if_pos hk]
    have gk := half_get l k (k / 2) hk
    apply List.ext_getElem
    · simp [half_length]
    · intro j h1 h2
      have hj : j < l.length / 2 := by rw [half_length] at h1; exact h1
      have g1 := half_get l (k + 1) j hj
      rw [List.getD_eq_getElem?_getD, List.getElem?_eq_getElem h1, Option.getD_some] at g1
      have g0 := half_get l k j hj
      rw [List.getD_eq_getElem?_getD, List.getElem?_eq_getElem (by rw [half_length]; exact hj), Option.getD_some] at g0
      rw [g1, List.getElem_set]
      by_cases he : k / 2 = j
      · subst he
        rw [if_pos rfl, gk]
        rcases Nat.mod_two_eq_zero_or_one k with hm | hm
        · have e1 : 2 * (k / 2) = k := by omega
          rw [e1, if_neg (by omega), if_pos (by omega), if_neg (by omega), if_neg (by omega)]
          omega
        · have e1 : 2 * (k / 2) + 1 = k := by omega
          rw [if_pos (by omega), if_neg (by omega), if_pos (by omega), e1]
      · rw [if_neg he, g0]
        by_cases c1 : 2 * j + 1 < k
        · rw [if_pos (by omega), if_pos c1]
        · rw [if_neg (by omega), if_neg c1]
          by_cases c2 : 2 * j < k
          · rw [if_pos (by omega), if_pos c2]
          · rw [if_neg (by omega), if_neg c2]
  · rw [if_neg hk]
    unfold half
    apply List.map_congr_left
    intro j hj
    have hj := List.mem_range.1 hj
    by_cases c1 : 2 * j + 1 < k
    · rw [if_pos (by omega), if_pos c1]
    · rw [if_neg (by omega), if_neg c1]
      by_cases c2 : 2 * j < k
      · rw [if_pos (by omega), if_pos c2]
      · rw [if_neg (by omega), if_neg c2]

omit e in
theorem half_lt (l : List Nat) (hh : ∀ i, i < l.length → isHex (l.getD i 0) = true) (k : Nat) : ∀ x ∈ half l k, x < 256 := by
  intro x hx
  obtain ⟨j, hj, rfl⟩ := List.mem_map.1 hx
  have hj := List.mem_range.1 hj
  have h1 := nib_lt (hh (2 * j) (by omega))
  have h2 := nib_lt (hh (2 * j + 1) (by omega))
  split
  · omega
  · split <;> omega

omit e in
theorem shl4_u8 {a : Nat} (ha : a < 16) : aShift .shl .u8 (a : Int) 4 = some (.int .u8 ((a * 16 : Nat) : Int)) := by
  simp only [aShift, IntKind.bits]
  rw [if_neg (by decide)]
  have : ((a : Int) * 2 ^ (min (4 : Int).toNat 8)) = ((a * 16 : Nat) : Int) := by simp
  rw [this, wrap_u8 (by omega) (by omega)]

omit e in
theorem or_nib {a x : Nat} (ha : a < 16) (hx : x < 16) : bits .or .u8 ((a * 16 : Nat) : Int) (x : Int) = ((a * 16 + x : Nat) : Int) := by
  have := bits_join .u8 8 (by decide) (fun n h0 h1 => wrap_u8 h0 (by simpa using h1)) 4 ((a * 16 : Nat) : Int) x (by omega) (by omega) (by omega) (by omega) (by omega) (by omega)
  rw [this]
  omega

theorem octet_Unhex_loop (h0 : Heap) (p : Nat) (hp : h0[p]? = some (.mem false [.int .i64 0, .int .i64 0])) (l : List Nat) (h256 : ∀ x ∈ l, x < 256) (hl : l.length ≤ 140737488355328) (o : Value) : ∀ (m k : Nat) (h : Heap) (t : T) (r), k + m = l.length → Ext h0 h → OwnB h0 h (half l k) o → (∀ i, i < k → isHex (l.getD i 0) = true) → runA E (.loop octet_Unhex_L0) t h = r →
    t 0 = .string (strOf l) → t 4 = o → t 3 = .pointer (some ⟨p, 0, none⟩) → t 13 = .int .i64 (l.length : Nat) → t 14 = .int .i64 k →
    (∃ t' h', r = some (.exit 0, t', h') ∧ Ext h0 h' ∧ OwnB h0 h' (half l l.length) o ∧ (∀ i, i < l.length → isHex (l.getD i 0) = true) ∧ t' 0 = .string (strOf l) ∧ t' 4 = o ∧ t' 3 = .pointer (some ⟨p, 0, none⟩)) ∨
    (∃ t' h' i, r = some (.ret, t', h'.set p (.mem false [.int .i64 3, .int .i64 (i : Nat)])) ∧ Ext h0 h' ∧ i < l.length ∧ (∀ j, j < i → isHex (l.getD j 0) = true) ∧ isHex (l.getD i 0) = false ∧ t' 2 = .slice none 0 0 ∧ t' 3 = .pointer (some ⟨p, 0, none⟩))
  | 0, k, h, t, r, hk, hx, ho, hh, hr, t0, t4, t3, t13, t14 => by
    have hn : ¬ ((k : Int) < l.length) := by omega
    rw [runA_loop] at hr
    simp [octet_Unhex_L0, t13, t14, hn] at hr
    have : k = l.length := by omega
    subst this
    exact .inl ⟨_, _, hr.symm, hx, ho, hh, by simp [t0], by simp [t4], by simp [t3]⟩
  | m + 1, k, h, t, r, hk, hx, ho, hh, hr, t0, t4, t3, t13, t14 => by
    have ih := octet_Unhex_loop h0 p hp l h256 hl o m (k + 1)
    have hn : ((k : Int) < l.length) := by omega
    have hs := strAt h256 (i := k) (by omega) hn
    simp only [Int.toNat_natCast] at hs
    have hc := h256 _ (getD_mem (by omega : k < l.length))
    have hnib := octet_nibble e (l.getD k 0) hc h
    have hlen := ho.sl.len
    rw [half_length] at hlen
    have hstep := halves_step l k
    have hq : (k : Int).tdiv 2 = ((k / 2 : Nat) : Int) := by rw [Int.tdiv_eq_ediv_of_nonneg (by omega)]; omega
    cases hhex : isHex (l.getD k 0) with
    | false =>
      rw [hhex] at hnib
      have hw := write_all (h := h) (i := p) (n := 2) (c := #[.int .i64 3, .int .i64 (k : Nat)]) (hx.get hp) rfl rfl
      rw [runA_loop] at hr
      generalize hcg : l.getD k 0 = c at *
      simp at hnib hw
      simp (disch := omega) [octet_Unhex_L0, t0, t3, t13, t14, hn, hs, hnib, hw] at hr
      exact .inr ⟨_, _, k, hr.symm, hx, by omega, hh, by rw [hcg]; exact hhex, by simp, by simp [t3]⟩
    | true =>
      rw [hhex] at hnib
      have hh' : ∀ i, i < k + 1 → isHex (l.getD i 0) = true := by
        intro i hi
        rcases Nat.lt_succ_iff_lt_or_eq.1 hi with h1 | h1
        · exact hh i h1
        · rw [h1]; exact hhex
      have hx16 := nib_lt hhex
      have hjk : k / 2 ≤ k := Nat.div_le_self _ _
      by_cases hj : k / 2 < l.length / 2
      · have hg := half_get l k (k / 2) hj
        have ha : (half l k).getD (k / 2) 0 < 16 := by
          rw [hg]
          have h0 : ∀ i, i < k → nib (l.getD i 0) < 16 := fun i hi => nib_lt (hh i hi)
          rw [if_neg (by omega)]
          split
          · exact h0 _ (by assumption)
          · omega
        rw [if_pos hj] at hstep
        rw [hstep] at ih
        have hidx := ho.sl.idx (k := .i64) (j := (k / 2 : Nat)) (by omega) (by rw [half_length]; omega)
        simp only [Int.toNat_natCast] at hidx
        have hrd := ho.sl.read (j := k / 2) (by rw [half_length]; exact hj)
        have hsh := shl4_u8 ha
        have hor := or_nib ha hx16
        obtain ⟨h', q1, q2, q3, q4⟩ := ho.store hx (.refl h) (j := k / 2) (by rw [half_length]; exact hj) ((half l k).getD (k / 2) 0 * 16 + nib (l.getD k 0))
        have hj' : ((k / 2 : Nat) : Int) < ((l.length / 2 : Nat) : Int) := by omega
        generalize (half l k).getD (k / 2) 0 = a at *
        generalize nib (l.getD k 0) = x at *
        generalize l.getD k 0 = c at *
        generalize k / 2 = j at *
        generalize l.length / 2 = N at *
        simp only [if_true] at hnib
        rw [runA_loop] at hr
        simp only [Int.natCast_mul, Int.natCast_add, Int.cast_ofNat_Int] at hsh hor q1
        simp (disch := omega) [octet_Unhex_L0, t0, t3, t4, t13, t14, hn, hs, hnib, hq, hlen, hj', hidx, hrd, hsh, hor, q1, wrap_i64] at hr
        exact ih _ _ _ (by omega) q2 q3 hh' hr (by simp [t0]) (by simp [t4]) (by simp [t3]) (by simp [t13]) (by simp)
      · rw [if_neg hj] at hstep
        rw [hstep] at ih
        have hj' : ¬ ((k / 2 : Nat) : Int) < ((l.length / 2 : Nat) : Int) := by omega
        generalize nib (l.getD k 0) = x at *
        generalize l.getD k 0 = c at *
        generalize k / 2 = j at *
        generalize l.length / 2 = N at *
        simp only [if_true] at hnib
        rw [runA_loop] at hr
        simp (disch := omega) [octet_Unhex_L0, t0, t4, t13, t14, hn, hs, hnib, hq, hlen, hj', wrap_i64] at hr
        exact ih _ _ _ (by omega) hx ho hh' hr (by simp [t0]) (by simp [t4]) (by simp [t3]) (by simp [t13]) (by simp)

omit e in
/-- What 'Unhex' tells: the bytes, what is wrong, and where. -/
def unhexS (l : List Nat) : List Nat × Int × Int :=
  match l.findIdx? (fun c => !isHex c) with
  | some i => ([], 3, i)
  | none => if l.length % 2 = 1 then ([], 19, l.length) else (half l l.length, 0, 0)

omit e in
theorem bad_some {l : List Nat} {i : Nat} (hi : i < l.length) (h1 : ∀ j, j < i → isHex (l.getD j 0) = true) (h2 : isHex (l.getD i 0) = false) : l.findIdx? (fun c => !isHex c) = some i := by
  rw [List.findIdx?_eq_some_iff_getElem]
  refine ⟨hi, ?_, fun j hj => ?_⟩
  · rw [List.getD_eq_getElem?_getD, List.getElem?_eq_getElem hi, Option.getD_some] at h2
    simp [h2]
  · have := h1 j hj
    rw [List.getD_eq_getElem?_getD, List.getElem?_eq_getElem (by omega), Option.getD_some] at this
    simp [this]

omit e in
theorem bad_none {l : List Nat} (h1 : ∀ j, j < l.length → isHex (l.getD j 0) = true) : l.findIdx? (fun c => !isHex c) = none := by
  rw [List.findIdx?_eq_none_iff]
  intro x hx
  obtain ⟨j, hj, rfl⟩ := List.getElem_of_mem hx
  have := h1 j hj
  rw [List.getD_eq_getElem?_getD, List.getElem?_eq_getElem hj, Option.getD_some] at this
  simp [this]

omit e in
theorem half_zero (l : List Nat) : half l 0 = List.replicate (l.length / 2) 0 := by
  apply List.ext_getElem
  · simp [half]
  · intro i h1 h2
    simp [half]

omit e in
theorem bytesV_zero (n : Nat) : bytesV (List.replicate n 0) = List.replicate n (.int .u8 0) := by simp [bytesV]

theorem octet_Unhex {h : Heap} {l : List Nat} (h256 : ∀ x ∈ l, x < 256) (hl : l.length ≤ 140737488355328) :
    ∃ h' o, callA E "octet.Unhex" [.string (strOf l)] h = some (.tuple #[o, .agg #[.int .i64 (unhexS l).2.1, .int .i64 (unhexS l).2.2]], h') ∧ Ext h h' ∧ OwnB h h' (unhexS l).1 o := by
  rw [callA_code e.octet_Unhex]
  have hq : (l.length : Int).tdiv 2 = ((l.length / 2 : Nat) : Int) := by rw [Int.tdiv_eq_ediv_of_nonneg (by omega)]; omega
  have hr2 : (l.length : Int).tmod 2 = ((l.length % 2 : Nat) : Int) := by rw [Int.tmod_eq_emod_of_nonneg (by omega)]; omega
  have hm := aMake_one (newBlk h [.int .i64 0, .int .i64 0]) (k := .i64) (k' := .i64) (bytes := 1) (z := .int .u8 0) (l := ((l.length / 2 : Nat) : Int)) (by omega) (by omega)
  have hown : OwnB (newBlk h [.int .i64 0, .int .i64 0]) (newBlk (newBlk h [.int .i64 0, .int .i64 0]) (List.replicate (l.length / 2) (.int .u8 0))) (half l 0) (.slice (some ⟨(newBlk h [.int .i64 0, .int .i64 0]).length, 0, none⟩) (l.length / 2) 1) := by
    unfold OwnB
    rw [half_zero, bytesV_zero, List.length_replicate]
    exact own_new _ (by simp)
  have hp := newBlk_get h [.int .i64 0, .int .i64 0]
  have hloop := octet_Unhex_loop e (newBlk h [.int .i64 0, .int .i64 0]) h.length hp l h256 hl (.slice (some ⟨(newBlk h [.int .i64 0, .int .i64 0]).length, 0, none⟩) (l.length / 2) 1) l.length 0 (newBlk (newBlk h [.int .i64 0, .int .i64 0]) (List.replicate (l.length / 2) (.int .u8 0)))
  have hqk : l.length / 2 ≤ l.length := Nat.div_le_self _ _
  simp only [Int.toNat_natCast] at hm
  rw [newBlk_len] at hm hloop hown
  unfold octet_Unhex_B
  generalize hN : l.length / 2 = N at *
  simp (disch := omega) [strOf_size, hq, wrap_i64, hm]
  generalize hr : runA E (.loop octet_Unhex_L0) _ _ = r
  rcases hloop _ _ (by omega) (.new _ _) hown (fun i hi => by omega) hr (by simp) (by simp) (by simp) (by simp) (by simp) with ⟨t', h', rfl, q2, q3, q4, q5, q6, q7⟩ | ⟨t', h', i, rfl, q2, q3, q4, q5, q6, q7⟩
  · have hb := bad_none q4
    have hg := q2.get hp
    have hlt : h.length < h'.length := get_lt hg
    by_cases hodd : l.length % 2 = 1
    · have hS : unhexS l = ([], 19, (l.length : Int)) := by simp [unhexS, hb, hodd]
      have hw := write_all (h := h') (i := h.length) (n := 2) (c := #[.int .i64 19, .int .i64 (l.length : Nat)]) hg rfl rfl
      have hrd := read_all (h := h'.set h.length (.mem false [.int .i64 19, .int .i64 (l.length : Nat)])) (i := h.length) (ro := false) (cs := [.int .i64 19, .int .i64 (l.length : Nat)]) (n := 2) (List.getElem?_set_self hlt) rfl
      rw [hS]
      rw [hodd] at hr2
      refine ⟨_, .slice none 0 0, by simp [q5, q6, q7, strOf_size, hr2, hw, hrd]; rfl, ((Ext.new _ _).trans q2).set (Nat.le_refl _) _, .nil⟩
    · have hS : unhexS l = (half l l.length, 0, 0) := by simp [unhexS, hb, hodd]
      have hw := write_all (h := h') (i := h.length) (n := 2) (c := #[.int .i64 0, .int .i64 0]) hg rfl rfl
      have hrd := read_all (h := h'.set h.length (.mem false [.int .i64 0, .int .i64 0])) (i := h.length) (ro := false) (cs := [.int .i64 0, .int .i64 0]) (n := 2) (List.getElem?_set_self hlt) rfl
      have h0 : l.length % 2 = 0 := by omega
      rw [hS]
      rw [h0] at hr2
      refine ⟨_, _, by simp [q5, q6, q7, strOf_size, hr2, hw, hrd]; rfl, ((Ext.new _ _).trans q2).set (Nat.le_refl _) _, Own.old (q3.set (by rw [newBlk_len]; omega) _) (by rw [newBlk_len]; omega)⟩
  · have hb := bad_some q3 q4 q5
    have hS : unhexS l = ([], 3, (i : Int)) := by simp [unhexS, hb]
    have hg := q2.get hp
    have hlt : h.length < h'.length := get_lt hg
    have hrd := read_all (h := h'.set h.length (.mem false [.int .i64 3, .int .i64 (i : Nat)])) (i := h.length) (ro := false) (cs := [.int .i64 3, .int .i64 (i : Nat)]) (n := 2) (List.getElem?_set_self hlt) rfl
    rw [hS]
    exact ⟨_, .slice none 0 0, by simp [q6, q7, hrd]; rfl, ((Ext.new _ _).trans q2).set (Nat.le_refl _) _, .nil⟩
end
end Go.Wb.P01

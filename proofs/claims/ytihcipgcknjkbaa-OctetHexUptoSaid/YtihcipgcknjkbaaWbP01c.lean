/- Chapter 1: numbers put. -/
import Derived.Test.YtihcipgcknjkbaaWbP01b
set_option maxRecDepth 100000
namespace Go.Wb.P01
open Go Go.Wb Go.Wb.Code

/-- A number's lowest bytes put ahead of a place, one after the other. -/
def putL (b : List Nat) (p n : Nat) : Nat → List Nat
  | 0 => b
  | k + 1 => (putL b p n k).set (p - 1 - k) (n / 256 ^ k % 256)

theorem putL_length (b : List Nat) (p n : Nat) : ∀ k, (putL b p n k).length = b.length
  | 0 => rfl
  | k + 1 => by rw [putL, List.length_set, putL_length b p n k]

theorem putL_256 {b : List Nat} (hb : ∀ x ∈ b, x < 256) (p n : Nat) : ∀ k, ∀ x ∈ putL b p n k, x < 256
  | 0 => hb
  | k + 1 => fun x hx => by
    rw [putL] at hx
    rcases List.mem_or_eq_of_mem_set hx with h | h
    · exact putL_256 hb p n k x h
    · omega

/-- What is wrong with a number, a place and a width. -/
def putE (len a w : Int) (n : Nat) : Int := if w < 1 ∨ 8 < w ∨ a < 0 ∨ n / 256 ^ w.toNat ≠ 0 then 1 else spansE len a w

def putB (b : List Nat) (a w : Int) (n : Nat) : List Nat := if putE b.length a w n = 0 then putL b (a + w).toNat n w.toNat else []

section
variable {E : Env} (e : WbC01Env E)
include e

omit e in
theorem octet_Put_loop (h0 : Heap) (b : List Nat) (a w n : Nat) (o : Value) (hlb : b.length ≤ reach) (hw : w ≤ 8) (hl : a + w ≤ b.length) : ∀ (m k : Nat) (h : Heap) (t : T) (r), k + m = w → Ext h0 h → OwnB h0 h (putL b (a + w) n k) o → runA E (.loop octet_Put_L0) t h = r →
    t 11 = o → t 1 = .int .i64 a → t 2 = .int .i64 w → t 3 = .int .u64 n → t 40 = .int .i64 w → t 41 = .int .i64 k → ∃ t' h', r = some (.exit 0, t', h') ∧ Ext h0 h' ∧ OwnB h0 h' (putL b (a + w) n w) o ∧ t' 11 = o
  | 0, k, h, t, r, hk, hx, ho, hr, t11, t1, t2, t3, t40, t41 => by
    have hn : ¬ ((k : Int) < w) := by omega
    rw [runA_loop] at hr
    simp [octet_Put_L0, t40, t41, hn] at hr
    have : k = w := by omega
    subst this
    exact ⟨_, _, hr.symm, hx, ho, by simp [t11]⟩
  | m + 1, k, h, t, r, hk, hx, ho, hr, t11, t1, t2, t3, t40, t41 => by
    unfold reach reachBytes at hlb
    have hn : ((k : Int) < w) := by omega
    have hlen := putL_length b (a + w) n k
    have hidx := ho.sl.idx (k := .i64) (j := (a : Int) + w - 1 - k) (by omega) (by rw [hlen]; omega)
    have e1 : ((a : Int) + w - 1 - k).toNat = a + w - 1 - k := by omega
    rw [e1] at hidx
    obtain ⟨h', q1, q2, q3, _⟩ := ho.store hx (.refl h) (j := a + w - 1 - k) (by rw [hlen]; omega) (n / 256 ^ k % 256)
    have hs := shr_u64 (a := n) (k := 8 * k) (by omega)
    have e2 : 2 ^ (8 * k) = 256 ^ k := by rw [Nat.pow_mul]
    rw [e2] at hs
    have ih := octet_Put_loop h0 b a w n o hlb hw hl m (k + 1) h'
    rw [putL] at ih
    generalize n / 256 ^ k = x at *
    have hw8 : IntKind.u8.wrap (x : Int) = ((x % 256 : Nat) : Int) := by rw [IntKind.wrap_u8]; omega
    simp at hs
    simp at hw8 q1
    rw [runA_loop] at hr
    simp (disch := omega) [octet_Put_L0, t11, t1, t2, t3, t40, t41, hn, hidx, wrap_i64, wrap_u64, hs, hw8, q1] at hr
    exact ih _ _ (by omega) q2 q3 hr (by simp [t11]) (by simp [t1]) (by simp [t2]) (by simp [t3]) (by simp [t40]) (by simp)

omit e in
theorem put_big {n w : Nat} (hn : n < 18446744073709551616) (hw : w = 8) : n / 256 ^ w = 0 := by
  subst hw
  omega

theorem octet_Put {h : Heap} {b : List Nat} {v : Value} (hv : SlB h b v) (hb : b.length ≤ reach) (a w : Int) (n : Nat) (ha : I64 a) (hw : I64 w) (hn : n < 18446744073709551616) :
    ∃ h' o, callA E "octet.Put" [v, .int .i64 a, .int .i64 w, .int .u64 n] h = some (.tuple #[o, .int .i64 (putE b.length a w n)], h') ∧ Ext h h' ∧ OwnB h h' (putB b a w n) o := by
  have hsp := octet_spans e hv hb a w ha hw
  rw [callA_code e.octet_Put]
  by_cases h1 : w < 1 ∨ 8 < w ∨ a < 0
  · have hz : spansE b.length a w = 1 := if_pos h1
    have hz2 : putE b.length a w n = 1 := if_pos (by omega)
    rw [hz] at hsp
    refine ⟨h, .slice none 0 0, by simp [octet_Put_B, hsp, hz2], .refl h, ?_⟩
    rw [putB, hz2, if_neg (by decide)]
    exact .nil
  · obtain ⟨a, rfl⟩ := Int.eq_ofNat_of_zero_le (by omega : 0 ≤ a)
    obtain ⟨w, rfl⟩ := Int.eq_ofNat_of_zero_le (by omega : 0 ≤ w)
    have hs1 : spansE b.length a w ≠ 1 := by
      unfold spansE
      rw [if_neg h1]
      split <;> decide
    have hsh := shr_u64 (a := n) (k := 8 * w) (by omega)
    have e2 : 2 ^ (8 * w) = 256 ^ w := by rw [Nat.pow_mul]
    rw [e2] at hsh
    have hpe : putE b.length a w n = if n / 256 ^ w = 0 then spansE b.length a w else 1 := by
      unfold putE
      rw [Int.toNat_natCast]
      by_cases hq : n / 256 ^ w = 0
      · rw [if_neg (by omega), if_pos hq]
      · rw [if_pos (by omega), if_neg hq]
    have hbig : w = 8 → n / 256 ^ w = 0 := put_big hn
    have hputB : putB b a w n = if putE b.length a w n = 0 then putL b (a + w) n w else [] := by
      unfold putB
      rw [show ((a : Int) + w).toNat = a + w from by omega, Int.toNat_natCast]
    rw [hputB, hpe]
    generalize hq : n / 256 ^ w = q at *
    by_cases hq0 : q = 0
    · subst hq0
      rw [if_pos rfl]
      by_cases hz : spansE b.length a w = 0
      · rw [hz] at hsp
        have hz' : ¬ ((b.length : Int) < a ∨ (b.length : Int) - a < w) := by
          unfold spansE at hz
          rw [if_neg h1] at hz
          split at hz
          · omega
          · assumption
        rw [hz, if_pos rfl]
        have hlb := hb
        unfold reach reachBytes at hlb
        have hlen := hv.len
        have hmake := aMake_one h (k := .i64) (k' := .i64) (bytes := 1) (z := .int .u8 0) (l := b.length) (by omega) (by omega)
        have hcopy := copy_new (h := h) (cells := List.replicate b.length (.int .u8 0)) (n := b.length) (by simp) (hv.mono (.new _ _))
        have hmin : Nat.min b.length b.length = b.length := Nat.min_self _
        have hz0 : (List.replicate b.length (Value.int .u8 0)).drop b.length = [] := by simp
        rw [hmin, hz0, List.append_nil, List.take_length] at hcopy
        simp only [Int.toNat_natCast] at hmake
        have hown : OwnB h (newBlk h (bytesV b)) b (.slice (some ⟨h.length, 0, none⟩) b.length 1) := own_new h (by rw [bytesV_len]; omega)
        have hloop := octet_Put_loop (E := E) h b a w n (.slice (some ⟨h.length, 0, none⟩) b.length 1) hb (by omega) (by omega) w 0 (newBlk h (bytesV b))
        have fin : ∃ h' o, leave [.tmp 8, .tmp 9] (runA E octet_Put_B (argT [v, .int .i64 a, .int .i64 w, .int .u64 n]) h) = some (.tuple #[o, .int .i64 0], h') ∧ Ext h h' ∧ OwnB h h' (putL b (a + w) n w) o := by
          by_cases hw8 : w < 8
          · have hw8' : (w : Int) < 8 := by omega
            have e3 : (8 : Int) * w = ((8 * w : Nat) : Int) := by omega
            simp at hsh
            simp (disch := omega) [octet_Put_B, hsp, hlen, hmake, hcopy, hw8', wrap_u64, hsh]
            generalize hr : runA E (.loop octet_Put_L0) _ _ = r
            obtain ⟨t', h', rfl, q2, q3, q4⟩ := hloop _ _ (by omega) (.new _ _) hown hr (by simp) (by simp) (by simp) (by simp) (by simp) (by simp)
            exact ⟨h', _, by simp [q4], q2, q3⟩
          · have hw8' : ¬ (w : Int) < 8 := by omega
            simp (disch := omega) [octet_Put_B, hsp, hlen, hmake, hcopy, hw8']
            generalize hr : runA E (.loop octet_Put_L0) _ _ = r
            obtain ⟨t', h', rfl, q2, q3, q4⟩ := hloop _ _ (by omega) (.new _ _) hown hr (by simp) (by simp) (by simp) (by simp) (by simp) (by simp)
            exact ⟨h', _, by simp [q4], q2, q3⟩
        exact fin
      · rw [if_neg hz]
        refine ⟨h, .slice none 0 0, ?_, .refl h, .nil⟩
        generalize spansE b.length a w = s at *
        by_cases hw8 : w < 8
        · have hw8' : (w : Int) < 8 := by omega
          simp at hsh
          simp (disch := omega) [octet_Put_B, hsp, hw8', wrap_u64, hsh, hz, hs1]
        · have hw8' : ¬ (w : Int) < 8 := by omega
          simp (disch := omega) [octet_Put_B, hsp, hw8', hz, hs1]
    · rw [if_neg hq0]
      have hw8' : (w : Int) < 8 := by omega
      refine ⟨h, .slice none 0 0, ?_, .refl h, .nil⟩
      generalize spansE b.length a w = s at *
      simp at hsh
      simp (disch := omega) [octet_Put_B, hsp, hw8', wrap_u64, hsh, hq0, hs1]

omit e in
theorem ref01_fits_loop (h : Heap) (w : Nat) (hw : w ≤ 8) : ∀ (m k n : Nat) (t : T) (r), k + m = w → n < 18446744073709551616 → runA E (.loop ref01_fits_L0) t h = r →
    t 0 = .int .u64 n → t 1 = .int .i64 w → t 5 = .int .i64 k → ∃ t', r = some (.exit 0, t', h) ∧ t' 0 = .int .u64 ((n / 256 ^ m : Nat) : Int)
  | 0, k, n, t, r, hk, hn, hr, t0, t1, t5 => by
    have hn : ¬ ((k : Int) < w) := by omega
    rw [runA_loop] at hr
    simp [ref01_fits_L0, t1, t5, hn] at hr
    exact ⟨_, hr.symm, by simp [t0]⟩
  | m + 1, k, n, t, r, hk, hn, hr, t0, t1, t5 => by
    have hn1 : ((k : Int) < w) := by omega
    have e1 : n / 256 / 256 ^ m = n / 256 ^ (m + 1) := by rw [Nat.div_div_eq_div_mul, Nat.pow_succ, Nat.mul_comm]
    rw [← e1]
    rw [runA_loop] at hr
    simp (disch := omega) [ref01_fits_L0, t0, t1, t5, hn1, wrap_i64, wrap_u64] at hr
    exact ref01_fits_loop h w hw m (k + 1) (n / 256) _ _ (by omega) (by omega) hr (by simp) (by simp [t1]) (by simp)

theorem ref01_fits (n w : Nat) (hn : n < 18446744073709551616) (hw : w ≤ 8) (h : Heap) : callA E "ref01.fits" [.int .u64 n, .int .i64 w] h = some (.bool (decide (n / 256 ^ w = 0)), h) := by
  rw [callA_code e.ref01_fits]
  have hloop := ref01_fits_loop (E := E) h w hw w 0 n
  generalize n / 256 ^ w = q at *
  simp [ref01_fits_B]
  generalize hr : runA E (.loop ref01_fits_L0) _ _ = r
  obtain ⟨t', rfl, q0⟩ := hloop _ _ (by omega) hn hr (by simp) (by simp) (by simp)
  simp [q0]

omit e in
theorem ref01_Put_loop (h0 : Heap) (b : List Nat) (a w n : Nat) (o : Value) (hn : n < 18446744073709551616) (hlb : b.length ≤ reach) (hw : w ≤ 8) (hl : a + w ≤ b.length) : ∀ (m k : Nat) (j : Int) (h : Heap) (t : T) (r), k + m = w → j = (w : Int) - 1 - k → Ext h0 h → OwnB h0 h (putL b (a + w) n k) o → runA E (.loop ref01_Put_L0) t h = r →
    t 11 = o → t 1 = .int .i64 a → t 3 = .int .u64 ((n / 256 ^ k : Nat) : Int) → t 12 = .int .i64 j → ∃ t' h', r = some (.exit 0, t', h') ∧ Ext h0 h' ∧ OwnB h0 h' (putL b (a + w) n w) o ∧ t' 11 = o
  | 0, k, j, h, t, r, hk, hj, hx, ho, hr, t11, t1, t3, t12 => by
    have hn : ¬ (0 ≤ j) := by omega
    rw [runA_loop] at hr
    simp [ref01_Put_L0, t12, hn] at hr
    have : k = w := by omega
    subst this
    exact ⟨_, _, hr.symm, hx, ho, by simp [t11]⟩
  | m + 1, k, j, h, t, r, hk, hj, hx, ho, hr, t11, t1, t3, t12 => by
    unfold reach reachBytes at hlb
    have hn1 : 0 ≤ j := by omega
    have hlen := putL_length b (a + w) n k
    have hidx := ho.sl.idx (k := .i64) (j := (a : Int) + j) (by omega) (by rw [hlen]; omega)
    have e1 : ((a : Int) + j).toNat = a + w - 1 - k := by omega
    rw [e1] at hidx
    obtain ⟨h', q1, q2, q3, _⟩ := ho.store hx (.refl h) (j := a + w - 1 - k) (by rw [hlen]; omega) (n / 256 ^ k % 256)
    have e2 : n / 256 ^ (k + 1) = n / 256 ^ k / 256 := by rw [Nat.pow_succ, Nat.div_div_eq_div_mul]
    have ih := ref01_Put_loop h0 b a w n o hn hlb hw hl m (k + 1) (j - 1) h'
    rw [putL, e2] at ih
    have hle : n / 256 ^ k ≤ n := Nat.div_le_self _ _
    generalize n / 256 ^ k = x at *
    have hm : (x : Int).tmod 256 = x % 256 := Int.tmod_eq_emod_of_nonneg (by omega)
    simp at q1
    rw [runA_loop] at hr
    simp (disch := omega) [ref01_Put_L0, t11, t1, t3, t12, hn1, hidx, wrap_i64, wrap_u64, wrap_u8, hm, q1] at hr
    exact ih _ _ (by omega) (by omega) q2 q3 hr (by simp [t11]) (by simp [t1]) (by simp) (by simp)

theorem ref01_Put {h : Heap} {b : List Nat} {v : Value} (hv : SlB h b v) (hb : b.length ≤ reach) (a w : Int) (n : Nat) (ha : I64 a) (hw : I64 w) (hn : n < 18446744073709551616) :
    ∃ h' o, callA E "ref01.Put" [v, .int .i64 a, .int .i64 w, .int .u64 n] h = some (.tuple #[o, .int .i64 (putE b.length a w n)], h') ∧ Ext h h' ∧ OwnB h h' (putB b a w n) o := by
  have hsp := ref01_place e hv hb a w ha hw
  rw [callA_code e.ref01_Put]
  by_cases h1 : w < 1
  · have hz2 : putE b.length a w n = 1 := if_pos (by omega)
    refine ⟨h, .slice none 0 0, by simp [ref01_Put_B, h1, hz2], .refl h, ?_⟩
    rw [putB, hz2, if_neg (by decide)]
    exact .nil
  by_cases h2 : 8 < w
  · have hz2 : putE b.length a w n = 1 := if_pos (by omega)
    refine ⟨h, .slice none 0 0, by simp [ref01_Put_B, h1, h2, hz2], .refl h, ?_⟩
    rw [putB, hz2, if_neg (by decide)]
    exact .nil
  by_cases h3 : a < 0
  · have hz2 : putE b.length a w n = 1 := if_pos (by omega)
    refine ⟨h, .slice none 0 0, by simp [ref01_Put_B, h1, h2, h3, hz2], .refl h, ?_⟩
    rw [putB, hz2, if_neg (by decide)]
    exact .nil
  obtain ⟨a, rfl⟩ := Int.eq_ofNat_of_zero_le (by omega : 0 ≤ a)
  obtain ⟨w, rfl⟩ := Int.eq_ofNat_of_zero_le (by omega : 0 ≤ w)
  have hfits := ref01_fits e n w hn (by omega) h
  have hpe : putE b.length a w n = if n / 256 ^ w = 0 then spansE b.length a w else 1 := by
    unfold putE
    rw [Int.toNat_natCast]
    by_cases hq : n / 256 ^ w = 0
    · rw [if_neg (by omega), if_pos hq]
    · rw [if_pos (by omega), if_neg hq]
  have hputB : putB b a w n = if putE b.length a w n = 0 then putL b (a + w) n w else [] := by
    unfold putB
    rw [show ((a : Int) + w).toNat = a + w from by omega, Int.toNat_natCast]
  rw [hputB, hpe]
  by_cases hq0 : n / 256 ^ w = 0
  · rw [if_pos hq0]
    rw [decide_eq_true hq0] at hfits
    by_cases hz : spansE b.length a w = 0
    · rw [hz] at hsp
      have hz' : ¬ ((b.length : Int) < a ∨ (b.length : Int) - a < w) := by
        unfold spansE at hz
        rw [if_neg (by omega)] at hz
        split at hz
        · omega
        · assumption
      rw [hz, if_pos rfl]
      have hc := hv.cells
      have hlb := hb
      unfold reach reachBytes at hlb
      obtain ⟨g2, o, j1, j2, j3⟩ := ref01_Join e (slBs_one hv) (by simp; omega) (by simp)
      simp at j3
      have j4 : OwnB h g2 b o := Own.old j3 (by rw [newBlk_len]; omega)
      have hloop := ref01_Put_loop (E := E) h b a w n o hn hb (by omega) (by omega) w 0 ((w : Int) - 1) g2
      simp (disch := omega) [ref01_Put_B, h1, h2, h3, hfits, hsp, hc, repCells, j1, wrap_i64]
      generalize hr : runA E (.loop ref01_Put_L0) _ _ = r
      obtain ⟨t', h', rfl, q2, q3, q4⟩ := hloop _ _ (by omega) (by omega) ((Ext.new _ _).trans j2) j4 hr (by simp) (by simp) (by simp) (by simp)
      exact ⟨h', _, by simp [q4], q2, q3⟩
    · rw [if_neg hz]
      refine ⟨h, .slice none 0 0, ?_, .refl h, .nil⟩
      generalize spansE b.length a w = s at *
      simp (disch := omega) [ref01_Put_B, h1, h2, h3, hfits, hsp, hz]
  · rw [if_neg hq0]
    rw [decide_eq_false hq0] at hfits
    refine ⟨h, .slice none 0 0, ?_, .refl h, .nil⟩
    simp (disch := omega) [ref01_Put_B, h1, h2, h3, hfits]
end
end Go.Wb.P01

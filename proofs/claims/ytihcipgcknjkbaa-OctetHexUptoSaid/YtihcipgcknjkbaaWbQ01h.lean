/- Chapter 1: digits and bytes. -/
import Derived.Test.YtihcipgcknjkbaaWbQ01
import Derived.Test.YtihcipgcknjkbaaWbP01f
set_option maxRecDepth 100000
namespace Go.Wb.P01
open Go Go.Wb Go.Wb.Code

theorem hexc_isHex {k : Nat} (hk : k < 16) : isHex (hexc k) = true ∧ nib (hexc k) = k := by
  have h1 : hexc k < 256 := by unfold hexc; split <;> omega
  exact (hexc_eq (hexc k) h1 k hk).1 rfl

theorem hexL_get : ∀ (b : List Nat) (j : Nat), j < b.length → (hexL b).getD (2 * j) 0 = hexc (b.getD j 0 / 16) ∧ (hexL b).getD (2 * j + 1) 0 = hexc (b.getD j 0 % 16)
  | c :: b, 0, _ => ⟨rfl, rfl⟩
  | c :: b, j + 1, hj => by
    have := hexL_get b j (by simpa using hj)
    have e1 : 2 * (j + 1) = 2 * j + 1 + 1 := by omega
    have e2 : hexL (c :: b) = hexc (c / 16) :: hexc (c % 16) :: hexL b := rfl
    rw [e1, e2]
    exact this

theorem hexL_256 (b : List Nat) (h256 : ∀ x ∈ b, x < 256) : ∀ x ∈ hexL b, x < 256 := by
  intro x hx
  obtain ⟨c, hc, hm⟩ := List.mem_flatMap.1 hx
  have := h256 c hc
  have hx' : x = hexc (c / 16) ∨ x = hexc (c % 16) := by simpa using hm
  rcases hx' with h | h <;> subst h <;> unfold hexc <;> split <;> omega

theorem unhex_hex (b : List Nat) (h256 : ∀ x ∈ b, x < 256) : unhexS (hexL b) = (b, 0, 0) := by
  have hlen := hexL_length b
  have hh : ∀ i, i < (hexL b).length → isHex ((hexL b).getD i 0) = true := by
    intro i hi
    have hj : i / 2 < b.length := by omega
    have hg := hexL_get b (i / 2) hj
    have hc := h256 _ (getD_mem hj)
    rcases Nat.mod_two_eq_zero_or_one i with hm | hm
    · have e1 : 2 * (i / 2) = i := by omega
      rw [e1] at hg
      rw [hg.1]
      exact (hexc_isHex (by omega)).1
    · have e1 : 2 * (i / 2) + 1 = i := by omega
      rw [e1] at hg
      rw [hg.2]
      exact (hexc_isHex (by omega)).1
  have hb := bad_none hh
  have hhalf : half (hexL b) (hexL b).length = b := by
    apply List.ext_getElem
    · rw [half_length]; omega
    · intro j h1 h2
      have hg := half_get (hexL b) (hexL b).length j (by rw [half_length] at h1; exact h1)
      rw [List.getD_eq_getElem?_getD, List.getElem?_eq_getElem h1, Option.getD_some, if_pos (by omega)] at hg
      have hx := hexL_get b j h2
      have hc := h256 _ (getD_mem h2)
      rw [hg, hx.1, hx.2, (hexc_isHex (by omega)).2, (hexc_isHex (by omega)).2]
      have : b.getD j 0 = b[j] := by simp [List.getD, h2]
      rw [this]
      omega
  unfold unhexS
  rw [hb]
  simp only
  rw [if_neg (by omega), hhalf]

section
variable {E : Env} (e : WbC01Env E)
include e

theorem law_OctetHex (avs : List Value) (h : Heap) (_ : NoOwn h) (ha : AArgs 1048576 [.sl 1 1 (.int .u8), .str] h avs) : ∃ h', callA E "law01.OctetHex" avs h = some (.bool true, h') := by
  simp only [AArgs] at ha
  obtain ⟨v, _, rfl, a0, v1, _, rfl, a1, rfl⟩ := ha
  obtain ⟨b, hb, h256, _, hlen⟩ := aval_bytes a0
  obtain ⟨s, rfl, _, hsl⟩ := aval_str a1
  obtain ⟨l, rfl, hl256, hll⟩ := str_of s
  rw [← hll] at hsl
  have hv := hb.sl
  obtain ⟨h1, q1, x1⟩ := octet_Hex e hv h256 (by omega)
  obtain ⟨h2, q2, x2⟩ := ref01_Hex e (hv.mono x1) h256 (by omega)
  obtain ⟨h3, u, q3, x3, o3⟩ := octet_Unhex e (h := h2) hl256 (by omega)
  have w3 := Ext.new h3 [.int .i64 (unhexS l).2.1, .int .i64 (unhexS l).2.2]
  obtain ⟨h4, u', q4, x4, o4⟩ := ref01_Unhex e (h := newBlk h3 [.int .i64 (unhexS l).2.1, .int .i64 (unhexS l).2.2]) hl256 (by omega)
  have w4 := Ext.new h4 [.int .i64 (unhexS l).2.1, .int .i64 (unhexS l).2.2]
  have hv4 := ((((hv.mono x1).mono x2).mono x3).mono w3).mono (x4.trans w4)
  obtain ⟨h5, q5, x5⟩ := octet_Hex e hv4 h256 (by omega)
  obtain ⟨h6, z, q6, x6, o6⟩ := octet_Unhex e (h := h5) (hexL_256 b h256) (by rw [hexL_length]; omega)
  rw [unhex_hex b h256] at q6 o6
  have w6 := Ext.new h6 [.int .i64 0, .int .i64 0]
  have hlu : (unhexS l).1.length ≤ 140737488355328 := by
    unfold unhexS
    split
    · simp
    · split
      · simp
      · simp only [half_length]; omega
  have X46 := ((w4.trans x5).trans x6).trans w6
  have X36 := (w3.trans x4).trans X46
  have q7 := ref01_SameBytes e (o3.sl.mono X36) (o4.sl.mono X46) hlu
  have q8 := ref01_SameBytes e (o6.sl.mono w6) (hv4.mono ((x5.trans x6).trans w6)) (by show b.length ≤ 140737488355328; omega)
  have hlive := live e (newBlk h6 [.int .i64 0, .int .i64 0])
  have r3 := read_ext_all (n := 2) (x4.trans X46) rfl
  have r4 := read_ext_all (n := 2) ((x5.trans x6).trans w6) rfl
  have e3 := write_new_all (h := h3) (n := 2) (cs := [.int .i64 0, .int .i64 0]) (c := #[.int .i64 (unhexS l).2.1, .int .i64 (unhexS l).2.2]) rfl rfl
  have e4 := write_new_all (h := h4) (n := 2) (cs := [.int .i64 0, .int .i64 0]) (c := #[.int .i64 (unhexS l).2.1, .int .i64 (unhexS l).2.2]) rfl rfl
  have e6 := write_new_all (h := h6) (n := 2) (cs := [.int .i64 0, .int .i64 0]) (c := #[.int .i64 0, .int .i64 0]) rfl rfl
  rw [callA_code e.law01_OctetHex]
  generalize (unhexS l).2.1 = y1 at *
  generalize (unhexS l).2.2 = y2 at *
  exact ⟨_, by simp [law01_OctetHex_B, aStr, q1, q2, q3, e3, q4, e4, q5, q6, e6, hlive, q7, q8, r3, r4, aEq, eqCells, eqCell]; rfl⟩
end
end Go.Wb.P01

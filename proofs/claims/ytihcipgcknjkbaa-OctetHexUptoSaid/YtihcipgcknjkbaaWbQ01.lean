/- Chapter 1: the laws over what its functions come to. -/
import Derived.Test.YtihcipgcknjkbaaWbP01c
set_option maxRecDepth 100000
namespace Go.Wb.P01
open Go Go.Wb Go.Wb.Code
section
variable {E : Env} (e : WbC01Env E)
include e

theorem live (h : Heap) : callA E "law01.live" [] h = some (.bool true, h) := by
  rw [callA_prim e.law01_live]; rfl

theorem law_OctetBits (B : Nat) (avs : List Value) (h : Heap) (_ : NoOwn h) (ha : AArgs B [.arr 2 (.int .u64), .int .i64, .int .i64] h avs) : ∃ h', callA E "law01.OctetBits" avs h = some (.bool true, h') := by
  simp only [AArgs] at ha
  obtain ⟨v0, _, rfl, a0, v1, _, rfl, a1, v2, _, rfl, a2, rfl⟩ := ha
  obtain ⟨l, hl, rfl, hw⟩ := aval_arr a0
  obtain ⟨f, rfl, hf⟩ := aval_int a1
  obtain ⟨c, rfl, hc⟩ := aval_int a2
  have hf := wf_i64 hf
  have hc := wf_i64 hc
  match l, hl with
  | [n, x], _ =>
  obtain ⟨n, rfl, hn⟩ := (wf_u64 (hw n (by simp))).nat
  obtain ⟨x, rfl, hx⟩ := (wf_u64 (hw x (by simp))).nat
  have hlive := live e
  rw [callA_code e.law01_OctetBits]
  by_cases hin : 0 ≤ f ∧ f < 64 ∧ 0 ≤ c ∧ c ≤ 64 - f
  · obtain ⟨f, rfl⟩ := Int.eq_ofNat_of_zero_le hin.1
    obtain ⟨c, rfl⟩ := Int.eq_ofNat_of_zero_le hin.2.2.1
    have q1 := octet_Bits e n f c hn (by omega) (by omega)
    have q2 := ref01_Bits e n f c hn (by omega) (by omega)
    have q3 := octet_SetBits e n f c x hn hx (by omega) (by omega)
    have q4 := ref01_SetBits e n f c x hn hx (by omega) (by omega)
    generalize n / 2 ^ f % 2 ^ c = B at *
    generalize setB n f c x = S at *
    simp [law01_OctetBits_B, hlive, q1, q2, q3, q4]
  · have q1 := octet_Bits_no e n f c hf hc hin
    have q2 := ref01_Bits_no e n f c hf hin
    have q3 := octet_SetBits_no e n f c x hf hc hin
    have q4 := ref01_SetBits_no e n f c x hf hin
    simp [law01_OctetBits_B, hlive, q1, q2, q3, q4]

theorem law_OctetGets (B : Nat) (avs : List Value) (h : Heap) (_ : NoOwn h) (ha : AArgs B [.sl 1 1 (.int .u8), .int .i64, .int .i64] h avs) : ∃ h', callA E "law01.OctetGets" avs h = some (.bool true, h') := by
  simp only [AArgs] at ha
  obtain ⟨v, _, rfl, a0, v1, _, rfl, a1, v2, _, rfl, a2, rfl⟩ := ha
  obtain ⟨b, hb, h256, hlen, _⟩ := aval_bytes a0
  obtain ⟨a, rfl, ha⟩ := aval_int a1
  obtain ⟨w, rfl, hw⟩ := aval_int a2
  have ha := wf_i64 ha
  have hw := wf_i64 hw
  have hv := hb.sl
  have q1 := octet_Get e hv hlen h256 a w ha hw
  have q2 := ref01_Get e hv hlen h256 a w ha hw
  obtain ⟨h1, c, q3, x1, o1⟩ := octet_Cut e hv hlen a w ha hw
  obtain ⟨h2, d, q4, x2, o2⟩ := ref01_Cut e (hv.mono x1) hlen a w ha hw
  have hl : (cutB b a w).length ≤ 140737488355328 := by
    unfold reach reachBytes at hlen
    unfold cutB
    split
    · rw [List.length_take, List.length_drop]; omega
    · simp
  have q5 := ref01_SameBytes e (o1.sl.mono x2) o2.sl hl
  have hlive := live e h2
  rw [callA_code e.law01_OctetGets]
  exact ⟨h2, by simp [law01_OctetGets_B, q1, q2, q3, q4, q5, hlive]⟩

theorem law_OctetPuts (B : Nat) (avs : List Value) (h : Heap) (_ : NoOwn h) (ha : AArgs B [.sl 1 1 (.int .u8), .arr 2 (.int .i64), .int .u64] h avs) : ∃ h', callA E "law01.OctetPuts" avs h = some (.bool true, h') := by
  simp only [AArgs] at ha
  obtain ⟨v, _, rfl, a0, v1, _, rfl, a1, v2, _, rfl, a2, rfl⟩ := ha
  obtain ⟨b, hb, h256, hlen, _⟩ := aval_bytes a0
  obtain ⟨l, hl, rfl, hw⟩ := aval_arr a1
  obtain ⟨n, rfl, hn0⟩ := aval_int a2
  match l, hl with
  | [a, w], _ =>
  have ha := wf_i64 (hw a (by simp))
  have hw := wf_i64 (hw w (by simp))
  obtain ⟨n, rfl, hn⟩ := (wf_u64 hn0).nat
  have hlb := hlen
  unfold reach reachBytes at hlb
  have hv : SlB (newBlk h [.int .i64 a, .int .i64 w]) b v := hb.sl.mono (.new _ _)
  have hc := hv.cells
  obtain ⟨h1, o, q1, x1, o1⟩ := ref01_Join e (slBs_one hv) (by simp; omega) (by simp)
  have x1 := (Ext.new _ _).trans x1
  simp at o1 q1
  obtain ⟨h2, c, q2, x2, o2⟩ := octet_Put e (hv.mono x1) hlen a w n ha hw hn
  obtain ⟨h3, d, q3, x3, o3⟩ := ref01_Put e ((hv.mono x1).mono x2) hlen a w n ha hw hn
  have hl : (putB b a w n).length ≤ 140737488355328 := by
    unfold putB
    split
    · rw [putL_length]; omega
    · simp
  have q4 := ref01_SameBytes e (o2.sl.mono x3) o3.sl hl
  have q5 := ref01_SameBytes e (((hv.mono x1).mono x2).mono x3) ((o1.sl.mono x2).mono x3) (by omega)
  have hlive := live e h3
  rw [callA_code e.law01_OctetPuts]
  exact ⟨h3, by simp [law01_OctetPuts_B, hc, repCells, q1, q2, q3, q4, q5, hlive]⟩
end
end Go.Wb.P01

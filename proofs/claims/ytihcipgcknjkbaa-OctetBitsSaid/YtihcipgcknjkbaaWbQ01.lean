/- Chapter 1: the laws over what its functions come to. -/
import Derived.Test.YtihcipgcknjkbaaWbP01
import Derived.Test.YtihcipgcknjkbaaWbVals
set_option maxRecDepth 100000
namespace Go.Wb.P01
open Go Go.Wb Go.Wb.Code
section
variable {E : Env} (e : WbC01Env E)
include e

theorem live (h : Heap) : callA E "law01.live" [] h = some (.bool true, h) := by
  rw [callA_prim e.law01_live]; rfl

theorem law_OctetBits (avs : List Value) (h : Heap) (_ : NoOwn h) (ha : AArgs [.arr 2 (.int .u64), .int .i64, .int .i64] h avs) : ∃ h', callA E "law01.OctetBits" avs h = some (.bool true, h') := by
  simp only [AArgs] at ha
  obtain ⟨v0, _, rfl, a0, v1, _, rfl, a1, v2, _, rfl, a2, rfl⟩ := ha
  obtain ⟨l, hl, rfl, hw⟩ := aval_arr a0
  obtain ⟨f, rfl, hf⟩ := aval_int a1
  obtain ⟨c, rfl, hc⟩ := aval_int a2
  have hf := wf_i64 hf
  have hc := wf_i64 hc
  match l, hl with
  | [n, x], _ =>
  obtain ⟨n, rfl, hn⟩ := (wf_u64 (hw n (by simp))).nat
  obtain ⟨x, rfl, hx⟩ := (wf_u64 (hw x (by simp))).nat
  have hlive := live e
  rw [callA_code e.law01_OctetBits]
  by_cases hin : 0 ≤ f ∧ f < 64 ∧ 0 ≤ c ∧ c ≤ 64 - f
  · obtain ⟨f, rfl⟩ := Int.eq_ofNat_of_zero_le hin.1
    obtain ⟨c, rfl⟩ := Int.eq_ofNat_of_zero_le hin.2.2.1
    have q1 := octet_Bits e n f c hn (by omega) (by omega)
    have q2 := ref01_Bits e n f c hn (by omega) (by omega)
    have q3 := octet_SetBits e n f c x hn hx (by omega) (by omega)
    have q4 := ref01_SetBits e n f c x hn hx (by omega) (by omega)
    generalize n / 2 ^ f % 2 ^ c = B at *
    generalize setB n f c x = S at *
    simp [law01_OctetBits_B, readV, read1, newBlk, valCells, isTuple, hlive, q1, q2, q3, q4]
  · have q1 := octet_Bits_no e n f c hf hc hin
    have q2 := ref01_Bits_no e n f c hf hin
    have q3 := octet_SetBits_no e n f c x hf hc hin
    have q4 := ref01_SetBits_no e n f c x hf hin
    simp [law01_OctetBits_B, readV, read1, newBlk, valCells, isTuple, hlive, q1, q2, q3, q4]
end
end Go.Wb.P01

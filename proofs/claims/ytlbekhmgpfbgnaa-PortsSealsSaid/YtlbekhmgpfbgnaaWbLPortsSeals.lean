/- The law PortsSeals returns true for every input that can be read, and leaves all that it was handed as it was. Conditions: none but the given row's own. -/
import Derived.Test.YtlbekhmgpfbgnaaWbvSeat13
import Derived.Test.YtlbekhmgpfbgnaaWbvP13h
set_option maxRecDepth 100000
namespace Go.Proofs.Ytlbekhmgpfbgnaa.WbPortsSeals
open Go Go.Wb Go.Wb.Code Go.Proofs.Ytlbekhmgpfbgnaa.Wb

theorem specs {H : Type} (ds : List (DataW H)) (h : ds.length = Try.f6.params.toList.length) : Rows.portsSealsSpec.fn H ds = { results := [.lit (.bool true)], args := ds } := by
  match ds, h with
  | [d0, d1], _ => rfl

theorem lifted (os : Os) (started : os.Started) (H : Type) (enc : TypeId × Value → H) :
    ReturnsInHanded {} Try.checked os 6 .any (Rows.portsSealsSpec.pre6 enc Try.prog Try.f6 Rows.portsSealsRow.domain false) (Rows.portsSealsSpec.post enc Try.prog Try.f6 false true false false) := by
  refine returnsInHanded_of_change_sized (C := Try.checked) own started (by kernel_rfl) Try.func6
    (ChangeSpec.witness6 (enc := enc) (C := Try.checked) false ⟨#[], #[.agg #[.int .i64 0, .int .u8 0, .int .u8 0, .int .u8 0, .int .u8 0, .int .u8 0, .int .u8 0, .int .u8 0, .int .u8 0, .int .u8 0, .int .u8 0, .int .u8 0, .int .u8 0, .int .u8 0, .int .u8 0, .int .u8 0, .int .u8 0, .int .u8 0, .int .u8 0, .int .u8 0, .int .u8 0, .int .u8 0, .int .u8 0, .int .u8 0, .int .u8 0, .int .u8 0, .int .u8 0, .int .u8 0, .int .u8 0, .int .u8 0, .int .u8 0, .int .u8 0, .int .u8 0, .int .i64 0, .int .i64 0, .bool false, .int .i64 0, .int .i64 0], .slice none 0 0], []⟩ 8 (by kernel_rfl) (by kernel_rfl) (by kernel_rfl) (by kernel_rfl)) ?_
  intro W base args ds gs before hval hW hcnd hsz _
  exact law_contract (name := "law13.PortsSeals") calls1 laidOut (by rfl) (tys := [(.st [(.int .i64), (.arr 16 (.int .u8)), (.arr 16 (.int .u8)), (.int .i64), (.int .i64), .bool, (.int .i64), (.int .i64)]), (.sl 1 1 (.int .u8))]) (tb := Try.f6.resultTypes.getD 0 0) (by kernel_rfl) (by kernel_rfl) (by kernel_rfl) (by kernel_rfl) rfl
    (fun ds h => specs ds h) (bulkWs (ds ++ gs)) (fun avs h hno ha => (fun B => lawV (B := B) sim (by decide) (P13.law_PortsSeals env_WbvC13b env_WbvC13 env_WbvC01 env_WbvC03 env_WbvC03f B)) _ avs h hno ha) hval hW hsz (Nat.le_refl _)

theorem over : Rows.portsSealsRow.holds Try.pinned (OpenSpec.ofChange Rows.portsSealsSpec) :=
  OpenClaim.holds_of_wide 6 Try.f6 rfl rfl rfl rfl rfl rfl rfl ⟨rfl, rfl, rfl, rfl, rfl⟩ rfl rfl rfl rfl rfl (by kernel_rfl) Try.func6 (by kernel_rfl) (of_decide_eq_true (by kernel_rfl))
    (by unfold Func.isWrapper; first | (rw [if_pos (by decide +kernel)]; kernel_rfl) | (rw [if_neg (by decide +kernel)]; exact ⟨rfl, rfl⟩))
    (fun os started H enc _ => lifted os started H enc)

end Go.Proofs.Ytlbekhmgpfbgnaa.WbPortsSeals

namespace Go.Proofs.Ytlbekhmgpfbgnaa
/-- The law PortsSeals. -/
theorem portsSeals_holds : Rows.PortsSealsSaid := WbPortsSeals.over
end Go.Proofs.Ytlbekhmgpfbgnaa

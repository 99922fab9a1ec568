/- The law PointBytes returns true for every input that can be read, and leaves all that it was handed as it was. Conditions: none but the given row's own. -/
import Derived.Test.YtlbekhmgpfbgnaaWbvSeat09
import Derived.Test.YtlbekhmgpfbgnaaWbvP09g
set_option maxRecDepth 100000
namespace Go.Proofs.Ytlbekhmgpfbgnaa.WbPointBytes
open Go Go.Wb Go.Wb.Code Go.Proofs.Ytlbekhmgpfbgnaa.Wb

theorem specs {H : Type} (ds : List (DataW H)) (h : ds.length = Try.f7.params.toList.length) : Rows.pointBytesSpec.fn H ds = { results := [.lit (.bool true)], args := ds } := by
  match ds, h with
  | [d0, d1, d2], _ => rfl

theorem lifted (os : Os) (started : os.Started) (H : Type) (enc : TypeId × Value → H) :
    ReturnsInHanded {} Try.checked os 7 .any (Rows.pointBytesSpec.pre6 enc Try.prog Try.f7 Rows.pointBytesRow.domain false) (Rows.pointBytesSpec.post enc Try.prog Try.f7 false true false false) := by
  refine returnsInHanded_of_change_sized (C := Try.checked) own started (by kernel_rfl) Try.func7
    (ChangeSpec.witness6 (enc := enc) (C := Try.checked) false ⟨#[], #[.int .u8 0, .agg #[.int .i64 0, .int .i64 0], .agg #[.int .i64 0, .int .i64 0]], []⟩ 8 (by kernel_rfl) (by kernel_rfl) (by kernel_rfl) (by kernel_rfl)) ?_
  intro W base args ds gs before hval hW hcnd hsz _
  exact law_contract (name := "law09.PointBytes") calls1 laidOut (by rfl) (tys := [(.int .u8), (.arr 2 (.int .i64)), (.arr 2 (.int .i64))]) (tb := Try.f7.resultTypes.getD 0 0) (by kernel_rfl) (by kernel_rfl) (by kernel_rfl) (by kernel_rfl) rfl
    (fun ds h => specs ds h) (bulkWs (ds ++ gs)) (fun avs h hno ha => (fun B => lawV (B := B) sim (by decide) (P09.law_PointBytes env_WbvC09 env_WbvC02 B)) _ avs h hno ha) hval hW hsz (Nat.le_refl _)

theorem over : Rows.pointBytesRow.holds Try.pinned (OpenSpec.ofChange Rows.pointBytesSpec) :=
  OpenClaim.holds_of_wide 7 Try.f7 rfl rfl rfl rfl rfl rfl rfl ⟨rfl, rfl, rfl, rfl, rfl⟩ rfl rfl rfl rfl rfl (by kernel_rfl) Try.func7 (by kernel_rfl) (of_decide_eq_true (by kernel_rfl))
    (by unfold Func.isWrapper; first | (rw [if_pos (by decide +kernel)]; kernel_rfl) | (rw [if_neg (by decide +kernel)]; exact ⟨rfl, rfl⟩))
    (fun os started H enc _ => lifted os started H enc)

end Go.Proofs.Ytlbekhmgpfbgnaa.WbPointBytes

namespace Go.Proofs.Ytlbekhmgpfbgnaa
/-- The law PointBytes. -/
theorem pointBytes_holds : Rows.PointBytesSaid := WbPointBytes.over
end Go.Proofs.Ytlbekhmgpfbgnaa

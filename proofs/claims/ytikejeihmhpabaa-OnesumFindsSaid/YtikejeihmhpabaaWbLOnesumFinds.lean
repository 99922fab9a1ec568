/- The law OnesumFinds returns true for every input that can be read, and leaves all that it was handed as it was. Conditions: none but the given row's own. -/
import Derived.Test.YtikejeihmhpabaaWbvSeat03
import Derived.Test.YtikejeihmhpabaaWbvP03b
set_option maxRecDepth 100000
namespace Go.Proofs.Ytikejeihmhpabaa.WbOnesumFinds
open Go Go.Wb Go.Wb.Code Go.Proofs.Ytikejeihmhpabaa.Wb

theorem specs {H : Type} (ds : List (DataW H)) (h : ds.length = Try.f6.params.toList.length) : Rows.onesumFindsSpec.fn H ds = { results := [.lit (.bool true)], args := ds } := by
  match ds, h with
  | [d0, d1, d2], _ => rfl

theorem lifted (os : Os) (started : os.Started) (H : Type) (enc : TypeId × Value → H) :
    ReturnsInHanded {} Try.checked os 6 .any (Rows.onesumFindsSpec.pre6 enc Try.prog Try.f6 Rows.onesumFindsRow.domain false) (Rows.onesumFindsSpec.post enc Try.prog Try.f6 false true false false) := by
  refine returnsInHanded_of_change_sized (C := Try.checked) own started (by kernel_rfl) Try.func6
    (ChangeSpec.witness6 (enc := enc) (C := Try.checked) false ⟨#[], #[.slice none 0 0, .agg #[.int .u8 0, .int .u8 0], .agg #[.int .u16 0, .int .u16 0]], []⟩ 8 (by kernel_rfl) (by kernel_rfl) (by kernel_rfl) (by kernel_rfl)) ?_
  intro W base args ds gs before hval hW hcnd hsz _
  exact law_contract (name := "law03.OnesumFinds") calls1 laidOut (by rfl) (tys := [(.sl 1 1 (.int .u8)), (.arr 2 (.int .u8)), (.arr 2 (.int .u16))]) (tb := Try.f6.resultTypes.getD 0 0) (by kernel_rfl) (by kernel_rfl) (by kernel_rfl) (by kernel_rfl) rfl
    (fun ds h => specs ds h) (bulkWs (ds ++ gs)) (fun avs h hno ha => (fun B => lawV (B := B) sim (by decide) (P03.law_OnesumFinds env_WbvC03 env_WbvC03f env_WbvC01 B)) _ avs h hno ha) hval hW hsz (Nat.le_refl _)

theorem over : Rows.onesumFindsRow.holds Try.pinned (OpenSpec.ofChange Rows.onesumFindsSpec) :=
  OpenClaim.holds_of_wide 6 Try.f6 rfl rfl rfl rfl rfl rfl rfl ⟨rfl, rfl, rfl, rfl, rfl⟩ rfl rfl rfl rfl rfl (by kernel_rfl) Try.func6 (by kernel_rfl) (of_decide_eq_true (by kernel_rfl))
    (by unfold Func.isWrapper; first | (rw [if_pos (by decide +kernel)]; kernel_rfl) | (rw [if_neg (by decide +kernel)]; exact ⟨rfl, rfl⟩))
    (fun os started H enc _ => lifted os started H enc)

end Go.Proofs.Ytikejeihmhpabaa.WbOnesumFinds

namespace Go.Proofs.Ytikejeihmhpabaa
/-- The law OnesumFinds. -/
theorem onesumFinds_holds : Rows.OnesumFindsSaid := WbOnesumFinds.over
end Go.Proofs.Ytikejeihmhpabaa

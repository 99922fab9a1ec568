/- The law OnesumSums returns true for every input that can be read, and leaves all that it was handed as it was. Conditions: none but the given row's own. -/
import Derived.Test.YtikejeihmhpabaaWbvSeat03
import Derived.Test.YtikejeihmhpabaaWbvP03b
set_option maxRecDepth 100000
namespace Go.Proofs.Ytikejeihmhpabaa.WbOnesumSums
open Go Go.Wb Go.Wb.Code Go.Proofs.Ytikejeihmhpabaa.Wb

theorem specs {H : Type} (ds : List (DataW H)) (h : ds.length = Try.f3.params.toList.length) : Rows.onesumSumsSpec.fn H ds = { results := [.lit (.bool true)], args := ds } := by
  match ds, h with
  | [d0, d1], _ => rfl

theorem lifted (os : Os) (started : os.Started) (H : Type) (enc : TypeId × Value → H) :
    ReturnsInHanded {} Try.checked os 3 .any (Rows.onesumSumsSpec.pre6 enc Try.prog Try.f3 Rows.onesumSumsRow.domain false) (Rows.onesumSumsSpec.post enc Try.prog Try.f3 false true false false) := by
  refine returnsInHanded_of_change_sized (C := Try.checked) own started (by kernel_rfl) Try.func3
    (ChangeSpec.witness6 (enc := enc) (C := Try.checked) false ⟨#[], #[.slice none 0 0, .agg #[.int .u16 0, .int .u16 0]], []⟩ 8 (by kernel_rfl) (by kernel_rfl) (by kernel_rfl) (by kernel_rfl)) ?_
  intro W base args ds gs before hval hW hcnd hsz _
  exact law_contract (name := "law03.OnesumSums") calls1 laidOut (by rfl) (tys := [(.sl 1 1 (.int .u8)), (.arr 2 (.int .u16))]) (tb := Try.f3.resultTypes.getD 0 0) (by kernel_rfl) (by kernel_rfl) (by kernel_rfl) (by kernel_rfl) rfl
    (fun ds h => specs ds h) (bulkWs (ds ++ gs)) (fun avs h hno ha => (fun B => lawV (B := B) sim (by decide) (P03.law_OnesumSums env_WbvC03 env_WbvC03f env_WbvC01 B)) _ avs h hno ha) hval hW hsz (Nat.le_refl _)

theorem over : Rows.onesumSumsRow.holds Try.pinned (OpenSpec.ofChange Rows.onesumSumsSpec) :=
  OpenClaim.holds_of_wide 3 Try.f3 rfl rfl rfl rfl rfl rfl rfl ⟨rfl, rfl, rfl, rfl, rfl⟩ rfl rfl rfl rfl rfl (by kernel_rfl) Try.func3 (by kernel_rfl) (of_decide_eq_true (by kernel_rfl))
    (by unfold Func.isWrapper; first | (rw [if_pos (by decide +kernel)]; kernel_rfl) | (rw [if_neg (by decide +kernel)]; exact ⟨rfl, rfl⟩))
    (fun os started H enc _ => lifted os started H enc)

end Go.Proofs.Ytikejeihmhpabaa.WbOnesumSums

namespace Go.Proofs.Ytikejeihmhpabaa
/-- The law OnesumSums. -/
theorem onesumSums_holds : Rows.OnesumSumsSaid := WbOnesumSums.over
end Go.Proofs.Ytikejeihmhpabaa

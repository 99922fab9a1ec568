/- The law OctetBack returns true for every input that can be read, and leaves all that it was handed as it was. Conditions: none but the given row's own. -/
import Derived.Test.YtihcipgcknjkbaaWbSeat01
import Derived.Test.YtihcipgcknjkbaaWbQ01d
set_option maxRecDepth 100000
namespace Go.Proofs.Ytihcipgcknjkbaa.WbOctetBack
open Go Go.Wb Go.Wb.Code Go.Proofs.Ytihcipgcknjkbaa.Wb

theorem specs {H : Type} (ds : List (DataW H)) (h : ds.length = Try.f8.params.toList.length) : Rows.octetBackSpec.fn H ds = { results := [.lit (.bool true)], args := ds } := by
  match ds, h with
  | [d0, d1, d2], _ => rfl

theorem lifted (os : Os) (started : os.Started) (H : Type) (enc : TypeId × Value → H) :
    ReturnsInHanded {} Try.checked os 8 .any (Rows.octetBackSpec.pre6 enc Try.prog Try.f8 Rows.octetBackRow.domain false) (Rows.octetBackSpec.post enc Try.prog Try.f8 false true false false) := by
  refine returnsInHanded_of_change_sized (C := Try.checked) own started (by kernel_rfl) Try.func8
    (ChangeSpec.witness6 (enc := enc) (C := Try.checked) false ⟨#[], #[.slice none 0 0, .int .u64 0, .agg #[.int .u8 0, .int .u8 0, .int .u8 0, .int .u8 0]], []⟩ 8 (by kernel_rfl) (by kernel_rfl) (by kernel_rfl) (by kernel_rfl)) ?_
  intro W base args ds gs before hval hW hcnd hsz _
  exact law_contract (name := "law01.OctetBack") calls1 laidOut (by rfl) (tys := [(.sl 1 1 (.int .u8)), (.int .u64), (.arr 4 (.int .u8))]) (tb := Try.f8.resultTypes.getD 0 0) (by kernel_rfl) (by kernel_rfl) (by kernel_rfl) (by kernel_rfl) rfl
    (fun ds h => specs ds h) (bulkWs (ds ++ gs)) (fun avs h hno ha => P01.law_OctetBack env_WbC01 _ avs h hno ha) hval hW hsz (Nat.le_refl _)

theorem over : Rows.octetBackRow.holds Try.pinned (OpenSpec.ofChange Rows.octetBackSpec) :=
  OpenClaim.holds_of_wide 8 Try.f8 rfl rfl rfl rfl rfl rfl rfl ⟨rfl, rfl, rfl, rfl, rfl⟩ rfl rfl rfl rfl rfl (by kernel_rfl) Try.func8 (by kernel_rfl) (of_decide_eq_true (by kernel_rfl))
    (by unfold Func.isWrapper; first | (rw [if_pos (by decide +kernel)]; kernel_rfl) | (rw [if_neg (by decide +kernel)]; exact ⟨rfl, rfl⟩))
    (fun os started H enc _ => lifted os started H enc)

end Go.Proofs.Ytihcipgcknjkbaa.WbOctetBack

namespace Go.Proofs.Ytihcipgcknjkbaa
/-- The law OctetBack. -/
theorem octetBack_holds : Rows.OctetBackSaid := WbOctetBack.over
end Go.Proofs.Ytihcipgcknjkbaa

/- The law WideBack returns true for every input that can be read, and leaves all that it was handed as it was. Conditions: none but the given row's own. -/
import Derived.Test.YtikejeihmhpabaaWbvSeat02
import Derived.Test.YtikejeihmhpabaaWbvP02i
set_option maxRecDepth 100000
namespace Go.Proofs.Ytikejeihmhpabaa.WbWideBack
open Go Go.Wb Go.Wb.Code Go.Proofs.Ytikejeihmhpabaa.Wb

theorem specs {H : Type} (ds : List (DataW H)) (h : ds.length = Try.f14.params.toList.length) : Rows.wideBackSpec.fn H ds = { results := [.lit (.bool true)], args := ds } := by
  match ds, h with
  | [d0, d1, d2], _ => rfl

theorem lifted (os : Os) (started : os.Started) (H : Type) (enc : TypeId × Value → H) :
    ReturnsInHanded {} Try.checked os 14 .any (Rows.wideBackSpec.pre6 enc Try.prog Try.f14 Rows.wideBackRow.domain false) (Rows.wideBackSpec.post enc Try.prog Try.f14 false true false false) := by
  refine returnsInHanded_of_change_sized (C := Try.checked) own started (by kernel_rfl) Try.func14
    (ChangeSpec.witness6 (enc := enc) (C := Try.checked) false ⟨#[], #[.agg #[.int .u64 0, .int .u64 0], .agg #[.int .u64 0, .int .u64 0], .int .u64 0], []⟩ 8 (by kernel_rfl) (by kernel_rfl) (by kernel_rfl) (by kernel_rfl)) ?_
  intro W base args ds gs before hval hW hcnd hsz _
  exact law_contract (name := "law02.WideBack") calls1 laidOut (by rfl) (tys := [(.st [(.int .u64), (.int .u64)]), (.st [(.int .u64), (.int .u64)]), (.int .u64)]) (tb := Try.f14.resultTypes.getD 0 0) (by kernel_rfl) (by kernel_rfl) (by kernel_rfl) (by kernel_rfl) rfl
    (fun ds h => specs ds h) (bulkWs (ds ++ gs)) (fun avs h hno ha => (fun B => lawV (B := B) sim (by decide) (P02.law_WideBack env_WbvC02 B)) _ avs h hno ha) hval hW hsz (Nat.le_refl _)

theorem over : Rows.wideBackRow.holds Try.pinned (OpenSpec.ofChange Rows.wideBackSpec) :=
  OpenClaim.holds_of_wide 14 Try.f14 rfl rfl rfl rfl rfl rfl rfl ⟨rfl, rfl, rfl, rfl, rfl⟩ rfl rfl rfl rfl rfl (by kernel_rfl) Try.func14 (by kernel_rfl) (of_decide_eq_true (by kernel_rfl))
    (by unfold Func.isWrapper; first | (rw [if_pos (by decide +kernel)]; kernel_rfl) | (rw [if_neg (by decide +kernel)]; exact ⟨rfl, rfl⟩))
    (fun os started H enc _ => lifted os started H enc)

end Go.Proofs.Ytikejeihmhpabaa.WbWideBack

namespace Go.Proofs.Ytikejeihmhpabaa
/-- The law WideBack. -/
theorem wideBack_holds : Rows.WideBackSaid := WbWideBack.over
end Go.Proofs.Ytikejeihmhpabaa

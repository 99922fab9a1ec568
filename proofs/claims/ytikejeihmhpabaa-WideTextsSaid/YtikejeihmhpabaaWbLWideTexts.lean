/- The law WideTexts returns true for every input that can be read, and leaves all that it was handed as it was. Conditions: none but the given row's own. -/
import Derived.Test.YtikejeihmhpabaaWbvSeat02
import Derived.Test.YtikejeihmhpabaaWbvP02k
set_option maxRecDepth 100000
namespace Go.Proofs.Ytikejeihmhpabaa.WbWideTexts
open Go Go.Wb Go.Wb.Code Go.Proofs.Ytikejeihmhpabaa.Wb

theorem specs {H : Type} (ds : List (DataW H)) (h : ds.length = Try.f13.params.toList.length) : Rows.wideTextsSpec.fn H ds = { results := [.lit (.bool true)], args := ds } := by
  match ds, h with
  | [d0, d1], _ => rfl

theorem lifted (os : Os) (started : os.Started) (H : Type) (enc : TypeId × Value → H) :
    ReturnsInHanded {} Try.checked os 13 .any (Rows.wideTextsSpec.pre6 enc Try.prog Try.f13 Rows.wideTextsRow.domain false) (Rows.wideTextsSpec.post enc Try.prog Try.f13 false true false false) := by
  refine returnsInHanded_of_change_sized (C := Try.checked) own started (by kernel_rfl) Try.func13
    (ChangeSpec.witness6 (enc := enc) (C := Try.checked) false ⟨#[], #[.agg #[.int .u64 0, .int .u64 0], .int .u64 0], []⟩ 8 (by kernel_rfl) (by kernel_rfl) (by kernel_rfl) (by kernel_rfl)) ?_
  intro W base args ds gs before hval hW hcnd hsz _
  exact law_contract (name := "law02.WideTexts") calls1 laidOut (by rfl) (tys := [(.st [(.int .u64), (.int .u64)]), (.int .u64)]) (tb := Try.f13.resultTypes.getD 0 0) (by kernel_rfl) (by kernel_rfl) (by kernel_rfl) (by kernel_rfl) rfl
    (fun ds h => specs ds h) (bulkWs (ds ++ gs)) (fun avs h hno ha => (fun B => lawV (B := B) sim (by decide) (P02.law_WideTexts env_WbvC02 B)) _ avs h hno ha) hval hW hsz (Nat.le_refl _)

theorem over : Rows.wideTextsRow.holds Try.pinned (OpenSpec.ofChange Rows.wideTextsSpec) :=
  OpenClaim.holds_of_wide 13 Try.f13 rfl rfl rfl rfl rfl rfl rfl ⟨rfl, rfl, rfl, rfl, rfl⟩ rfl rfl rfl rfl rfl (by kernel_rfl) Try.func13 (by kernel_rfl) (of_decide_eq_true (by kernel_rfl))
    (by unfold Func.isWrapper; first | (rw [if_pos (by decide +kernel)]; kernel_rfl) | (rw [if_neg (by decide +kernel)]; exact ⟨rfl, rfl⟩))
    (fun os started H enc _ => lifted os started H enc)

end Go.Proofs.Ytikejeihmhpabaa.WbWideTexts

namespace Go.Proofs.Ytikejeihmhpabaa
/-- The law WideTexts. -/
theorem wideTexts_holds : Rows.WideTextsSaid := WbWideTexts.over
end Go.Proofs.Ytikejeihmhpabaa

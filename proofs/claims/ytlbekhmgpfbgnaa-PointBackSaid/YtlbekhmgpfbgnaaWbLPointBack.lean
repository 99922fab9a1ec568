/- The law PointBack returns true for every input that can be read, and leaves all that it was handed as it was. Conditions: none but the given row's own. -/
import Derived.Test.YtlbekhmgpfbgnaaWbvSeat09
import Derived.Test.YtlbekhmgpfbgnaaWbvP09g
set_option maxRecDepth 100000
namespace Go.Proofs.Ytlbekhmgpfbgnaa.WbPointBack
open Go Go.Wb Go.Wb.Code Go.Proofs.Ytlbekhmgpfbgnaa.Wb

theorem specs {H : Type} (ds : List (DataW H)) (h : ds.length = Try.f9.params.toList.length) : Rows.pointBackSpec.fn H ds = { results := [.lit (.bool true)], args := ds } := by
  match ds, h with
  | [d0, d1, d2], _ => rfl

theorem lifted (os : Os) (started : os.Started) (H : Type) (enc : TypeId × Value → H) :
    ReturnsInHanded {} Try.checked os 9 .any (Rows.pointBackSpec.pre6 enc Try.prog Try.f9 Rows.pointBackRow.domain false) (Rows.pointBackSpec.post enc Try.prog Try.f9 false true false false) := by
  refine returnsInHanded_of_change_sized (C := Try.checked) own started (by kernel_rfl) Try.func9
    (ChangeSpec.witness6 (enc := enc) (C := Try.checked) false ⟨#[], #[.int .u8 0, .int .u8 0, .string .empty], []⟩ 8 (by kernel_rfl) (by kernel_rfl) (by kernel_rfl) (by kernel_rfl)) ?_
  intro W base args ds gs before hval hW hcnd hsz _
  exact law_contract (name := "law09.PointBack") calls1 laidOut (by rfl) (tys := [(.int .u8), (.int .u8), .str]) (tb := Try.f9.resultTypes.getD 0 0) (by kernel_rfl) (by kernel_rfl) (by kernel_rfl) (by kernel_rfl) rfl
    (fun ds h => specs ds h) (bulkWs (ds ++ gs)) (fun avs h hno ha => (fun B => lawV (B := B) sim (by decide) (P09.law_PointBack env_WbvC09 env_WbvC02 B)) _ avs h hno ha) hval hW hsz (Nat.le_refl _)

theorem over : Rows.pointBackRow.holds Try.pinned (OpenSpec.ofChange Rows.pointBackSpec) :=
  OpenClaim.holds_of_wide 9 Try.f9 rfl rfl rfl rfl rfl rfl rfl ⟨rfl, rfl, rfl, rfl, rfl⟩ rfl rfl rfl rfl rfl (by kernel_rfl) Try.func9 (by kernel_rfl) (of_decide_eq_true (by kernel_rfl))
    (by unfold Func.isWrapper; first | (rw [if_pos (by decide +kernel)]; kernel_rfl) | (rw [if_neg (by decide +kernel)]; exact ⟨rfl, rfl⟩))
    (fun os started H enc _ => lifted os started H enc)

end Go.Proofs.Ytlbekhmgpfbgnaa.WbPointBack

namespace Go.Proofs.Ytlbekhmgpfbgnaa
/-- The law PointBack. -/
theorem pointBack_holds : Rows.PointBackSaid := WbPointBack.over
end Go.Proofs.Ytlbekhmgpfbgnaa

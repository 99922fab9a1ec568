/- The law ExtwalkBack returns true for every input that can be read, and leaves all that it was handed as it was. Conditions: none but the given row's own. -/
import Derived.Test.YtlbekhmgpfbgnaaWbvSeat11
import Derived.Test.YtlbekhmgpfbgnaaWbvP11w
set_option maxRecDepth 100000
namespace Go.Proofs.Ytlbekhmgpfbgnaa.WbExtwalkBack
open Go Go.Wb Go.Wb.Code Go.Proofs.Ytlbekhmgpfbgnaa.Wb

theorem specs {H : Type} (ds : List (DataW H)) (h : ds.length = Try.f12.params.toList.length) : Rows.extwalkBackSpec.fn H ds = { results := [.lit (.bool true)], args := ds } := by
  match ds, h with
  | [d0, d1, d2], _ => rfl

theorem lifted (os : Os) (started : os.Started) (H : Type) (enc : TypeId × Value → H) :
    ReturnsInHanded {} Try.checked os 12 .any (Rows.extwalkBackSpec.pre6 enc Try.prog Try.f12 Rows.extwalkBackRow.domain false) (Rows.extwalkBackSpec.post enc Try.prog Try.f12 false true false false) := by
  refine returnsInHanded_of_change_sized (C := Try.checked) own started (by kernel_rfl) Try.func12
    (ChangeSpec.witness6 (enc := enc) (C := Try.checked) false ⟨#[], #[.slice none 0 0, .int .i64 0, .slice none 0 0], []⟩ 8 (by kernel_rfl) (by kernel_rfl) (by kernel_rfl) (by kernel_rfl)) ?_
  intro W base args ds gs before hval hW hcnd hsz _
  exact law_contract (name := "law11.ExtwalkBack") calls1 laidOut (by rfl) (tys := [(.sl 2 32 (.st [(.int .i64), (.sl 1 1 (.int .u8))])), (.int .i64), (.sl 1 1 (.int .u8))]) (tb := Try.f12.resultTypes.getD 0 0) (by kernel_rfl) (by kernel_rfl) (by kernel_rfl) (by kernel_rfl) rfl
    (fun ds h => specs ds h) (bulkWs (ds ++ gs)) (fun avs h hno ha => (fun B => lawV (B := B) sim (by decide) (P11.law_ExtwalkBack env_WbvC11 env_WbvCsl env_WbvC01 B)) _ avs h hno ha) hval hW hsz (Nat.le_refl _)

theorem over : Rows.extwalkBackRow.holds Try.pinned (OpenSpec.ofChange Rows.extwalkBackSpec) :=
  OpenClaim.holds_of_wide 12 Try.f12 rfl rfl rfl rfl rfl rfl rfl ⟨rfl, rfl, rfl, rfl, rfl⟩ rfl rfl rfl rfl rfl (by kernel_rfl) Try.func12 (by kernel_rfl) (of_decide_eq_true (by kernel_rfl))
    (by unfold Func.isWrapper; first | (rw [if_pos (by decide +kernel)]; kernel_rfl) | (rw [if_neg (by decide +kernel)]; exact ⟨rfl, rfl⟩))
    (fun os started H enc _ => lifted os started H enc)

end Go.Proofs.Ytlbekhmgpfbgnaa.WbExtwalkBack

namespace Go.Proofs.Ytlbekhmgpfbgnaa
/-- The law ExtwalkBack. -/
theorem extwalkBack_holds : Rows.ExtwalkBackSaid := WbExtwalkBack.over
end Go.Proofs.Ytlbekhmgpfbgnaa

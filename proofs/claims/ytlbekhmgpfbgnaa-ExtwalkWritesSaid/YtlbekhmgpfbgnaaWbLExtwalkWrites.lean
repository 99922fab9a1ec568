/- The law ExtwalkWrites returns true for every input that can be read, and leaves all that it was handed as it was. Conditions: none but the given row's own. -/
import Derived.Test.YtlbekhmgpfbgnaaWbvSeat11
import Derived.Test.YtlbekhmgpfbgnaaWbvP11r
set_option maxRecDepth 100000
namespace Go.Proofs.Ytlbekhmgpfbgnaa.WbExtwalkWrites
open Go Go.Wb Go.Wb.Code Go.Proofs.Ytlbekhmgpfbgnaa.Wb

theorem specs {H : Type} (ds : List (DataW H)) (h : ds.length = Try.f11.params.toList.length) : Rows.extwalkWritesSpec.fn H ds = { results := [.lit (.bool true)], args := ds } := by
  match ds, h with
  | [d0, d1], _ => rfl

theorem lifted (os : Os) (started : os.Started) (H : Type) (enc : TypeId × Value → H) :
    ReturnsInHanded {} Try.checked os 11 .any (Rows.extwalkWritesSpec.pre6 enc Try.prog Try.f11 Rows.extwalkWritesRow.domain false) (Rows.extwalkWritesSpec.post enc Try.prog Try.f11 false true false false) := by
  refine returnsInHanded_of_change_sized (C := Try.checked) own started (by kernel_rfl) Try.func11
    (ChangeSpec.witness6 (enc := enc) (C := Try.checked) false ⟨#[], #[.slice none 0 0, .int .i64 0], []⟩ 8 (by kernel_rfl) (by kernel_rfl) (by kernel_rfl) (by kernel_rfl)) ?_
  intro W base args ds gs before hval hW hcnd hsz _
  exact law_contract (name := "law11.ExtwalkWrites") calls1 laidOut (by rfl) (tys := [(.sl 2 32 (.st [(.int .i64), (.sl 1 1 (.int .u8))])), (.int .i64)]) (tb := Try.f11.resultTypes.getD 0 0) (by kernel_rfl) (by kernel_rfl) (by kernel_rfl) (by kernel_rfl) rfl
    (fun ds h => specs ds h) (bulkWs (ds ++ gs)) (fun avs h hno ha => (fun B => lawV (B := B) sim (by decide) (P11.law_ExtwalkWrites env_WbvC11 env_WbvCsl env_WbvC01 B)) _ avs h hno ha) hval hW hsz (Nat.le_refl _)

theorem over : Rows.extwalkWritesRow.holds Try.pinned (OpenSpec.ofChange Rows.extwalkWritesSpec) :=
  OpenClaim.holds_of_wide 11 Try.f11 rfl rfl rfl rfl rfl rfl rfl ⟨rfl, rfl, rfl, rfl, rfl⟩ rfl rfl rfl rfl rfl (by kernel_rfl) Try.func11 (by kernel_rfl) (of_decide_eq_true (by kernel_rfl))
    (by unfold Func.isWrapper; first | (rw [if_pos (by decide +kernel)]; kernel_rfl) | (rw [if_neg (by decide +kernel)]; exact ⟨rfl, rfl⟩))
    (fun os started H enc _ => lifted os started H enc)

end Go.Proofs.Ytlbekhmgpfbgnaa.WbExtwalkWrites

namespace Go.Proofs.Ytlbekhmgpfbgnaa
/-- The law ExtwalkWrites. -/
theorem extwalkWrites_holds : Rows.ExtwalkWritesSaid := WbExtwalkWrites.over
end Go.Proofs.Ytlbekhmgpfbgnaa

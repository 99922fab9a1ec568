/- The law ExtwalkRanks returns true for every input that can be read, and leaves all that it was handed as it was. Conditions: none but the given row's own. -/
import Derived.Test.YtlbekhmgpfbgnaaWbvSeat11
import Derived.Test.YtlbekhmgpfbgnaaWbvP11k
set_option maxRecDepth 100000
namespace Go.Proofs.Ytlbekhmgpfbgnaa.WbExtwalkRanks
open Go Go.Wb Go.Wb.Code Go.Proofs.Ytlbekhmgpfbgnaa.Wb

theorem specs {H : Type} (ds : List (DataW H)) (h : ds.length = Try.f14.params.toList.length) : Rows.extwalkRanksSpec.fn H ds = { results := [.lit (.bool true)], args := ds } := by
  match ds, h with
  | [d0, d1], _ => rfl

theorem lifted (os : Os) (started : os.Started) (H : Type) (enc : TypeId × Value → H) :
    ReturnsInHanded {} Try.checked os 14 .any (Rows.extwalkRanksSpec.pre6 enc Try.prog Try.f14 Rows.extwalkRanksRow.domain false) (Rows.extwalkRanksSpec.post enc Try.prog Try.f14 false true false false) := by
  refine returnsInHanded_of_change_sized (C := Try.checked) own started (by kernel_rfl) Try.func14
    (ChangeSpec.witness6 (enc := enc) (C := Try.checked) false ⟨#[], #[.int .i64 0, .slice none 0 0], []⟩ 8 (by kernel_rfl) (by kernel_rfl) (by kernel_rfl) (by kernel_rfl)) ?_
  intro W base args ds gs before hval hW hcnd hsz _
  exact law_contract (name := "law11.ExtwalkRanks") calls1 laidOut (by rfl) (tys := [(.int .i64), (.sl 1 1 (.int .u8))]) (tb := Try.f14.resultTypes.getD 0 0) (by kernel_rfl) (by kernel_rfl) (by kernel_rfl) (by kernel_rfl) rfl
    (fun ds h => specs ds h) (bulkWs (ds ++ gs)) (fun avs h hno ha => (fun B => lawV (B := B) sim (by decide) (P11.law_ExtwalkRanks env_WbvC11 B)) _ avs h hno ha) hval hW hsz (Nat.le_refl _)

theorem over : Rows.extwalkRanksRow.holds Try.pinned (OpenSpec.ofChange Rows.extwalkRanksSpec) :=
  OpenClaim.holds_of_wide 14 Try.f14 rfl rfl rfl rfl rfl rfl rfl ⟨rfl, rfl, rfl, rfl, rfl⟩ rfl rfl rfl rfl rfl (by kernel_rfl) Try.func14 (by kernel_rfl) (of_decide_eq_true (by kernel_rfl))
    (by unfold Func.isWrapper; first | (rw [if_pos (by decide +kernel)]; kernel_rfl) | (rw [if_neg (by decide +kernel)]; exact ⟨rfl, rfl⟩))
    (fun os started H enc _ => lifted os started H enc)

end Go.Proofs.Ytlbekhmgpfbgnaa.WbExtwalkRanks

namespace Go.Proofs.Ytlbekhmgpfbgnaa
/-- The law ExtwalkRanks. -/
theorem extwalkRanks_holds : Rows.ExtwalkRanksSaid := WbExtwalkRanks.over
end Go.Proofs.Ytlbekhmgpfbgnaa

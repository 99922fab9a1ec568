/- The law OctetPuts returns true for every input that can be read, and leaves all that it was handed as it was. Conditions: none but the given row's own. -/
import Derived.Test.YtihcipgcknjkbaaWbSeat01
import Derived.Test.YtihcipgcknjkbaaWbQ01
set_option maxRecDepth 100000
namespace Go.Proofs.Ytihcipgcknjkbaa.WbOctetPuts
open Go Go.Wb Go.Wb.Code Go.Proofs.Ytihcipgcknjkbaa.Wb

theorem lifted (os : Os) (started : os.Started) (H : Type) (enc : TypeId × Value → H) :
    ReturnsInHanded {} Try.checked os 5 .any (Rows.octetPutsSpec.pre6 enc Try.prog Try.f5 Rows.octetPutsRow.domain false) (Rows.octetPutsSpec.post enc Try.prog Try.f5 false true false false) := by
  refine returnsInHanded_of_change_sized (C := Try.checked) own started (by kernel_rfl) Try.func5
    (ChangeSpec.witness6 (enc := enc) (C := Try.checked) false ⟨#[], #[.slice none 0 0, .agg #[.int .i64 0, .int .i64 0], .int .u64 0], []⟩ 8 (by kernel_rfl) (by kernel_rfl) (by kernel_rfl) (by kernel_rfl)) ?_
  intro W base args ds gs before hval hW hcnd hsz _
  exact law_contract (name := "law01.OctetPuts") calls1 laidOut (by rfl) (tys := [.sl 1 1 (.int .u8), .arr 2 (.int .i64), .int .u64]) (tb := Try.f5.resultTypes.getD 0 0) (by kernel_rfl) (by kernel_rfl) (by kernel_rfl) (by kernel_rfl) rfl
    (fun ds h => by
      match ds, h with
      | [d0, d1, d2], _ => rfl)
    (fun avs h hno ha => P01.law_OctetPuts env_WbC01 avs h hno ha) hval hW hsz

theorem over : Rows.octetPutsRow.holds Try.pinned (OpenSpec.ofChange Rows.octetPutsSpec) :=
  OpenClaim.holds_of_wide 5 Try.f5 rfl rfl rfl rfl rfl rfl rfl ⟨rfl, rfl, rfl, rfl, rfl⟩ rfl rfl rfl rfl rfl (by kernel_rfl) Try.func5 (by kernel_rfl) (of_decide_eq_true (by kernel_rfl))
    (by unfold Func.isWrapper; first | (rw [if_pos (by decide +kernel)]; kernel_rfl) | (rw [if_neg (by decide +kernel)]; exact ⟨rfl, rfl⟩))
    (fun os started H enc _ => lifted os started H enc)

end Go.Proofs.Ytihcipgcknjkbaa.WbOctetPuts

namespace Go.Proofs.Ytihcipgcknjkbaa
/-- The law OctetPuts. -/
theorem octetPuts_holds : Rows.OctetPutsSaid := WbOctetPuts.over
end Go.Proofs.Ytihcipgcknjkbaa

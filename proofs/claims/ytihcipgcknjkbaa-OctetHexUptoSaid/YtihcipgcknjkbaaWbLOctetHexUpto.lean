/- The law OctetHex returns true for every input that can be read, and leaves all that it was handed as it was. Conditions: the arguments together hold at most 1048576 values and letters. -/
import Derived.Test.YtihcipgcknjkbaaWbSeat01
import Derived.Test.YtihcipgcknjkbaaWbQ01h
set_option maxRecDepth 100000
namespace Go.Proofs.Ytihcipgcknjkbaa.WbOctetHexUpto
open Go Go.Wb Go.Wb.Code Go.Proofs.Ytihcipgcknjkbaa.Wb

theorem specs {H : Type} (ds : List (DataW H)) (h : ds.length = Try.f7.params.toList.length) : Rows.octetHexSpec.fn H ds = { results := [.lit (.bool true)], args := ds } := by
  match ds, h with
  | [d0, d1], _ => rfl

theorem lifted (os : Os) (started : os.Started) (H : Type) (enc : TypeId × Value → H) (F : Stop.Interp) :
    ReturnsInHanded {} Try.checked os 7 .any ((Rows.OpenSpec.upto Rows.octetHexSpec).pre6 enc Try.prog Try.f7 Rows.octetHexUptoRow.domain false) (((Rows.OpenSpec.upto Rows.octetHexSpec).at F).post enc Try.prog Try.f7 false true false false) := by
  refine returnsInHanded_of_cond_sized (C := Try.checked) (s := Rows.OpenSpec.upto Rows.octetHexSpec) (k := Rows.uptoSmall) rfl own started (by kernel_rfl) Try.func7
    (OpenSpec.witness (enc := enc) (C := Try.checked) (s := Rows.OpenSpec.upto Rows.octetHexSpec) (k := Rows.uptoSmall) rfl false ⟨#[], #[.slice none 0 0, .string .empty], []⟩ 8 (by kernel_rfl) (by kernel_rfl) (by kernel_rfl)
      (x := ([.nil, .lit (.string [])], [], [])) (by kernel_rfl) rfl (by kernel_rfl)) ?_
  intro W base args ds gs before hval hW hcnd hk hsz _
  have h := law_contract (f := 7) (fn := Try.f7) (P := Try.prog) (enc := enc) (w := W) (name := "law01.OctetHex") (s := Rows.octetHexSpec) calls1 laidOut (by rfl) (tys := [(.sl 1 1 (.int .u8)), .str]) (tb := Try.f7.resultTypes.getD 0 0) (by kernel_rfl) (by kernel_rfl) (by kernel_rfl) (by kernel_rfl) rfl
    (fun ds h => specs ds h) 1048576 (fun avs h hno ha => P01.law_OctetHex env_WbC01 avs h hno ha) hval hW hsz (bulk_small hk)
  exact h

theorem over : Rows.octetHexUptoRow.holds Try.pinned (Rows.OpenSpec.upto Rows.octetHexSpec) :=
  OpenClaim.holds_of_cond 7 Try.f7 rfl rfl rfl rfl rfl rfl rfl ⟨rfl, rfl, rfl, rfl, rfl⟩ rfl rfl rfl rfl rfl (by kernel_rfl) Try.func7 (by kernel_rfl) (of_decide_eq_true (by kernel_rfl))
    (by unfold Func.isWrapper; first | (rw [if_pos (by decide +kernel)]; kernel_rfl) | (rw [if_neg (by decide +kernel)]; exact ⟨rfl, rfl⟩))
    (fun os started H enc _ F => lifted os started H enc F)

end Go.Proofs.Ytihcipgcknjkbaa.WbOctetHexUpto

namespace Go.Proofs.Ytihcipgcknjkbaa
/-- The law OctetHex. -/
theorem octetHexUpto_holds : Rows.OctetHexUptoSaid := WbOctetHexUpto.over
end Go.Proofs.Ytihcipgcknjkbaa

/- Chapter 2: the laws. -/
import Derived.Test.YtlbekhmgpfbgnaaWbvP02h
set_option maxRecDepth 100000
set_option linter.all false
namespace Go.Wb.P02
open Go Go.Wb Go.Wb.Code
theorem ht : sb (txt 2 18446744073709551616).reverse = ⟨#[49, 56, 52, 52, 54, 55, 52, 52, 48, 55, 51, 55, 48, 57, 53, 53, 49, 54, 49, 54]⟩ := by
 have h : txt 2 18446744073709551616 = [54, 49, 54, 49, 53, 53, 57, 48, 55, 51, 55, 48, 52, 52, 55, 54, 52, 52, 56, 49] := by simp [txt, digs, lastd]
 rw [h]; rfl
section
variable {E : EnvW} (e : WbvC02Env E)
include e
theorem law_WideAdds (B : Nat) (avs : List PV) (ha : PArgs B [.st [.int .u64, .int .u64], .st [.int .u64, .int .u64]] avs) : ∃ o ho, callV E "law02.WideAdds" (avs.map .v) [] = some ([rB true], o, ho) := adds_law e (live e ht) B avs ha
theorem law_WideMuls (B : Nat) (avs : List PV) (ha : PArgs B [.int .u64, .int .u64] avs) : ∃ o ho, callV E "law02.WideMuls" (avs.map .v) [] = some ([rB true], o, ho) := muls_law e (live e ht) B avs ha
theorem law_WideDivs (B : Nat) (avs : List PV) (ha : PArgs B [.st [.int .u64, .int .u64], .int .u64] avs) : ∃ o ho, callV E "law02.WideDivs" (avs.map .v) [] = some ([rB true], o, ho) := divs_law e (live e ht) B avs ha
theorem law_WideBack (B : Nat) (avs : List PV) (ha : PArgs B [.st [.int .u64, .int .u64], .st [.int .u64, .int .u64], .int .u64] avs) : ∃ o ho, callV E "law02.WideBack" (avs.map .v) [] = some ([rB true], o, ho) := back_law e (live e ht) B avs ha
end
end Go.Wb.P02

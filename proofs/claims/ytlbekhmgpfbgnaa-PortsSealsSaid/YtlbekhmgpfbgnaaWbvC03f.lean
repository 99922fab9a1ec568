/- The code of some functions, as the value machine has it (printed by a program from the given form). -/
import Derived.Test.YtlbekhmgpfbgnaaWbA5
set_option maxRecDepth 100000
namespace Go.Wb.Code
open Go Go.Wb
def onesum_fold_L0 : WCode :=
 (.seq (.seq (.ops [⟨(some 3), false, (.move (.tmp 0)), none, [], []⟩, ⟨(some 4), false, (.bin .gtr (.tmp 3) (.const (.int .u64 65535))), none, [], []⟩]) (.cond (.tmp 4) .skip (.exit [0] 0))) (.block 1 (.ops [⟨(some 5), false, (.move (.tmp 0)), none, [], []⟩, ⟨(some 6), false, (.bin .shr (.tmp 5) (.const (.int .u64 16))), none, [], []⟩, ⟨(some 7), true, (.move (.tmp 0)), none, [], []⟩, ⟨(some 8), false, (.bin .and (.tmp 7) (.const (.int .u64 65535))), none, [], []⟩, ⟨(some 9), false, (.bin .add (.tmp 6) (.tmp 8)), none, [], []⟩, ⟨(some 0), true, (.move (.tmp 9)), none, [], []⟩])))
def onesum_fold_B : WCode :=
 (.seq (.ops [⟨(some 2), false, (.move (.const (.int .u16 0))), none, [], []⟩]) (.seq (.block 0 (.loop [0] onesum_fold_L0)) (.cut [0] (.seq (.ops [⟨(some 10), true, (.move (.tmp 0)), none, [], []⟩, ⟨(some 11), false, (.convInt .u16 (.tmp 10)), none, [], []⟩, ⟨(some 2), true, (.move (.tmp 11)), none, [], []⟩]) (.ret [2])))))
def onesum_fold : WFun := .code [(.tmp 2)] onesum_fold_B
structure WbvC03fEnv (E : EnvW) : Prop where
 onesum_fold : E.fn "onesum.fold" = some Code.onesum_fold
end Go.Wb.Code

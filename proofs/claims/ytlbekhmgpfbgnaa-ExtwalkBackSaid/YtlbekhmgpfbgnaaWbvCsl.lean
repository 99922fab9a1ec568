/- The code of some functions, as the value machine has it (printed by a program from the given form). -/
import Derived.Test.YtlbekhmgpfbgnaaWbA5
set_option maxRecDepth 100000
namespace Go.Wb.Code
open Go Go.Wb
def slices_Clone_byte_byte_B : WCode :=
 (.seq (.ops [⟨(some 2), false, (.move (.const (.slice none 0 0))), none, [(0, 1)], []⟩]) (.seq (.seq (.ops [vq 3 0, oq 4 (.nilv false (tq 3))]) (.cond (tq 4) (.seq (.ops [⟨(some 2), false, (.move (.const (.slice none 0 0))), none, [(0, 1)], []⟩]) (.ret [2])) .skip)) (.cut [0] (.seq (.ops [oq 5 (.buildSlice 1 0 [(.int .u8 0)] []), rq 6 0, oq 7 (.append 1 1 (tq 5) (tq 6)), rq 2 7]) (.ret [2])))))
def slices_Clone_byte_byte : WFun := .code [(.tmp 2)] slices_Clone_byte_byte_B
def slices_Contains_int_int_B : WCode :=
 (.seq (.ops [oq 4 (.move (.const (.bool false)))]) (.seq (.ops [rq 5 0, rq 6 1, oq 7 (.call "slices.Index[[]int,int]" [(tq 5), (tq 6)]), oq 8 (.bin .geq (tq 7) (iq 0)), rq 4 8]) (.ret [4])))
def slices_Contains_int_int : WFun := .code [(.tmp 4)] slices_Contains_int_int_B
def slices_Index_int_int_L0 : WCode :=
 (.seq (.ops [oq 9 (.bin .lss (tq 8) (tq 7))]) (.seq (.cond (tq 9) .skip (.exit [] 0)) (.seq (.block 1 (.seq (.ops [vq 10 8, rq 5 10]) (.seq (.ops [vq 11 1, vq 12 0, vq 13 5, oq 14 (.idxAddrSl 1 (tq 12) (tq 13)), oq 15 (.load none (tq 14)), oq 16 (.bin .eql (tq 11) (tq 15))]) (.cut [0, 1, 5, 7, 8, 16] (.cond (tq 16) (.seq (.ops [rq 17 5, rq 4 17]) (.ret [4])) .skip))))) (.cut [0, 1, 7, 8] (.ops [oq 18 (.bin .add (tq 8) (iq 1)), rq 8 18])))))
def slices_Index_int_int_B : WCode :=
 (.seq (.ops [oq 4 (.move (iq 0))]) (.seq (.seq (.ops [vq 6 0, oq 7 (.len (tq 6)), oq 8 (.move (iq 0))]) (.cut [0, 1, 7, 8] (.block 0 (.loop [0, 1, 7, 8] slices_Index_int_int_L0)))) (.cut [] (.seq (.ops [oq 4 (.move (iq (Int.negSucc 0)))]) (.ret [4])))))
def slices_Index_int_int : WFun := .code [(.tmp 4)] slices_Index_int_int_B
structure WbvCslEnv (E : EnvW) : Prop where
 slices_Clone_byte_byte : E.fn "slices.Clone[[]byte,byte]" = some Code.slices_Clone_byte_byte
 slices_Contains_int_int : E.fn "slices.Contains[[]int,int]" = some Code.slices_Contains_int_int
 slices_Index_int_int : E.fn "slices.Index[[]int,int]" = some Code.slices_Index_int_int
end Go.Wb.Code

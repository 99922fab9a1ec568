/- The functions of this seat's program, as both machines have them: their names, their code, and that it is their code. -/
import Derived.Test.YtlbekhmgpfbgnaaRows
import Derived.Test.YtlbekhmgpfbgnaaWbA6
import Derived.JoinedCond
import Derived.Deep.CondSized
import Derived.Test.YtlbekhmgpfbgnaaWbvC01
import Derived.Test.YtlbekhmgpfbgnaaWbvC13
import Derived.Test.YtlbekhmgpfbgnaaWbvC03f
import Derived.Test.YtlbekhmgpfbgnaaWbvC03
import Derived.Test.YtlbekhmgpfbgnaaWbvC13b
import Derived.Test.YtlbekhmgpfbgnaaWbSum
import Derived.Test.YtlbekhmgpfbgnaaWbvP03f
set_option maxRecDepth 100000
set_option linter.all false
namespace Go.Proofs.Ytlbekhmgpfbgnaa.Wb
open Go Go.Wb Go.Wb.Code

def nm : Names := fun f => match f with
  | 80 => some "octet.Get"
  | 27 => some "ref01.SameBytes"
  | 76 => some "ref01.Join"
  | 78 => some "octet.Put"
  | 82 => some "octet.Bits"
  | 116 => some "octet.SetBits"
  | 115 => some "octet.spans"
  | 117 => some "octet.inside"
  | 118 => some "octet.mask"
  | 111 => some "ports.Least"
  | 113 => some "ref13.Least"
  | 135 => some "onesum.fold"
  | 75 => some "ref03.Sum"
  | 110 => some "onesum.Check"
  | 70 => some "onesum.Good"
  | 112 => some "onesum.Add"
  | 71 => some "onesum.Fill"
  | 114 => some "ref03.rest"
  | 109 => some "onesum.Sum"
  | 4 => some "law13.PortsSums"
  | 6 => some "law13.PortsSeals"
  | 22 => some "ports.Sum"
  | 23 => some "ref13.Sum"
  | 24 => some "ports.Seal"
  | 25 => some "ref13.Seal"
  | 26 => some "law13.sure"
  | 72 => some "ports.check"
  | 73 => some "ports.total"
  | 74 => some "ref13.wrong"
  | 77 => some "ref13.ahead"
  | _ => none

def tbl : List (Nat × String) := []

def E0 : Env := fun s => match s with
  | "law01.OctetGets" => some (.code [(.tmp 6)] law01_OctetGets_B.erase)
  | "law01.OctetPuts" => some (.code [(.tmp 6)] law01_OctetPuts_B.erase)
  | "law01.OctetBits" => some (.code [(.tmp 6)] law01_OctetBits_B.erase)
  | "law01.OctetHex" => some (.code [(.tmp 4)] law01_OctetHex_B.erase)
  | "law01.OctetBack" => some (.code [(.tmp 6)] law01_OctetBack_B.erase)
  | "octet.Get" => some (.code [(.tmp 6), (.tmp 7)] octet_Get_B.erase)
  | "ref01.Get" => some (.code [(.tmp 6), (.tmp 7)] ref01_Get_B.erase)
  | "octet.Cut" => some (.code [(.tmp 6), (.tmp 7)] octet_Cut_B.erase)
  | "ref01.Cut" => some (.code [(.tmp 6), (.tmp 7)] ref01_Cut_B.erase)
  | "law01.live" => some (.code [(.tmp 0)] law01_live_B.erase)
  | "ref01.SameBytes" => some (.code [(.tmp 4)] ref01_SameBytes_B.erase)
  | "ref01.Join" => some (.code [(.tmp 2)] ref01_Join_B.erase)
  | "octet.Put" => some (.code [(.tmp 8), (.tmp 9)] octet_Put_B.erase)
  | "ref01.Put" => some (.code [(.tmp 8), (.tmp 9)] ref01_Put_B.erase)
  | "octet.Bits" => some (.code [(.tmp 6)] octet_Bits_B.erase)
  | "ref01.Bits" => some (.code [(.tmp 6)] ref01_Bits_B.erase)
  | "octet.SetBits" => some (.code [(.tmp 8)] octet_SetBits_B.erase)
  | "ref01.SetBits" => some (.code [(.tmp 8)] ref01_SetBits_B.erase)
  | "octet.Hex" => some (.code [(.tmp 2)] octet_Hex_B.erase)
  | "ref01.Hex" => some (.code [(.tmp 2)] ref01_Hex_B.erase)
  | "octet.Unhex" => some (.code [(.tmp 2), (.cell 3 (some 2))] octet_Unhex_B.erase)
  | "ref01.Unhex" => some (.code [(.tmp 2), (.cell 3 (some 2))] ref01_Unhex_B.erase)
  | "octet.spans" => some (.code [(.tmp 6)] octet_spans_B.erase)
  | "ref01.place" => some (.code [(.tmp 6)] ref01_place_B.erase)
  | "ref01.fits" => some (.code [(.tmp 4)] ref01_fits_B.erase)
  | "octet.inside" => some (.code [(.tmp 4)] octet_inside_B.erase)
  | "octet.mask" => some (.code [(.tmp 2)] octet_mask_B.erase)
  | "ref01.are" => some (.code [(.tmp 4)] ref01_are_B.erase)
  | "ref01.bit" => some (.code [(.tmp 4)] ref01_bit_B.erase)
  | "octet.nibble" => some (.code [(.tmp 2), (.tmp 3)] octet_nibble_B.erase)
  | "ref01.digit" => some (.code [(.tmp 2)] ref01_digit_B.erase)
  | "law13.PortsReads" => some (.code [(.tmp 6)] law13_PortsReads_B.erase)
  | "law13.PortsWrites" => some (.code [(.tmp 6)] law13_PortsWrites_B.erase)
  | "law13.PortsBack" => some (.code [(.tmp 6)] law13_PortsBack_B.erase)
  | "ports.Read" => some (.code [(.tmp 6), (.tmp 7), (.tmp 8)] ports_Read_B.erase)
  | "ref13.Read" => some (.code [(.tmp 6), (.tmp 7), (.tmp 8)] ref13_Read_B.erase)
  | "law13.live" => some (.code [(.tmp 0)] law13_live_B.erase)
  | "ports.Least" => some (.code [(.tmp 2)] ports_Least_B.erase)
  | "ref13.Least" => some (.code [(.tmp 2)] ref13_Least_B.erase)
  | "ports.Write" => some (.code [(.tmp 8), (.tmp 9)] ports_Write_B.erase)
  | "ref13.Write" => some (.code [(.tmp 8), (.tmp 9)] ref13_Write_B.erase)
  | "ports.sound" => some (.code [(.tmp 6)] ports_sound_B.erase)
  | "ports.field" => some (.code [(.tmp 4)] ports_field_B.erase)
  | "ref13.two" => some (.code [(.tmp 4)] ref13_two_B.erase)
  | "onesum.fold" => some (.code [(.tmp 2)] onesum_fold_B.erase)
  | "law03.OnesumSums" => some (.code [(.tmp 4)] law03_OnesumSums_B.erase)
  | "law03.OnesumJoins" => some (.code [(.tmp 6)] law03_OnesumJoins_B.erase)
  | "law03.OnesumFills" => some (.code [(.tmp 4)] law03_OnesumFills_B.erase)
  | "law03.OnesumFinds" => some (.code [(.tmp 6)] law03_OnesumFinds_B.erase)
  | "law03.live" => some (.code [(.tmp 0)] law03_live_B.erase)
  | "ref03.Sum" => some (.code [(.tmp 2)] ref03_Sum_B.erase)
  | "onesum.Check" => some (.code [(.tmp 2)] onesum_Check_B.erase)
  | "ref03.Check" => some (.code [(.tmp 2)] ref03_Check_B.erase)
  | "onesum.Good" => some (.code [(.tmp 2)] onesum_Good_B.erase)
  | "ref03.Good" => some (.code [(.tmp 2)] ref03_Good_B.erase)
  | "onesum.Add" => some (.code [(.tmp 4)] onesum_Add_B.erase)
  | "ref03.Add" => some (.code [(.tmp 4)] ref03_Add_B.erase)
  | "onesum.Swap" => some (.code [(.tmp 2)] onesum_Swap_B.erase)
  | "ref03.Swap" => some (.code [(.tmp 2)] ref03_Swap_B.erase)
  | "onesum.Join" => some (.code [(.tmp 6)] onesum_Join_B.erase)
  | "ref03.Join" => some (.code [(.tmp 6)] ref03_Join_B.erase)
  | "onesum.Fill" => some (.code [(.tmp 4), (.tmp 5)] onesum_Fill_B.erase)
  | "ref03.Fill" => some (.code [(.tmp 4), (.tmp 5)] ref03_Fill_B.erase)
  | "ref03.rest" => some (.code [(.tmp 2)] ref03_rest_B.erase)
  | "onesum.Sum" => some (.prim sumA)
  | "law13.PortsSums" => some (.code [(.tmp 4)] law13_PortsSums_B.erase)
  | "law13.PortsSeals" => some (.code [(.tmp 4)] law13_PortsSeals_B.erase)
  | "ports.Sum" => some (.code [(.tmp 4), (.tmp 5)] ports_Sum_B.erase)
  | "ref13.Sum" => some (.code [(.tmp 4), (.tmp 5)] ref13_Sum_B.erase)
  | "ports.Seal" => some (.code [(.tmp 4), (.tmp 5)] ports_Seal_B.erase)
  | "ref13.Seal" => some (.code [(.tmp 4), (.tmp 5)] ref13_Seal_B.erase)
  | "law13.sure" => some (.code [(.tmp 0)] law13_sure_B.erase)
  | "ports.check" => some (.code [(.tmp 4)] ports_check_B.erase)
  | "ports.total" => some (.code [(.tmp 4)] ports_total_B.erase)
  | "ref13.wrong" => some (.code [(.tmp 4)] ref13_wrong_B.erase)
  | "ref13.ahead" => some (.code [(.tmp 4)] ref13_ahead_B.erase)
  | "@dyn" => some (.dyn tbl)
  | _ => none

theorem c_octet_Get : compileFun Try.prog nm Try.f80 = some (.code [(.tmp 6), (.tmp 7)] octet_Get_B.erase) := by kernel_rfl
theorem c_ref01_SameBytes : compileFun Try.prog nm Try.f27 = some (.code [(.tmp 4)] ref01_SameBytes_B.erase) := by kernel_rfl
theorem c_ref01_Join : compileFun Try.prog nm Try.f76 = some (.code [(.tmp 2)] ref01_Join_B.erase) := by kernel_rfl
theorem c_octet_Put : compileFun Try.prog nm Try.f78 = some (.code [(.tmp 8), (.tmp 9)] octet_Put_B.erase) := by kernel_rfl
theorem c_octet_Bits : compileFun Try.prog nm Try.f82 = some (.code [(.tmp 6)] octet_Bits_B.erase) := by kernel_rfl
theorem c_octet_SetBits : compileFun Try.prog nm Try.f116 = some (.code [(.tmp 8)] octet_SetBits_B.erase) := by kernel_rfl
theorem c_octet_spans : compileFun Try.prog nm Try.f115 = some (.code [(.tmp 6)] octet_spans_B.erase) := by kernel_rfl
theorem c_octet_inside : compileFun Try.prog nm Try.f117 = some (.code [(.tmp 4)] octet_inside_B.erase) := by kernel_rfl
theorem c_octet_mask : compileFun Try.prog nm Try.f118 = some (.code [(.tmp 2)] octet_mask_B.erase) := by kernel_rfl
theorem c_ports_Least : compileFun Try.prog nm Try.f111 = some (.code [(.tmp 2)] ports_Least_B.erase) := by kernel_rfl
theorem c_ref13_Least : compileFun Try.prog nm Try.f113 = some (.code [(.tmp 2)] ref13_Least_B.erase) := by kernel_rfl
theorem c_onesum_fold : compileFun Try.prog nm Try.f135 = some (.code [(.tmp 2)] onesum_fold_B.erase) := by kernel_rfl
theorem c_ref03_Sum : compileFun Try.prog nm Try.f75 = some (.code [(.tmp 2)] ref03_Sum_B.erase) := by kernel_rfl
theorem c_onesum_Check : compileFun Try.prog nm Try.f110 = some (.code [(.tmp 2)] onesum_Check_B.erase) := by kernel_rfl
theorem c_onesum_Good : compileFun Try.prog nm Try.f70 = some (.code [(.tmp 2)] onesum_Good_B.erase) := by kernel_rfl
theorem c_onesum_Add : compileFun Try.prog nm Try.f112 = some (.code [(.tmp 4)] onesum_Add_B.erase) := by kernel_rfl
theorem c_onesum_Fill : compileFun Try.prog nm Try.f71 = some (.code [(.tmp 4), (.tmp 5)] onesum_Fill_B.erase) := by kernel_rfl
theorem c_ref03_rest : compileFun Try.prog nm Try.f114 = some (.code [(.tmp 2)] ref03_rest_B.erase) := by kernel_rfl
theorem c_law13_PortsSums : compileFun Try.prog nm Try.f4 = some (.code [(.tmp 4)] law13_PortsSums_B.erase) := by kernel_rfl
theorem c_law13_PortsSeals : compileFun Try.prog nm Try.f6 = some (.code [(.tmp 4)] law13_PortsSeals_B.erase) := by kernel_rfl
theorem c_ports_Sum : compileFun Try.prog nm Try.f22 = some (.code [(.tmp 4), (.tmp 5)] ports_Sum_B.erase) := by kernel_rfl
theorem c_ref13_Sum : compileFun Try.prog nm Try.f23 = some (.code [(.tmp 4), (.tmp 5)] ref13_Sum_B.erase) := by kernel_rfl
theorem c_ports_Seal : compileFun Try.prog nm Try.f24 = some (.code [(.tmp 4), (.tmp 5)] ports_Seal_B.erase) := by kernel_rfl
theorem c_ref13_Seal : compileFun Try.prog nm Try.f25 = some (.code [(.tmp 4), (.tmp 5)] ref13_Seal_B.erase) := by kernel_rfl
theorem c_law13_sure : compileFun Try.prog nm Try.f26 = some (.code [(.tmp 0)] law13_sure_B.erase) := by kernel_rfl
theorem c_ports_check : compileFun Try.prog nm Try.f72 = some (.code [(.tmp 4)] ports_check_B.erase) := by kernel_rfl
theorem c_ports_total : compileFun Try.prog nm Try.f73 = some (.code [(.tmp 4)] ports_total_B.erase) := by kernel_rfl
theorem c_ref13_wrong : compileFun Try.prog nm Try.f74 = some (.code [(.tmp 4)] ref13_wrong_B.erase) := by kernel_rfl
theorem c_ref13_ahead : compileFun Try.prog nm Try.f77 = some (.code [(.tmp 4)] ref13_ahead_B.erase) := by kernel_rfl
theorem mixed : Try.prog.follows .mixedOrders = true := Try.checked.mixed

/-! The sum of words: its last step alone. -/
def nmF : Names := fun f => match f with
  | 135 => some "onesum.fold"
  | _ => none
def EF : Env := fun s => match s with
  | "onesum.fold" => some (.code [(.tmp 2)] onesum_fold_B.erase)
  | "@dyn" => some (.dyn [])
  | _ => none
theorem c_fold : compileFun Try.prog nmF Try.f135 = some (.code [(.tmp 2)] onesum_fold_B.erase) := by kernel_rfl
theorem okF : EnvOk Try.prog nmF EF := by
  intro f n hf af ha
  unfold nmF at hf
  split at hf
  · injection hf with hf
    subst hf
    have e : some _ = some af := ha
    injection e with e
    subst e
    exact .inl ⟨_, Try.func135, c_fold⟩
  · cases hf
theorem dynF : DynTab Try.prog nmF [] := by
  intro e he
  simp at he
theorem roF : EnvRo EF := by
  intro n g hg
  unfold EF at hg
  split at hg <;> cases hg
theorem callsF : CallsOk Try.prog nmF (callA EF) := calls_sound mixed okF (.inr ⟨_, rfl, dynF⟩) roF
def EWF : EnvW := EnvW.mk (fun s => match s with
    | "onesum.fold" => some onesum_fold
    | _ => none) []
theorem simF : EnvSim EWF EF := by
  refine ⟨rfl, fun f wf hf => ?_⟩
  simp only [EWF] at hf
  split at hf
  · injection hf with hf; subst hf; exact .inl ⟨_, _, rfl, rfl⟩
  · cases hf
theorem sum_ok : ∀ args h v h', sumA args h = some (v, h') → CallOk Try.prog 109 args h v h' := sum_call fun a l c w bs hs => callsIn_wide.1 (SumT.sum_in foldS (fun m W h0 h1 => fold_calls callsF simF rfl (fun n a b => P03.onesum_fold ⟨rfl⟩ n a b) m W h0 h1) 3 (Nat.le_refl _) a l c w bs hs)

theorem ok0 : EnvOk Try.prog nm E0 := by
  intro f n hf af ha
  unfold nm at hf
  split at hf
  · injection hf with hf
    subst hf
    have e : some _ = some af := ha
    injection e with e
    subst e
    exact .inl ⟨_, Try.func80, c_octet_Get⟩
  · injection hf with hf
    subst hf
    have e : some _ = some af := ha
    injection e with e
    subst e
    exact .inl ⟨_, Try.func27, c_ref01_SameBytes⟩
  · injection hf with hf
    subst hf
    have e : some _ = some af := ha
    injection e with e
    subst e
    exact .inl ⟨_, Try.func76, c_ref01_Join⟩
  · injection hf with hf
    subst hf
    have e : some _ = some af := ha
    injection e with e
    subst e
    exact .inl ⟨_, Try.func78, c_octet_Put⟩
  · injection hf with hf
    subst hf
    have e : some _ = some af := ha
    injection e with e
    subst e
    exact .inl ⟨_, Try.func82, c_octet_Bits⟩
  · injection hf with hf
    subst hf
    have e : some _ = some af := ha
    injection e with e
    subst e
    exact .inl ⟨_, Try.func116, c_octet_SetBits⟩
  · injection hf with hf
    subst hf
    have e : some _ = some af := ha
    injection e with e
    subst e
    exact .inl ⟨_, Try.func115, c_octet_spans⟩
  · injection hf with hf
    subst hf
    have e : some _ = some af := ha
    injection e with e
    subst e
    exact .inl ⟨_, Try.func117, c_octet_inside⟩
  · injection hf with hf
    subst hf
    have e : some _ = some af := ha
    injection e with e
    subst e
    exact .inl ⟨_, Try.func118, c_octet_mask⟩
  · injection hf with hf
    subst hf
    have e : some _ = some af := ha
    injection e with e
    subst e
    exact .inl ⟨_, Try.func111, c_ports_Least⟩
  · injection hf with hf
    subst hf
    have e : some _ = some af := ha
    injection e with e
    subst e
    exact .inl ⟨_, Try.func113, c_ref13_Least⟩
  · injection hf with hf
    subst hf
    have e : some _ = some af := ha
    injection e with e
    subst e
    exact .inl ⟨_, Try.func135, c_onesum_fold⟩
  · injection hf with hf
    subst hf
    have e : some _ = some af := ha
    injection e with e
    subst e
    exact .inl ⟨_, Try.func75, c_ref03_Sum⟩
  · injection hf with hf
    subst hf
    have e : some _ = some af := ha
    injection e with e
    subst e
    exact .inl ⟨_, Try.func110, c_onesum_Check⟩
  · injection hf with hf
    subst hf
    have e : some _ = some af := ha
    injection e with e
    subst e
    exact .inl ⟨_, Try.func70, c_onesum_Good⟩
  · injection hf with hf
    subst hf
    have e : some _ = some af := ha
    injection e with e
    subst e
    exact .inl ⟨_, Try.func112, c_onesum_Add⟩
  · injection hf with hf
    subst hf
    have e : some _ = some af := ha
    injection e with e
    subst e
    exact .inl ⟨_, Try.func71, c_onesum_Fill⟩
  · injection hf with hf
    subst hf
    have e : some _ = some af := ha
    injection e with e
    subst e
    exact .inl ⟨_, Try.func114, c_ref03_rest⟩
  · injection hf with hf
    subst hf
    have e : some (AFun.prim sumA) = some af := ha
    injection e with e
    subst e
    exact .inr ⟨_, rfl, sum_ok⟩
  · injection hf with hf
    subst hf
    have e : some _ = some af := ha
    injection e with e
    subst e
    exact .inl ⟨_, Try.func4, c_law13_PortsSums⟩
  · injection hf with hf
    subst hf
    have e : some _ = some af := ha
    injection e with e
    subst e
    exact .inl ⟨_, Try.func6, c_law13_PortsSeals⟩
  · injection hf with hf
    subst hf
    have e : some _ = some af := ha
    injection e with e
    subst e
    exact .inl ⟨_, Try.func22, c_ports_Sum⟩
  · injection hf with hf
    subst hf
    have e : some _ = some af := ha
    injection e with e
    subst e
    exact .inl ⟨_, Try.func23, c_ref13_Sum⟩
  · injection hf with hf
    subst hf
    have e : some _ = some af := ha
    injection e with e
    subst e
    exact .inl ⟨_, Try.func24, c_ports_Seal⟩
  · injection hf with hf
    subst hf
    have e : some _ = some af := ha
    injection e with e
    subst e
    exact .inl ⟨_, Try.func25, c_ref13_Seal⟩
  · injection hf with hf
    subst hf
    have e : some _ = some af := ha
    injection e with e
    subst e
    exact .inl ⟨_, Try.func26, c_law13_sure⟩
  · injection hf with hf
    subst hf
    have e : some _ = some af := ha
    injection e with e
    subst e
    exact .inl ⟨_, Try.func72, c_ports_check⟩
  · injection hf with hf
    subst hf
    have e : some _ = some af := ha
    injection e with e
    subst e
    exact .inl ⟨_, Try.func73, c_ports_total⟩
  · injection hf with hf
    subst hf
    have e : some _ = some af := ha
    injection e with e
    subst e
    exact .inl ⟨_, Try.func74, c_ref13_wrong⟩
  · injection hf with hf
    subst hf
    have e : some _ = some af := ha
    injection e with e
    subst e
    exact .inl ⟨_, Try.func77, c_ref13_ahead⟩
  · cases hf

theorem dynT : DynTab Try.prog nm tbl := by
  intro e he
  simp only [tbl, List.mem_cons, List.not_mem_nil, or_false] at he
  try exact he.elim

theorem ro0 : EnvRo E0 := by
  intro n g hg
  unfold E0 at hg
  split at hg <;> first | (cases hg; done) | (injection hg with hg; injection hg with hg; subst hg; exact fun args h v h2 hx => sumA_ro hx)

theorem calls0 : CallsOk Try.prog nm (callA E0) := calls_sound mixed ok0 (.inr ⟨_, rfl, dynT⟩) ro0

theorem run_law13_sure : aloneE E0 4000 [(.tmp 0)] law13_sure_B.erase true = true := by kernel_rfl
theorem alone_law13_sure : ∀ args h v h', alone true args h = some (v, h') → CallOk Try.prog 26 args h v h' := by
  obtain ⟨h1, hx⟩ := aloneE_ok (E := E0) (f := "law13.sure") rfl run_law13_sure
  exact alone_ok (calls0.1 _ _ _ _ _ hx 26 rfl)

/-- The environment: the functions that answer true alone stand for themselves. -/
def E : Env := fun s => match s with
  | "law01.OctetGets" => some (.code [(.tmp 6)] law01_OctetGets_B.erase)
  | "law01.OctetPuts" => some (.code [(.tmp 6)] law01_OctetPuts_B.erase)
  | "law01.OctetBits" => some (.code [(.tmp 6)] law01_OctetBits_B.erase)
  | "law01.OctetHex" => some (.code [(.tmp 4)] law01_OctetHex_B.erase)
  | "law01.OctetBack" => some (.code [(.tmp 6)] law01_OctetBack_B.erase)
  | "octet.Get" => some (.code [(.tmp 6), (.tmp 7)] octet_Get_B.erase)
  | "ref01.Get" => some (.code [(.tmp 6), (.tmp 7)] ref01_Get_B.erase)
  | "octet.Cut" => some (.code [(.tmp 6), (.tmp 7)] octet_Cut_B.erase)
  | "ref01.Cut" => some (.code [(.tmp 6), (.tmp 7)] ref01_Cut_B.erase)
  | "law01.live" => some (.prim (alone true))
  | "ref01.SameBytes" => some (.code [(.tmp 4)] ref01_SameBytes_B.erase)
  | "ref01.Join" => some (.code [(.tmp 2)] ref01_Join_B.erase)
  | "octet.Put" => some (.code [(.tmp 8), (.tmp 9)] octet_Put_B.erase)
  | "ref01.Put" => some (.code [(.tmp 8), (.tmp 9)] ref01_Put_B.erase)
  | "octet.Bits" => some (.code [(.tmp 6)] octet_Bits_B.erase)
  | "ref01.Bits" => some (.code [(.tmp 6)] ref01_Bits_B.erase)
  | "octet.SetBits" => some (.code [(.tmp 8)] octet_SetBits_B.erase)
  | "ref01.SetBits" => some (.code [(.tmp 8)] ref01_SetBits_B.erase)
  | "octet.Hex" => some (.code [(.tmp 2)] octet_Hex_B.erase)
  | "ref01.Hex" => some (.code [(.tmp 2)] ref01_Hex_B.erase)
  | "octet.Unhex" => some (.code [(.tmp 2), (.cell 3 (some 2))] octet_Unhex_B.erase)
  | "ref01.Unhex" => some (.code [(.tmp 2), (.cell 3 (some 2))] ref01_Unhex_B.erase)
  | "octet.spans" => some (.code [(.tmp 6)] octet_spans_B.erase)
  | "ref01.place" => some (.code [(.tmp 6)] ref01_place_B.erase)
  | "ref01.fits" => some (.code [(.tmp 4)] ref01_fits_B.erase)
  | "octet.inside" => some (.code [(.tmp 4)] octet_inside_B.erase)
  | "octet.mask" => some (.code [(.tmp 2)] octet_mask_B.erase)
  | "ref01.are" => some (.code [(.tmp 4)] ref01_are_B.erase)
  | "ref01.bit" => some (.code [(.tmp 4)] ref01_bit_B.erase)
  | "octet.nibble" => some (.code [(.tmp 2), (.tmp 3)] octet_nibble_B.erase)
  | "ref01.digit" => some (.code [(.tmp 2)] ref01_digit_B.erase)
  | "law13.PortsReads" => some (.code [(.tmp 6)] law13_PortsReads_B.erase)
  | "law13.PortsWrites" => some (.code [(.tmp 6)] law13_PortsWrites_B.erase)
  | "law13.PortsBack" => some (.code [(.tmp 6)] law13_PortsBack_B.erase)
  | "ports.Read" => some (.code [(.tmp 6), (.tmp 7), (.tmp 8)] ports_Read_B.erase)
  | "ref13.Read" => some (.code [(.tmp 6), (.tmp 7), (.tmp 8)] ref13_Read_B.erase)
  | "law13.live" => some (.prim (alone true))
  | "ports.Least" => some (.code [(.tmp 2)] ports_Least_B.erase)
  | "ref13.Least" => some (.code [(.tmp 2)] ref13_Least_B.erase)
  | "ports.Write" => some (.code [(.tmp 8), (.tmp 9)] ports_Write_B.erase)
  | "ref13.Write" => some (.code [(.tmp 8), (.tmp 9)] ref13_Write_B.erase)
  | "ports.sound" => some (.code [(.tmp 6)] ports_sound_B.erase)
  | "ports.field" => some (.code [(.tmp 4)] ports_field_B.erase)
  | "ref13.two" => some (.code [(.tmp 4)] ref13_two_B.erase)
  | "onesum.fold" => some (.code [(.tmp 2)] onesum_fold_B.erase)
  | "law03.OnesumSums" => some (.code [(.tmp 4)] law03_OnesumSums_B.erase)
  | "law03.OnesumJoins" => some (.code [(.tmp 6)] law03_OnesumJoins_B.erase)
  | "law03.OnesumFills" => some (.code [(.tmp 4)] law03_OnesumFills_B.erase)
  | "law03.OnesumFinds" => some (.code [(.tmp 6)] law03_OnesumFinds_B.erase)
  | "law03.live" => some (.prim (alone true))
  | "ref03.Sum" => some (.code [(.tmp 2)] ref03_Sum_B.erase)
  | "onesum.Check" => some (.code [(.tmp 2)] onesum_Check_B.erase)
  | "ref03.Check" => some (.code [(.tmp 2)] ref03_Check_B.erase)
  | "onesum.Good" => some (.code [(.tmp 2)] onesum_Good_B.erase)
  | "ref03.Good" => some (.code [(.tmp 2)] ref03_Good_B.erase)
  | "onesum.Add" => some (.code [(.tmp 4)] onesum_Add_B.erase)
  | "ref03.Add" => some (.code [(.tmp 4)] ref03_Add_B.erase)
  | "onesum.Swap" => some (.code [(.tmp 2)] onesum_Swap_B.erase)
  | "ref03.Swap" => some (.code [(.tmp 2)] ref03_Swap_B.erase)
  | "onesum.Join" => some (.code [(.tmp 6)] onesum_Join_B.erase)
  | "ref03.Join" => some (.code [(.tmp 6)] ref03_Join_B.erase)
  | "onesum.Fill" => some (.code [(.tmp 4), (.tmp 5)] onesum_Fill_B.erase)
  | "ref03.Fill" => some (.code [(.tmp 4), (.tmp 5)] ref03_Fill_B.erase)
  | "ref03.rest" => some (.code [(.tmp 2)] ref03_rest_B.erase)
  | "onesum.Sum" => some (.prim sumA)
  | "law13.PortsSums" => some (.code [(.tmp 4)] law13_PortsSums_B.erase)
  | "law13.PortsSeals" => some (.code [(.tmp 4)] law13_PortsSeals_B.erase)
  | "ports.Sum" => some (.code [(.tmp 4), (.tmp 5)] ports_Sum_B.erase)
  | "ref13.Sum" => some (.code [(.tmp 4), (.tmp 5)] ref13_Sum_B.erase)
  | "ports.Seal" => some (.code [(.tmp 4), (.tmp 5)] ports_Seal_B.erase)
  | "ref13.Seal" => some (.code [(.tmp 4), (.tmp 5)] ref13_Seal_B.erase)
  | "law13.sure" => some (.prim (alone true))
  | "ports.check" => some (.code [(.tmp 4)] ports_check_B.erase)
  | "ports.total" => some (.code [(.tmp 4)] ports_total_B.erase)
  | "ref13.wrong" => some (.code [(.tmp 4)] ref13_wrong_B.erase)
  | "ref13.ahead" => some (.code [(.tmp 4)] ref13_ahead_B.erase)
  | "@dyn" => some (.dyn tbl)
  | _ => none

theorem ok1 : EnvOk Try.prog nm E := by
  intro f n hf af ha
  unfold nm at hf
  split at hf
  · injection hf with hf
    subst hf
    have e : some _ = some af := ha
    injection e with e
    subst e
    exact .inl ⟨_, Try.func80, c_octet_Get⟩
  · injection hf with hf
    subst hf
    have e : some _ = some af := ha
    injection e with e
    subst e
    exact .inl ⟨_, Try.func27, c_ref01_SameBytes⟩
  · injection hf with hf
    subst hf
    have e : some _ = some af := ha
    injection e with e
    subst e
    exact .inl ⟨_, Try.func76, c_ref01_Join⟩
  · injection hf with hf
    subst hf
    have e : some _ = some af := ha
    injection e with e
    subst e
    exact .inl ⟨_, Try.func78, c_octet_Put⟩
  · injection hf with hf
    subst hf
    have e : some _ = some af := ha
    injection e with e
    subst e
    exact .inl ⟨_, Try.func82, c_octet_Bits⟩
  · injection hf with hf
    subst hf
    have e : some _ = some af := ha
    injection e with e
    subst e
    exact .inl ⟨_, Try.func116, c_octet_SetBits⟩
  · injection hf with hf
    subst hf
    have e : some _ = some af := ha
    injection e with e
    subst e
    exact .inl ⟨_, Try.func115, c_octet_spans⟩
  · injection hf with hf
    subst hf
    have e : some _ = some af := ha
    injection e with e
    subst e
    exact .inl ⟨_, Try.func117, c_octet_inside⟩
  · injection hf with hf
    subst hf
    have e : some _ = some af := ha
    injection e with e
    subst e
    exact .inl ⟨_, Try.func118, c_octet_mask⟩
  · injection hf with hf
    subst hf
    have e : some _ = some af := ha
    injection e with e
    subst e
    exact .inl ⟨_, Try.func111, c_ports_Least⟩
  · injection hf with hf
    subst hf
    have e : some _ = some af := ha
    injection e with e
    subst e
    exact .inl ⟨_, Try.func113, c_ref13_Least⟩
  · injection hf with hf
    subst hf
    have e : some _ = some af := ha
    injection e with e
    subst e
    exact .inl ⟨_, Try.func135, c_onesum_fold⟩
  · injection hf with hf
    subst hf
    have e : some _ = some af := ha
    injection e with e
    subst e
    exact .inl ⟨_, Try.func75, c_ref03_Sum⟩
  · injection hf with hf
    subst hf
    have e : some _ = some af := ha
    injection e with e
    subst e
    exact .inl ⟨_, Try.func110, c_onesum_Check⟩
  · injection hf with hf
    subst hf
    have e : some _ = some af := ha
    injection e with e
    subst e
    exact .inl ⟨_, Try.func70, c_onesum_Good⟩
  · injection hf with hf
    subst hf
    have e : some _ = some af := ha
    injection e with e
    subst e
    exact .inl ⟨_, Try.func112, c_onesum_Add⟩
  · injection hf with hf
    subst hf
    have e : some _ = some af := ha
    injection e with e
    subst e
    exact .inl ⟨_, Try.func71, c_onesum_Fill⟩
  · injection hf with hf
    subst hf
    have e : some _ = some af := ha
    injection e with e
    subst e
    exact .inl ⟨_, Try.func114, c_ref03_rest⟩
  · injection hf with hf
    subst hf
    have e : some (AFun.prim sumA) = some af := ha
    injection e with e
    subst e
    exact .inr ⟨_, rfl, sum_ok⟩
  · injection hf with hf
    subst hf
    have e : some _ = some af := ha
    injection e with e
    subst e
    exact .inl ⟨_, Try.func4, c_law13_PortsSums⟩
  · injection hf with hf
    subst hf
    have e : some _ = some af := ha
    injection e with e
    subst e
    exact .inl ⟨_, Try.func6, c_law13_PortsSeals⟩
  · injection hf with hf
    subst hf
    have e : some _ = some af := ha
    injection e with e
    subst e
    exact .inl ⟨_, Try.func22, c_ports_Sum⟩
  · injection hf with hf
    subst hf
    have e : some _ = some af := ha
    injection e with e
    subst e
    exact .inl ⟨_, Try.func23, c_ref13_Sum⟩
  · injection hf with hf
    subst hf
    have e : some _ = some af := ha
    injection e with e
    subst e
    exact .inl ⟨_, Try.func24, c_ports_Seal⟩
  · injection hf with hf
    subst hf
    have e : some _ = some af := ha
    injection e with e
    subst e
    exact .inl ⟨_, Try.func25, c_ref13_Seal⟩
  · injection hf with hf
    subst hf
    have e : some (AFun.prim (alone true)) = some af := ha
    injection e with e
    subst e
    exact .inr ⟨_, rfl, alone_law13_sure⟩
  · injection hf with hf
    subst hf
    have e : some _ = some af := ha
    injection e with e
    subst e
    exact .inl ⟨_, Try.func72, c_ports_check⟩
  · injection hf with hf
    subst hf
    have e : some _ = some af := ha
    injection e with e
    subst e
    exact .inl ⟨_, Try.func73, c_ports_total⟩
  · injection hf with hf
    subst hf
    have e : some _ = some af := ha
    injection e with e
    subst e
    exact .inl ⟨_, Try.func74, c_ref13_wrong⟩
  · injection hf with hf
    subst hf
    have e : some _ = some af := ha
    injection e with e
    subst e
    exact .inl ⟨_, Try.func77, c_ref13_ahead⟩
  · cases hf

theorem ro1 : EnvRo E := by
  intro n g hg
  unfold E at hg
  split at hg <;> first | (cases hg; done) | (injection hg with hg; injection hg with hg; subst hg; first | exact fun args h v h2 hx => alone_ro hx | exact fun args h v h2 hx => sumA_ro hx)

theorem calls1 : CallsOk Try.prog nm (callA E) := calls_sound mixed ok1 (.inr ⟨_, rfl, dynT⟩) ro1

def EW : EnvW := EnvW.mk (fun s => match s with
    | "law01.OctetGets" => some law01_OctetGets
    | "law01.OctetPuts" => some law01_OctetPuts
    | "law01.OctetBits" => some law01_OctetBits
    | "law01.OctetHex" => some law01_OctetHex
    | "law01.OctetBack" => some law01_OctetBack
    | "octet.Get" => some octet_Get
    | "ref01.Get" => some ref01_Get
    | "octet.Cut" => some octet_Cut
    | "ref01.Cut" => some ref01_Cut
    | "law01.live" => some (.prim aloneT)
    | "ref01.SameBytes" => some ref01_SameBytes
    | "ref01.Join" => some ref01_Join
    | "octet.Put" => some octet_Put
    | "ref01.Put" => some ref01_Put
    | "octet.Bits" => some octet_Bits
    | "ref01.Bits" => some ref01_Bits
    | "octet.SetBits" => some octet_SetBits
    | "ref01.SetBits" => some ref01_SetBits
    | "octet.Hex" => some octet_Hex
    | "ref01.Hex" => some ref01_Hex
    | "octet.Unhex" => some octet_Unhex
    | "ref01.Unhex" => some ref01_Unhex
    | "octet.spans" => some octet_spans
    | "ref01.place" => some ref01_place
    | "ref01.fits" => some ref01_fits
    | "octet.inside" => some octet_inside
    | "octet.mask" => some octet_mask
    | "ref01.are" => some ref01_are
    | "ref01.bit" => some ref01_bit
    | "octet.nibble" => some octet_nibble
    | "ref01.digit" => some ref01_digit
    | "law13.PortsReads" => some law13_PortsReads
    | "law13.PortsWrites" => some law13_PortsWrites
    | "law13.PortsBack" => some law13_PortsBack
    | "ports.Read" => some ports_Read
    | "ref13.Read" => some ref13_Read
    | "law13.live" => some (.prim aloneT)
    | "ports.Least" => some ports_Least
    | "ref13.Least" => some ref13_Least
    | "ports.Write" => some ports_Write
    | "ref13.Write" => some ref13_Write
    | "ports.sound" => some ports_sound
    | "ports.field" => some ports_field
    | "ref13.two" => some ref13_two
    | "onesum.fold" => some onesum_fold
    | "law03.OnesumSums" => some law03_OnesumSums
    | "law03.OnesumJoins" => some law03_OnesumJoins
    | "law03.OnesumFills" => some law03_OnesumFills
    | "law03.OnesumFinds" => some law03_OnesumFinds
    | "law03.live" => some (.prim aloneT)
    | "ref03.Sum" => some ref03_Sum
    | "onesum.Check" => some onesum_Check
    | "ref03.Check" => some ref03_Check
    | "onesum.Good" => some onesum_Good
    | "ref03.Good" => some ref03_Good
    | "onesum.Add" => some onesum_Add
    | "ref03.Add" => some ref03_Add
    | "onesum.Swap" => some onesum_Swap
    | "ref03.Swap" => some ref03_Swap
    | "onesum.Join" => some onesum_Join
    | "ref03.Join" => some ref03_Join
    | "onesum.Fill" => some onesum_Fill
    | "ref03.Fill" => some ref03_Fill
    | "ref03.rest" => some ref03_rest
    | "onesum.Sum" => some (.prim sumW)
    | "law13.PortsSums" => some law13_PortsSums
    | "law13.PortsSeals" => some law13_PortsSeals
    | "ports.Sum" => some ports_Sum
    | "ref13.Sum" => some ref13_Sum
    | "ports.Seal" => some ports_Seal
    | "ref13.Seal" => some ref13_Seal
    | "law13.sure" => some (.prim aloneT)
    | "ports.check" => some ports_check
    | "ports.total" => some ports_total
    | "ref13.wrong" => some ref13_wrong
    | "ref13.ahead" => some ref13_ahead
    | _ => none) tbl

theorem sim : EnvSim EW E := by
  refine ⟨rfl, fun f wf hf => ?_⟩
  simp only [EW] at hf
  split at hf
  · injection hf with hf; subst hf; exact .inl ⟨_, _, rfl, rfl⟩
  · injection hf with hf; subst hf; exact .inl ⟨_, _, rfl, rfl⟩
  · injection hf with hf; subst hf; exact .inl ⟨_, _, rfl, rfl⟩
  · injection hf with hf; subst hf; exact .inl ⟨_, _, rfl, rfl⟩
  · injection hf with hf; subst hf; exact .inl ⟨_, _, rfl, rfl⟩
  · injection hf with hf; subst hf; exact .inl ⟨_, _, rfl, rfl⟩
  · injection hf with hf; subst hf; exact .inl ⟨_, _, rfl, rfl⟩
  · injection hf with hf; subst hf; exact .inl ⟨_, _, rfl, rfl⟩
  · injection hf with hf; subst hf; exact .inl ⟨_, _, rfl, rfl⟩
  · injection hf with hf; subst hf; exact .inr ⟨_, rfl, alone_sim rfl⟩
  · injection hf with hf; subst hf; exact .inl ⟨_, _, rfl, rfl⟩
  · injection hf with hf; subst hf; exact .inl ⟨_, _, rfl, rfl⟩
  · injection hf with hf; subst hf; exact .inl ⟨_, _, rfl, rfl⟩
  · injection hf with hf; subst hf; exact .inl ⟨_, _, rfl, rfl⟩
  · injection hf with hf; subst hf; exact .inl ⟨_, _, rfl, rfl⟩
  · injection hf with hf; subst hf; exact .inl ⟨_, _, rfl, rfl⟩
  · injection hf with hf; subst hf; exact .inl ⟨_, _, rfl, rfl⟩
  · injection hf with hf; subst hf; exact .inl ⟨_, _, rfl, rfl⟩
  · injection hf with hf; subst hf; exact .inl ⟨_, _, rfl, rfl⟩
  · injection hf with hf; subst hf; exact .inl ⟨_, _, rfl, rfl⟩
  · injection hf with hf; subst hf; exact .inl ⟨_, _, rfl, rfl⟩
  · injection hf with hf; subst hf; exact .inl ⟨_, _, rfl, rfl⟩
  · injection hf with hf; subst hf; exact .inl ⟨_, _, rfl, rfl⟩
  · injection hf with hf; subst hf; exact .inl ⟨_, _, rfl, rfl⟩
  · injection hf with hf; subst hf; exact .inl ⟨_, _, rfl, rfl⟩
  · injection hf with hf; subst hf; exact .inl ⟨_, _, rfl, rfl⟩
  · injection hf with hf; subst hf; exact .inl ⟨_, _, rfl, rfl⟩
  · injection hf with hf; subst hf; exact .inl ⟨_, _, rfl, rfl⟩
  · injection hf with hf; subst hf; exact .inl ⟨_, _, rfl, rfl⟩
  · injection hf with hf; subst hf; exact .inl ⟨_, _, rfl, rfl⟩
  · injection hf with hf; subst hf; exact .inl ⟨_, _, rfl, rfl⟩
  · injection hf with hf; subst hf; exact .inl ⟨_, _, rfl, rfl⟩
  · injection hf with hf; subst hf; exact .inl ⟨_, _, rfl, rfl⟩
  · injection hf with hf; subst hf; exact .inl ⟨_, _, rfl, rfl⟩
  · injection hf with hf; subst hf; exact .inl ⟨_, _, rfl, rfl⟩
  · injection hf with hf; subst hf; exact .inl ⟨_, _, rfl, rfl⟩
  · injection hf with hf; subst hf; exact .inr ⟨_, rfl, alone_sim rfl⟩
  · injection hf with hf; subst hf; exact .inl ⟨_, _, rfl, rfl⟩
  · injection hf with hf; subst hf; exact .inl ⟨_, _, rfl, rfl⟩
  · injection hf with hf; subst hf; exact .inl ⟨_, _, rfl, rfl⟩
  · injection hf with hf; subst hf; exact .inl ⟨_, _, rfl, rfl⟩
  · injection hf with hf; subst hf; exact .inl ⟨_, _, rfl, rfl⟩
  · injection hf with hf; subst hf; exact .inl ⟨_, _, rfl, rfl⟩
  · injection hf with hf; subst hf; exact .inl ⟨_, _, rfl, rfl⟩
  · injection hf with hf; subst hf; exact .inl ⟨_, _, rfl, rfl⟩
  · injection hf with hf; subst hf; exact .inl ⟨_, _, rfl, rfl⟩
  · injection hf with hf; subst hf; exact .inl ⟨_, _, rfl, rfl⟩
  · injection hf with hf; subst hf; exact .inl ⟨_, _, rfl, rfl⟩
  · injection hf with hf; subst hf; exact .inl ⟨_, _, rfl, rfl⟩
  · injection hf with hf; subst hf; exact .inr ⟨_, rfl, alone_sim rfl⟩
  · injection hf with hf; subst hf; exact .inl ⟨_, _, rfl, rfl⟩
  · injection hf with hf; subst hf; exact .inl ⟨_, _, rfl, rfl⟩
  · injection hf with hf; subst hf; exact .inl ⟨_, _, rfl, rfl⟩
  · injection hf with hf; subst hf; exact .inl ⟨_, _, rfl, rfl⟩
  · injection hf with hf; subst hf; exact .inl ⟨_, _, rfl, rfl⟩
  · injection hf with hf; subst hf; exact .inl ⟨_, _, rfl, rfl⟩
  · injection hf with hf; subst hf; exact .inl ⟨_, _, rfl, rfl⟩
  · injection hf with hf; subst hf; exact .inl ⟨_, _, rfl, rfl⟩
  · injection hf with hf; subst hf; exact .inl ⟨_, _, rfl, rfl⟩
  · injection hf with hf; subst hf; exact .inl ⟨_, _, rfl, rfl⟩
  · injection hf with hf; subst hf; exact .inl ⟨_, _, rfl, rfl⟩
  · injection hf with hf; subst hf; exact .inl ⟨_, _, rfl, rfl⟩
  · injection hf with hf; subst hf; exact .inl ⟨_, _, rfl, rfl⟩
  · injection hf with hf; subst hf; exact .inl ⟨_, _, rfl, rfl⟩
  · injection hf with hf; subst hf; exact .inr ⟨_, rfl, sum_sim rfl⟩
  · injection hf with hf; subst hf; exact .inl ⟨_, _, rfl, rfl⟩
  · injection hf with hf; subst hf; exact .inl ⟨_, _, rfl, rfl⟩
  · injection hf with hf; subst hf; exact .inl ⟨_, _, rfl, rfl⟩
  · injection hf with hf; subst hf; exact .inl ⟨_, _, rfl, rfl⟩
  · injection hf with hf; subst hf; exact .inl ⟨_, _, rfl, rfl⟩
  · injection hf with hf; subst hf; exact .inl ⟨_, _, rfl, rfl⟩
  · injection hf with hf; subst hf; exact .inr ⟨_, rfl, alone_sim rfl⟩
  · injection hf with hf; subst hf; exact .inl ⟨_, _, rfl, rfl⟩
  · injection hf with hf; subst hf; exact .inl ⟨_, _, rfl, rfl⟩
  · injection hf with hf; subst hf; exact .inl ⟨_, _, rfl, rfl⟩
  · injection hf with hf; subst hf; exact .inl ⟨_, _, rfl, rfl⟩
  · cases hf

theorem own : ownKnob Try.prog.godebug = none := by kernel_rfl
theorem laidOut : laidOutB Try.prog = true := by kernel_rfl

mutual
theorem bulk_eq {H : Type} : ∀ d : DataW H, Rows.uptoBulk d = bulkW d
  | .lit l => by cases l <;> rfl
  | .nil => rfl
  | .ptr d => by simp only [Rows.uptoBulk, bulkW, bulk_eq d]
  | .slice a b => by simp only [Rows.uptoBulk, bulkW, bulk_eqs a, bulk_eqs b]
  | .agg a => by simp only [Rows.uptoBulk, bulkW, bulk_eqs a]
  | .iface _ d => by simp only [Rows.uptoBulk, bulkW, bulk_eq d]
  | .map a => by simp only [Rows.uptoBulk, bulkW, bulk_eqe a]
  | .held _ => rfl
theorem bulk_eqs {H : Type} : ∀ l : List (DataW H), Rows.uptoBulkAll l = bulkWs l
  | [] => rfl
  | d :: r => by simp only [Rows.uptoBulkAll, bulkWs, bulk_eq d, bulk_eqs r]
theorem bulk_eqe {H : Type} : ∀ l : List (Lit × DataW H), Rows.uptoBulkEntries l = bulkWe l
  | [] => rfl
  | d :: r => by simp only [Rows.uptoBulkEntries, bulkWe, bulk_eqx d, bulk_eqe r]
theorem bulk_eqx {H : Type} : ∀ x : Lit × DataW H, Rows.uptoBulkEntry x = bulkWx x
  | (l, d) => by cases l <;> simp only [Rows.uptoBulkEntry, bulkWx, bulk_eq d]
end

theorem bulk_small {H : Type} {l : List (DataW H)} (hk : Rows.uptoSmall H l = true) : bulkWs l ≤ 1048576 := by
  have h : Rows.uptoBulkAll l ≤ 1048576 := of_decide_eq_true hk
  rw [bulk_eqs] at h
  exact h

theorem env_WbvC01 : WbvC01Env EW := ⟨rfl, rfl, rfl, rfl, rfl, rfl, rfl, rfl, rfl, rfl, rfl, rfl, rfl, rfl, rfl, rfl, rfl, rfl, rfl, rfl, rfl, rfl, rfl, rfl, rfl, rfl, rfl, rfl, rfl, rfl, rfl⟩

theorem env_WbvC13 : WbvC13Env EW := ⟨rfl, rfl, rfl, rfl, rfl, rfl, rfl, rfl, rfl, rfl, rfl, rfl, rfl⟩

theorem env_WbvC03f : WbvC03fEnv EW := ⟨rfl⟩

theorem env_WbvC03 : WbvC03Env EW := ⟨rfl, rfl, rfl, rfl, rfl, rfl, rfl, rfl, rfl, rfl, rfl, rfl, rfl, rfl, rfl, rfl, rfl, rfl, rfl, rfl⟩

theorem env_WbvC13b : WbvC13bEnv EW := ⟨rfl, rfl, rfl, rfl, rfl, rfl, rfl, rfl, rfl, rfl, rfl⟩

end Go.Proofs.Ytlbekhmgpfbgnaa.Wb

/- The functions of this seat's program, as both machines have them: their names, their code, and that it is their code. -/
import Derived.Test.YtihcipgcknjkbaaRows
import Derived.Test.YtihcipgcknjkbaaWbA6
import Derived.JoinedCond
import Derived.Deep.CondSized
import Derived.Test.YtihcipgcknjkbaaWbvC01
import Derived.Test.YtihcipgcknjkbaaWbvC03f
import Derived.Test.YtihcipgcknjkbaaWbvC03
import Derived.Test.YtihcipgcknjkbaaWbvC04
import Derived.Test.YtihcipgcknjkbaaWbSum
import Derived.Test.YtihcipgcknjkbaaWbvP03f
set_option maxRecDepth 100000
set_option linter.all false
namespace Go.Proofs.Ytihcipgcknjkbaa.Wb
open Go Go.Wb Go.Wb.Code

def nm : Names := fun f => match f with
  | 4 => some "law01.OctetGets"
  | 5 => some "law01.OctetPuts"
  | 6 => some "law01.OctetBits"
  | 7 => some "law01.OctetHex"
  | 8 => some "law01.OctetBack"
  | 20 => some "octet.Get"
  | 21 => some "ref01.Get"
  | 22 => some "octet.Cut"
  | 23 => some "ref01.Cut"
  | 24 => some "law01.live"
  | 25 => some "ref01.SameBytes"
  | 26 => some "ref01.Join"
  | 27 => some "octet.Put"
  | 28 => some "ref01.Put"
  | 29 => some "octet.Bits"
  | 30 => some "ref01.Bits"
  | 31 => some "octet.SetBits"
  | 32 => some "ref01.SetBits"
  | 33 => some "octet.Hex"
  | 34 => some "ref01.Hex"
  | 35 => some "octet.Unhex"
  | 36 => some "ref01.Unhex"
  | 52 => some "octet.spans"
  | 53 => some "ref01.place"
  | 54 => some "ref01.fits"
  | 55 => some "octet.inside"
  | 56 => some "octet.mask"
  | 57 => some "ref01.are"
  | 58 => some "ref01.bit"
  | 59 => some "octet.nibble"
  | 60 => some "ref01.digit"
  | 70 => some "onesum.fold"
  | 64 => some "onesum.Check"
  | 47 => some "onesum.Good"
  | 67 => some "onesum.Add"
  | 62 => some "ref03.Add"
  | 46 => some "onesum.Fill"
  | 68 => some "ref03.rest"
  | 65 => some "onesum.Sum"
  | 9 => some "law04.AdjustWords"
  | 10 => some "law04.AdjustAts"
  | 11 => some "law04.AdjustBack"
  | 12 => some "law04.AdjustFresh"
  | 37 => some "adjust.Words"
  | 38 => some "ref04.Words"
  | 39 => some "adjust.Clean"
  | 40 => some "ref04.Clean"
  | 41 => some "adjust.Word"
  | 42 => some "ref04.Word"
  | 43 => some "law04.live"
  | 44 => some "adjust.At"
  | 45 => some "ref04.At"
  | 61 => some "adjust.added"
  | 63 => some "adjust.even"
  | _ => none

def tbl : List (Nat × String) := []

def E0 : Env := fun s => match s with
  | "law01.OctetGets" => some (.code [(.tmp 6)] law01_OctetGets_B.erase)
  | "law01.OctetPuts" => some (.code [(.tmp 6)] law01_OctetPuts_B.erase)
  | "law01.OctetBits" => some (.code [(.tmp 6)] law01_OctetBits_B.erase)
  | "law01.OctetHex" => some (.code [(.tmp 4)] law01_OctetHex_B.erase)
  | "law01.OctetBack" => some (.code [(.tmp 6)] law01_OctetBack_B.erase)
  | "octet.Get" => some (.code [(.tmp 6), (.tmp 7)] octet_Get_B.erase)
  | "ref01.Get" => some (.code [(.tmp 6), (.tmp 7)] ref01_Get_B.erase)
  | "octet.Cut" => some (.code [(.tmp 6), (.tmp 7)] octet_Cut_B.erase)
  | "ref01.Cut" => some (.code [(.tmp 6), (.tmp 7)] ref01_Cut_B.erase)
  | "law01.live" => some (.code [(.tmp 0)] law01_live_B.erase)
  | "ref01.SameBytes" => some (.code [(.tmp 4)] ref01_SameBytes_B.erase)
  | "ref01.Join" => some (.code [(.tmp 2)] ref01_Join_B.erase)
  | "octet.Put" => some (.code [(.tmp 8), (.tmp 9)] octet_Put_B.erase)
  | "ref01.Put" => some (.code [(.tmp 8), (.tmp 9)] ref01_Put_B.erase)
  | "octet.Bits" => some (.code [(.tmp 6)] octet_Bits_B.erase)
  | "ref01.Bits" => some (.code [(.tmp 6)] ref01_Bits_B.erase)
  | "octet.SetBits" => some (.code [(.tmp 8)] octet_SetBits_B.erase)
  | "ref01.SetBits" => some (.code [(.tmp 8)] ref01_SetBits_B.erase)
  | "octet.Hex" => some (.code [(.tmp 2)] octet_Hex_B.erase)
  | "ref01.Hex" => some (.code [(.tmp 2)] ref01_Hex_B.erase)
  | "octet.Unhex" => some (.code [(.tmp 2), (.cell 3 (some 2))] octet_Unhex_B.erase)
  | "ref01.Unhex" => some (.code [(.tmp 2), (.cell 3 (some 2))] ref01_Unhex_B.erase)
  | "octet.spans" => some (.code [(.tmp 6)] octet_spans_B.erase)
  | "ref01.place" => some (.code [(.tmp 6)] ref01_place_B.erase)
  | "ref01.fits" => some (.code [(.tmp 4)] ref01_fits_B.erase)
  | "octet.inside" => some (.code [(.tmp 4)] octet_inside_B.erase)
  | "octet.mask" => some (.code [(.tmp 2)] octet_mask_B.erase)
  | "ref01.are" => some (.code [(.tmp 4)] ref01_are_B.erase)
  | "ref01.bit" => some (.code [(.tmp 4)] ref01_bit_B.erase)
  | "octet.nibble" => some (.code [(.tmp 2), (.tmp 3)] octet_nibble_B.erase)
  | "ref01.digit" => some (.code [(.tmp 2)] ref01_digit_B.erase)
  | "onesum.fold" => some (.code [(.tmp 2)] onesum_fold_B.erase)
  | "law03.OnesumSums" => some (.code [(.tmp 4)] law03_OnesumSums_B.erase)
  | "law03.OnesumJoins" => some (.code [(.tmp 6)] law03_OnesumJoins_B.erase)
  | "law03.OnesumFills" => some (.code [(.tmp 4)] law03_OnesumFills_B.erase)
  | "law03.OnesumFinds" => some (.code [(.tmp 6)] law03_OnesumFinds_B.erase)
  | "law03.live" => some (.code [(.tmp 0)] law03_live_B.erase)
  | "ref03.Sum" => some (.code [(.tmp 2)] ref03_Sum_B.erase)
  | "onesum.Check" => some (.code [(.tmp 2)] onesum_Check_B.erase)
  | "ref03.Check" => some (.code [(.tmp 2)] ref03_Check_B.erase)
  | "onesum.Good" => some (.code [(.tmp 2)] onesum_Good_B.erase)
  | "ref03.Good" => some (.code [(.tmp 2)] ref03_Good_B.erase)
  | "onesum.Add" => some (.code [(.tmp 4)] onesum_Add_B.erase)
  | "ref03.Add" => some (.code [(.tmp 4)] ref03_Add_B.erase)
  | "onesum.Swap" => some (.code [(.tmp 2)] onesum_Swap_B.erase)
  | "ref03.Swap" => some (.code [(.tmp 2)] ref03_Swap_B.erase)
  | "onesum.Join" => some (.code [(.tmp 6)] onesum_Join_B.erase)
  | "ref03.Join" => some (.code [(.tmp 6)] ref03_Join_B.erase)
  | "onesum.Fill" => some (.code [(.tmp 4), (.tmp 5)] onesum_Fill_B.erase)
  | "ref03.Fill" => some (.code [(.tmp 4), (.tmp 5)] ref03_Fill_B.erase)
  | "ref03.rest" => some (.code [(.tmp 2)] ref03_rest_B.erase)
  | "onesum.Sum" => some (.prim sumA)
  | "law04.AdjustWords" => some (.code [(.tmp 6)] law04_AdjustWords_B.erase)
  | "law04.AdjustAts" => some (.code [(.tmp 6)] law04_AdjustAts_B.erase)
  | "law04.AdjustBack" => some (.code [(.tmp 6)] law04_AdjustBack_B.erase)
  | "law04.AdjustFresh" => some (.code [(.tmp 6)] law04_AdjustFresh_B.erase)
  | "adjust.Words" => some (.code [(.tmp 6), (.tmp 7)] adjust_Words_B.erase)
  | "ref04.Words" => some (.code [(.tmp 6), (.tmp 7)] ref04_Words_B.erase)
  | "adjust.Clean" => some (.code [(.tmp 2)] adjust_Clean_B.erase)
  | "ref04.Clean" => some (.code [(.tmp 2)] ref04_Clean_B.erase)
  | "adjust.Word" => some (.code [(.tmp 6)] adjust_Word_B.erase)
  | "ref04.Word" => some (.code [(.tmp 6)] ref04_Word_B.erase)
  | "law04.live" => some (.code [(.tmp 0)] law04_live_B.erase)
  | "adjust.At" => some (.code [(.tmp 8), (.tmp 9)] adjust_At_B.erase)
  | "ref04.At" => some (.code [(.tmp 8), (.tmp 9)] ref04_At_B.erase)
  | "adjust.added" => some (.code [(.tmp 4)] adjust_added_B.erase)
  | "adjust.even" => some (.code [(.tmp 2)] adjust_even_B.erase)
  | "@dyn" => some (.dyn tbl)
  | _ => none

theorem c_law01_OctetGets : compileFun Try.prog nm Try.f4 = some (.code [(.tmp 6)] law01_OctetGets_B.erase) := by kernel_rfl
theorem c_law01_OctetPuts : compileFun Try.prog nm Try.f5 = some (.code [(.tmp 6)] law01_OctetPuts_B.erase) := by kernel_rfl
theorem c_law01_OctetBits : compileFun Try.prog nm Try.f6 = some (.code [(.tmp 6)] law01_OctetBits_B.erase) := by kernel_rfl
theorem c_law01_OctetHex : compileFun Try.prog nm Try.f7 = some (.code [(.tmp 4)] law01_OctetHex_B.erase) := by kernel_rfl
theorem c_law01_OctetBack : compileFun Try.prog nm Try.f8 = some (.code [(.tmp 6)] law01_OctetBack_B.erase) := by kernel_rfl
theorem c_octet_Get : compileFun Try.prog nm Try.f20 = some (.code [(.tmp 6), (.tmp 7)] octet_Get_B.erase) := by kernel_rfl
theorem c_ref01_Get : compileFun Try.prog nm Try.f21 = some (.code [(.tmp 6), (.tmp 7)] ref01_Get_B.erase) := by kernel_rfl
theorem c_octet_Cut : compileFun Try.prog nm Try.f22 = some (.code [(.tmp 6), (.tmp 7)] octet_Cut_B.erase) := by kernel_rfl
theorem c_ref01_Cut : compileFun Try.prog nm Try.f23 = some (.code [(.tmp 6), (.tmp 7)] ref01_Cut_B.erase) := by kernel_rfl
theorem c_law01_live : compileFun Try.prog nm Try.f24 = some (.code [(.tmp 0)] law01_live_B.erase) := by kernel_rfl
theorem c_ref01_SameBytes : compileFun Try.prog nm Try.f25 = some (.code [(.tmp 4)] ref01_SameBytes_B.erase) := by kernel_rfl
theorem c_ref01_Join : compileFun Try.prog nm Try.f26 = some (.code [(.tmp 2)] ref01_Join_B.erase) := by kernel_rfl
theorem c_octet_Put : compileFun Try.prog nm Try.f27 = some (.code [(.tmp 8), (.tmp 9)] octet_Put_B.erase) := by kernel_rfl
theorem c_ref01_Put : compileFun Try.prog nm Try.f28 = some (.code [(.tmp 8), (.tmp 9)] ref01_Put_B.erase) := by kernel_rfl
theorem c_octet_Bits : compileFun Try.prog nm Try.f29 = some (.code [(.tmp 6)] octet_Bits_B.erase) := by kernel_rfl
theorem c_ref01_Bits : compileFun Try.prog nm Try.f30 = some (.code [(.tmp 6)] ref01_Bits_B.erase) := by kernel_rfl
theorem c_octet_SetBits : compileFun Try.prog nm Try.f31 = some (.code [(.tmp 8)] octet_SetBits_B.erase) := by kernel_rfl
theorem c_ref01_SetBits : compileFun Try.prog nm Try.f32 = some (.code [(.tmp 8)] ref01_SetBits_B.erase) := by kernel_rfl
theorem c_octet_Hex : compileFun Try.prog nm Try.f33 = some (.code [(.tmp 2)] octet_Hex_B.erase) := by kernel_rfl
theorem c_ref01_Hex : compileFun Try.prog nm Try.f34 = some (.code [(.tmp 2)] ref01_Hex_B.erase) := by kernel_rfl
theorem c_octet_Unhex : compileFun Try.prog nm Try.f35 = some (.code [(.tmp 2), (.cell 3 (some 2))] octet_Unhex_B.erase) := by kernel_rfl
theorem c_ref01_Unhex : compileFun Try.prog nm Try.f36 = some (.code [(.tmp 2), (.cell 3 (some 2))] ref01_Unhex_B.erase) := by kernel_rfl
theorem c_octet_spans : compileFun Try.prog nm Try.f52 = some (.code [(.tmp 6)] octet_spans_B.erase) := by kernel_rfl
theorem c_ref01_place : compileFun Try.prog nm Try.f53 = some (.code [(.tmp 6)] ref01_place_B.erase) := by kernel_rfl
theorem c_ref01_fits : compileFun Try.prog nm Try.f54 = some (.code [(.tmp 4)] ref01_fits_B.erase) := by kernel_rfl
theorem c_octet_inside : compileFun Try.prog nm Try.f55 = some (.code [(.tmp 4)] octet_inside_B.erase) := by kernel_rfl
theorem c_octet_mask : compileFun Try.prog nm Try.f56 = some (.code [(.tmp 2)] octet_mask_B.erase) := by kernel_rfl
theorem c_ref01_are : compileFun Try.prog nm Try.f57 = some (.code [(.tmp 4)] ref01_are_B.erase) := by kernel_rfl
theorem c_ref01_bit : compileFun Try.prog nm Try.f58 = some (.code [(.tmp 4)] ref01_bit_B.erase) := by kernel_rfl
theorem c_octet_nibble : compileFun Try.prog nm Try.f59 = some (.code [(.tmp 2), (.tmp 3)] octet_nibble_B.erase) := by kernel_rfl
theorem c_ref01_digit : compileFun Try.prog nm Try.f60 = some (.code [(.tmp 2)] ref01_digit_B.erase) := by kernel_rfl
theorem c_onesum_fold : compileFun Try.prog nm Try.f70 = some (.code [(.tmp 2)] onesum_fold_B.erase) := by kernel_rfl
theorem c_onesum_Check : compileFun Try.prog nm Try.f64 = some (.code [(.tmp 2)] onesum_Check_B.erase) := by kernel_rfl
theorem c_onesum_Good : compileFun Try.prog nm Try.f47 = some (.code [(.tmp 2)] onesum_Good_B.erase) := by kernel_rfl
theorem c_onesum_Add : compileFun Try.prog nm Try.f67 = some (.code [(.tmp 4)] onesum_Add_B.erase) := by kernel_rfl
theorem c_ref03_Add : compileFun Try.prog nm Try.f62 = some (.code [(.tmp 4)] ref03_Add_B.erase) := by kernel_rfl
theorem c_onesum_Fill : compileFun Try.prog nm Try.f46 = some (.code [(.tmp 4), (.tmp 5)] onesum_Fill_B.erase) := by kernel_rfl
theorem c_ref03_rest : compileFun Try.prog nm Try.f68 = some (.code [(.tmp 2)] ref03_rest_B.erase) := by kernel_rfl
theorem c_law04_AdjustWords : compileFun Try.prog nm Try.f9 = some (.code [(.tmp 6)] law04_AdjustWords_B.erase) := by kernel_rfl
theorem c_law04_AdjustAts : compileFun Try.prog nm Try.f10 = some (.code [(.tmp 6)] law04_AdjustAts_B.erase) := by kernel_rfl
theorem c_law04_AdjustBack : compileFun Try.prog nm Try.f11 = some (.code [(.tmp 6)] law04_AdjustBack_B.erase) := by kernel_rfl
theorem c_law04_AdjustFresh : compileFun Try.prog nm Try.f12 = some (.code [(.tmp 6)] law04_AdjustFresh_B.erase) := by kernel_rfl
theorem c_adjust_Words : compileFun Try.prog nm Try.f37 = some (.code [(.tmp 6), (.tmp 7)] adjust_Words_B.erase) := by kernel_rfl
theorem c_ref04_Words : compileFun Try.prog nm Try.f38 = some (.code [(.tmp 6), (.tmp 7)] ref04_Words_B.erase) := by kernel_rfl
theorem c_adjust_Clean : compileFun Try.prog nm Try.f39 = some (.code [(.tmp 2)] adjust_Clean_B.erase) := by kernel_rfl
theorem c_ref04_Clean : compileFun Try.prog nm Try.f40 = some (.code [(.tmp 2)] ref04_Clean_B.erase) := by kernel_rfl
theorem c_adjust_Word : compileFun Try.prog nm Try.f41 = some (.code [(.tmp 6)] adjust_Word_B.erase) := by kernel_rfl
theorem c_ref04_Word : compileFun Try.prog nm Try.f42 = some (.code [(.tmp 6)] ref04_Word_B.erase) := by kernel_rfl
theorem c_law04_live : compileFun Try.prog nm Try.f43 = some (.code [(.tmp 0)] law04_live_B.erase) := by kernel_rfl
theorem c_adjust_At : compileFun Try.prog nm Try.f44 = some (.code [(.tmp 8), (.tmp 9)] adjust_At_B.erase) := by kernel_rfl
theorem c_ref04_At : compileFun Try.prog nm Try.f45 = some (.code [(.tmp 8), (.tmp 9)] ref04_At_B.erase) := by kernel_rfl
theorem c_adjust_added : compileFun Try.prog nm Try.f61 = some (.code [(.tmp 4)] adjust_added_B.erase) := by kernel_rfl
theorem c_adjust_even : compileFun Try.prog nm Try.f63 = some (.code [(.tmp 2)] adjust_even_B.erase) := by kernel_rfl
theorem mixed : Try.prog.follows .mixedOrders = true := Try.checked.mixed

/-! The sum of words: its last step alone. -/
def nmF : Names := fun f => match f with
  | 70 => some "onesum.fold"
  | _ => none
def EF : Env := fun s => match s with
  | "onesum.fold" => some (.code [(.tmp 2)] onesum_fold_B.erase)
  | "@dyn" => some (.dyn [])
  | _ => none
theorem c_fold : compileFun Try.prog nmF Try.f70 = some (.code [(.tmp 2)] onesum_fold_B.erase) := by kernel_rfl
theorem okF : EnvOk Try.prog nmF EF := by
  intro f n hf af ha
  unfold nmF at hf
  split at hf
  · injection hf with hf
    subst hf
    have e : some _ = some af := ha
    injection e with e
    subst e
    exact .inl ⟨_, Try.func70, c_fold⟩
  · cases hf
theorem dynF : DynTab Try.prog nmF [] := by
  intro e he
  simp at he
theorem roF : EnvRo EF := by
  intro n g hg
  unfold EF at hg
  split at hg <;> cases hg
theorem callsF : CallsOk Try.prog nmF (callA EF) := calls_sound mixed okF (.inr ⟨_, rfl, dynF⟩) roF
def EWF : EnvW := EnvW.mk (fun s => match s with
    | "onesum.fold" => some onesum_fold
    | _ => none) []
theorem simF : EnvSim EWF EF := by
  refine ⟨rfl, fun f wf hf => ?_⟩
  simp only [EWF] at hf
  split at hf
  · injection hf with hf; subst hf; exact .inl ⟨_, _, rfl, rfl⟩
  · cases hf
theorem sum_ok : ∀ args h v h', sumA args h = some (v, h') → CallOk Try.prog 65 args h v h' := sum_call fun a l c w bs hs => callsIn_wide.1 (SumT.sum_in foldS (fun m W h0 h1 => fold_calls callsF simF rfl (fun n a b => P03.onesum_fold ⟨rfl⟩ n a b) m W h0 h1) 3 (Nat.le_refl _) a l c w bs hs)

theorem ok0 : EnvOk Try.prog nm E0 := by
  intro f n hf af ha
  unfold nm at hf
  split at hf
  · injection hf with hf
    subst hf
    have e : some _ = some af := ha
    injection e with e
    subst e
    exact .inl ⟨_, Try.func4, c_law01_OctetGets⟩
  · injection hf with hf
    subst hf
    have e : some _ = some af := ha
    injection e with e
    subst e
    exact .inl ⟨_, Try.func5, c_law01_OctetPuts⟩
  · injection hf with hf
    subst hf
    have e : some _ = some af := ha
    injection e with e
    subst e
    exact .inl ⟨_, Try.func6, c_law01_OctetBits⟩
  · injection hf with hf
    subst hf
    have e : some _ = some af := ha
    injection e with e
    subst e
    exact .inl ⟨_, Try.func7, c_law01_OctetHex⟩
  · injection hf with hf
    subst hf
    have e : some _ = some af := ha
    injection e with e
    subst e
    exact .inl ⟨_, Try.func8, c_law01_OctetBack⟩
  · injection hf with hf
    subst hf
    have e : some _ = some af := ha
    injection e with e
    subst e
    exact .inl ⟨_, Try.func20, c_octet_Get⟩
  · injection hf with hf
    subst hf
    have e : some _ = some af := ha
    injection e with e
    subst e
    exact .inl ⟨_, Try.func21, c_ref01_Get⟩
  · injection hf with hf
    subst hf
    have e : some _ = some af := ha
    injection e with e
    subst e
    exact .inl ⟨_, Try.func22, c_octet_Cut⟩
  · injection hf with hf
    subst hf
    have e : some _ = some af := ha
    injection e with e
    subst e
    exact .inl ⟨_, Try.func23, c_ref01_Cut⟩
  · injection hf with hf
    subst hf
    have e : some _ = some af := ha
    injection e with e
    subst e
    exact .inl ⟨_, Try.func24, c_law01_live⟩
  · injection hf with hf
    subst hf
    have e : some _ = some af := ha
    injection e with e
    subst e
    exact .inl ⟨_, Try.func25, c_ref01_SameBytes⟩
  · injection hf with hf
    subst hf
    have e : some _ = some af := ha
    injection e with e
    subst e
    exact .inl ⟨_, Try.func26, c_ref01_Join⟩
  · injection hf with hf
    subst hf
    have e : some _ = some af := ha
    injection e with e
    subst e
    exact .inl ⟨_, Try.func27, c_octet_Put⟩
  · injection hf with hf
    subst hf
    have e : some _ = some af := ha
    injection e with e
    subst e
    exact .inl ⟨_, Try.func28, c_ref01_Put⟩
  · injection hf with hf
    subst hf
    have e : some _ = some af := ha
    injection e with e
    subst e
    exact .inl ⟨_, Try.func29, c_octet_Bits⟩
  · injection hf with hf
    subst hf
    have e : some _ = some af := ha
    injection e with e
    subst e
    exact .inl ⟨_, Try.func30, c_ref01_Bits⟩
  · injection hf with hf
    subst hf
    have e : some _ = some af := ha
    injection e with e
    subst e
    exact .inl ⟨_, Try.func31, c_octet_SetBits⟩
  · injection hf with hf
    subst hf
    have e : some _ = some af := ha
    injection e with e
    subst e
    exact .inl ⟨_, Try.func32, c_ref01_SetBits⟩
  · injection hf with hf
    subst hf
    have e : some _ = some af := ha
    injection e with e
    subst e
    exact .inl ⟨_, Try.func33, c_octet_Hex⟩
  · injection hf with hf
    subst hf
    have e : some _ = some af := ha
    injection e with e
    subst e
    exact .inl ⟨_, Try.func34, c_ref01_Hex⟩
  · injection hf with hf
    subst hf
    have e : some _ = some af := ha
    injection e with e
    subst e
    exact .inl ⟨_, Try.func35, c_octet_Unhex⟩
  · injection hf with hf
    subst hf
    have e : some _ = some af := ha
    injection e with e
    subst e
    exact .inl ⟨_, Try.func36, c_ref01_Unhex⟩
  · injection hf with hf
    subst hf
    have e : some _ = some af := ha
    injection e with e
    subst e
    exact .inl ⟨_, Try.func52, c_octet_spans⟩
  · injection hf with hf
    subst hf
    have e : some _ = some af := ha
    injection e with e
    subst e
    exact .inl ⟨_, Try.func53, c_ref01_place⟩
  · injection hf with hf
    subst hf
    have e : some _ = some af := ha
    injection e with e
    subst e
    exact .inl ⟨_, Try.func54, c_ref01_fits⟩
  · injection hf with hf
    subst hf
    have e : some _ = some af := ha
    injection e with e
    subst e
    exact .inl ⟨_, Try.func55, c_octet_inside⟩
  · injection hf with hf
    subst hf
    have e : some _ = some af := ha
    injection e with e
    subst e
    exact .inl ⟨_, Try.func56, c_octet_mask⟩
  · injection hf with hf
    subst hf
    have e : some _ = some af := ha
    injection e with e
    subst e
    exact .inl ⟨_, Try.func57, c_ref01_are⟩
  · injection hf with hf
    subst hf
    have e : some _ = some af := ha
    injection e with e
    subst e
    exact .inl ⟨_, Try.func58, c_ref01_bit⟩
  · injection hf with hf
    subst hf
    have e : some _ = some af := ha
    injection e with e
    subst e
    exact .inl ⟨_, Try.func59, c_octet_nibble⟩
  · injection hf with hf
    subst hf
    have e : some _ = some af := ha
    injection e with e
    subst e
    exact .inl ⟨_, Try.func60, c_ref01_digit⟩
  · injection hf with hf
    subst hf
    have e : some _ = some af := ha
    injection e with e
    subst e
    exact .inl ⟨_, Try.func70, c_onesum_fold⟩
  · injection hf with hf
    subst hf
    have e : some _ = some af := ha
    injection e with e
    subst e
    exact .inl ⟨_, Try.func64, c_onesum_Check⟩
  · injection hf with hf
    subst hf
    have e : some _ = some af := ha
    injection e with e
    subst e
    exact .inl ⟨_, Try.func47, c_onesum_Good⟩
  · injection hf with hf
    subst hf
    have e : some _ = some af := ha
    injection e with e
    subst e
    exact .inl ⟨_, Try.func67, c_onesum_Add⟩
  · injection hf with hf
    subst hf
    have e : some _ = some af := ha
    injection e with e
    subst e
    exact .inl ⟨_, Try.func62, c_ref03_Add⟩
  · injection hf with hf
    subst hf
    have e : some _ = some af := ha
    injection e with e
    subst e
    exact .inl ⟨_, Try.func46, c_onesum_Fill⟩
  · injection hf with hf
    subst hf
    have e : some _ = some af := ha
    injection e with e
    subst e
    exact .inl ⟨_, Try.func68, c_ref03_rest⟩
  · injection hf with hf
    subst hf
    have e : some (AFun.prim sumA) = some af := ha
    injection e with e
    subst e
    exact .inr ⟨_, rfl, sum_ok⟩
  · injection hf with hf
    subst hf
    have e : some _ = some af := ha
    injection e with e
    subst e
    exact .inl ⟨_, Try.func9, c_law04_AdjustWords⟩
  · injection hf with hf
    subst hf
    have e : some _ = some af := ha
    injection e with e
    subst e
    exact .inl ⟨_, Try.func10, c_law04_AdjustAts⟩
  · injection hf with hf
    subst hf
    have e : some _ = some af := ha
    injection e with e
    subst e
    exact .inl ⟨_, Try.func11, c_law04_AdjustBack⟩
  · injection hf with hf
    subst hf
    have e : some _ = some af := ha
    injection e with e
    subst e
    exact .inl ⟨_, Try.func12, c_law04_AdjustFresh⟩
  · injection hf with hf
    subst hf
    have e : some _ = some af := ha
    injection e with e
    subst e
    exact .inl ⟨_, Try.func37, c_adjust_Words⟩
  · injection hf with hf
    subst hf
    have e : some _ = some af := ha
    injection e with e
    subst e
    exact .inl ⟨_, Try.func38, c_ref04_Words⟩
  · injection hf with hf
    subst hf
    have e : some _ = some af := ha
    injection e with e
    subst e
    exact .inl ⟨_, Try.func39, c_adjust_Clean⟩
  · injection hf with hf
    subst hf
    have e : some _ = some af := ha
    injection e with e
    subst e
    exact .inl ⟨_, Try.func40, c_ref04_Clean⟩
  · injection hf with hf
    subst hf
    have e : some _ = some af := ha
    injection e with e
    subst e
    exact .inl ⟨_, Try.func41, c_adjust_Word⟩
  · injection hf with hf
    subst hf
    have e : some _ = some af := ha
    injection e with e
    subst e
    exact .inl ⟨_, Try.func42, c_ref04_Word⟩
  · injection hf with hf
    subst hf
    have e : some _ = some af := ha
    injection e with e
    subst e
    exact .inl ⟨_, Try.func43, c_law04_live⟩
  · injection hf with hf
    subst hf
    have e : some _ = some af := ha
    injection e with e
    subst e
    exact .inl ⟨_, Try.func44, c_adjust_At⟩
  · injection hf with hf
    subst hf
    have e : some _ = some af := ha
    injection e with e
    subst e
    exact .inl ⟨_, Try.func45, c_ref04_At⟩
  · injection hf with hf
    subst hf
    have e : some _ = some af := ha
    injection e with e
    subst e
    exact .inl ⟨_, Try.func61, c_adjust_added⟩
  · injection hf with hf
    subst hf
    have e : some _ = some af := ha
    injection e with e
    subst e
    exact .inl ⟨_, Try.func63, c_adjust_even⟩
  · cases hf

theorem dynT : DynTab Try.prog nm tbl := by
  intro e he
  simp only [tbl, List.mem_cons, List.not_mem_nil, or_false] at he
  try exact he.elim

theorem ro0 : EnvRo E0 := by
  intro n g hg
  unfold E0 at hg
  split at hg <;> first | (cases hg; done) | (injection hg with hg; injection hg with hg; subst hg; exact fun args h v h2 hx => sumA_ro hx)

theorem calls0 : CallsOk Try.prog nm (callA E0) := calls_sound mixed ok0 (.inr ⟨_, rfl, dynT⟩) ro0

theorem run_law01_live : aloneE E0 4000 [(.tmp 0)] law01_live_B.erase true = true := by kernel_rfl
theorem alone_law01_live : ∀ args h v h', alone true args h = some (v, h') → CallOk Try.prog 24 args h v h' := by
  obtain ⟨h1, hx⟩ := aloneE_ok (E := E0) (f := "law01.live") rfl run_law01_live
  exact alone_ok (calls0.1 _ _ _ _ _ hx 24 rfl)
theorem run_law04_live : aloneE E0 4000 [(.tmp 0)] law04_live_B.erase true = true := by kernel_rfl
theorem alone_law04_live : ∀ args h v h', alone true args h = some (v, h') → CallOk Try.prog 43 args h v h' := by
  obtain ⟨h1, hx⟩ := aloneE_ok (E := E0) (f := "law04.live") rfl run_law04_live
  exact alone_ok (calls0.1 _ _ _ _ _ hx 43 rfl)

/-- The environment: the functions that answer true alone stand for themselves. -/
def E : Env := fun s => match s with
  | "law01.OctetGets" => some (.code [(.tmp 6)] law01_OctetGets_B.erase)
  | "law01.OctetPuts" => some (.code [(.tmp 6)] law01_OctetPuts_B.erase)
  | "law01.OctetBits" => some (.code [(.tmp 6)] law01_OctetBits_B.erase)
  | "law01.OctetHex" => some (.code [(.tmp 4)] law01_OctetHex_B.erase)
  | "law01.OctetBack" => some (.code [(.tmp 6)] law01_OctetBack_B.erase)
  | "octet.Get" => some (.code [(.tmp 6), (.tmp 7)] octet_Get_B.erase)
  | "ref01.Get" => some (.code [(.tmp 6), (.tmp 7)] ref01_Get_B.erase)
  | "octet.Cut" => some (.code [(.tmp 6), (.tmp 7)] octet_Cut_B.erase)
  | "ref01.Cut" => some (.code [(.tmp 6), (.tmp 7)] ref01_Cut_B.erase)
  | "law01.live" => some (.prim (alone true))
  | "ref01.SameBytes" => some (.code [(.tmp 4)] ref01_SameBytes_B.erase)
  | "ref01.Join" => some (.code [(.tmp 2)] ref01_Join_B.erase)
  | "octet.Put" => some (.code [(.tmp 8), (.tmp 9)] octet_Put_B.erase)
  | "ref01.Put" => some (.code [(.tmp 8), (.tmp 9)] ref01_Put_B.erase)
  | "octet.Bits" => some (.code [(.tmp 6)] octet_Bits_B.erase)
  | "ref01.Bits" => some (.code [(.tmp 6)] ref01_Bits_B.erase)
  | "octet.SetBits" => some (.code [(.tmp 8)] octet_SetBits_B.erase)
  | "ref01.SetBits" => some (.code [(.tmp 8)] ref01_SetBits_B.erase)
  | "octet.Hex" => some (.code [(.tmp 2)] octet_Hex_B.erase)
  | "ref01.Hex" => some (.code [(.tmp 2)] ref01_Hex_B.erase)
  | "octet.Unhex" => some (.code [(.tmp 2), (.cell 3 (some 2))] octet_Unhex_B.erase)
  | "ref01.Unhex" => some (.code [(.tmp 2), (.cell 3 (some 2))] ref01_Unhex_B.erase)
  | "octet.spans" => some (.code [(.tmp 6)] octet_spans_B.erase)
  | "ref01.place" => some (.code [(.tmp 6)] ref01_place_B.erase)
  | "ref01.fits" => some (.code [(.tmp 4)] ref01_fits_B.erase)
  | "octet.inside" => some (.code [(.tmp 4)] octet_inside_B.erase)
  | "octet.mask" => some (.code [(.tmp 2)] octet_mask_B.erase)
  | "ref01.are" => some (.code [(.tmp 4)] ref01_are_B.erase)
  | "ref01.bit" => some (.code [(.tmp 4)] ref01_bit_B.erase)
  | "octet.nibble" => some (.code [(.tmp 2), (.tmp 3)] octet_nibble_B.erase)
  | "ref01.digit" => some (.code [(.tmp 2)] ref01_digit_B.erase)
  | "onesum.fold" => some (.code [(.tmp 2)] onesum_fold_B.erase)
  | "law03.OnesumSums" => some (.code [(.tmp 4)] law03_OnesumSums_B.erase)
  | "law03.OnesumJoins" => some (.code [(.tmp 6)] law03_OnesumJoins_B.erase)
  | "law03.OnesumFills" => some (.code [(.tmp 4)] law03_OnesumFills_B.erase)
  | "law03.OnesumFinds" => some (.code [(.tmp 6)] law03_OnesumFinds_B.erase)
  | "law03.live" => some (.prim (alone true))
  | "ref03.Sum" => some (.code [(.tmp 2)] ref03_Sum_B.erase)
  | "onesum.Check" => some (.code [(.tmp 2)] onesum_Check_B.erase)
  | "ref03.Check" => some (.code [(.tmp 2)] ref03_Check_B.erase)
  | "onesum.Good" => some (.code [(.tmp 2)] onesum_Good_B.erase)
  | "ref03.Good" => some (.code [(.tmp 2)] ref03_Good_B.erase)
  | "onesum.Add" => some (.code [(.tmp 4)] onesum_Add_B.erase)
  | "ref03.Add" => some (.code [(.tmp 4)] ref03_Add_B.erase)
  | "onesum.Swap" => some (.code [(.tmp 2)] onesum_Swap_B.erase)
  | "ref03.Swap" => some (.code [(.tmp 2)] ref03_Swap_B.erase)
  | "onesum.Join" => some (.code [(.tmp 6)] onesum_Join_B.erase)
  | "ref03.Join" => some (.code [(.tmp 6)] ref03_Join_B.erase)
  | "onesum.Fill" => some (.code [(.tmp 4), (.tmp 5)] onesum_Fill_B.erase)
  | "ref03.Fill" => some (.code [(.tmp 4), (.tmp 5)] ref03_Fill_B.erase)
  | "ref03.rest" => some (.code [(.tmp 2)] ref03_rest_B.erase)
  | "onesum.Sum" => some (.prim sumA)
  | "law04.AdjustWords" => some (.code [(.tmp 6)] law04_AdjustWords_B.erase)
  | "law04.AdjustAts" => some (.code [(.tmp 6)] law04_AdjustAts_B.erase)
  | "law04.AdjustBack" => some (.code [(.tmp 6)] law04_AdjustBack_B.erase)
  | "law04.AdjustFresh" => some (.code [(.tmp 6)] law04_AdjustFresh_B.erase)
  | "adjust.Words" => some (.code [(.tmp 6), (.tmp 7)] adjust_Words_B.erase)
  | "ref04.Words" => some (.code [(.tmp 6), (.tmp 7)] ref04_Words_B.erase)
  | "adjust.Clean" => some (.code [(.tmp 2)] adjust_Clean_B.erase)
  | "ref04.Clean" => some (.code [(.tmp 2)] ref04_Clean_B.erase)
  | "adjust.Word" => some (.code [(.tmp 6)] adjust_Word_B.erase)
  | "ref04.Word" => some (.code [(.tmp 6)] ref04_Word_B.erase)
  | "law04.live" => some (.prim (alone true))
  | "adjust.At" => some (.code [(.tmp 8), (.tmp 9)] adjust_At_B.erase)
  | "ref04.At" => some (.code [(.tmp 8), (.tmp 9)] ref04_At_B.erase)
  | "adjust.added" => some (.code [(.tmp 4)] adjust_added_B.erase)
  | "adjust.even" => some (.code [(.tmp 2)] adjust_even_B.erase)
  | "@dyn" => some (.dyn tbl)
  | _ => none

theorem ok1 : EnvOk Try.prog nm E := by
  intro f n hf af ha
  unfold nm at hf
  split at hf
  · injection hf with hf
    subst hf
    have e : some _ = some af := ha
    injection e with e
    subst e
    exact .inl ⟨_, Try.func4, c_law01_OctetGets⟩
  · injection hf with hf
    subst hf
    have e : some _ = some af := ha
    injection e with e
    subst e
    exact .inl ⟨_, Try.func5, c_law01_OctetPuts⟩
  · injection hf with hf
    subst hf
    have e : some _ = some af := ha
    injection e with e
    subst e
    exact .inl ⟨_, Try.func6, c_law01_OctetBits⟩
  · injection hf with hf
    subst hf
    have e : some _ = some af := ha
    injection e with e
    subst e
    exact .inl ⟨_, Try.func7, c_law01_OctetHex⟩
  · injection hf with hf
    subst hf
    have e : some _ = some af := ha
    injection e with e
    subst e
    exact .inl ⟨_, Try.func8, c_law01_OctetBack⟩
  · injection hf with hf
    subst hf
    have e : some _ = some af := ha
    injection e with e
    subst e
    exact .inl ⟨_, Try.func20, c_octet_Get⟩
  · injection hf with hf
    subst hf
    have e : some _ = some af := ha
    injection e with e
    subst e
    exact .inl ⟨_, Try.func21, c_ref01_Get⟩
  · injection hf with hf
    subst hf
    have e : some _ = some af := ha
    injection e with e
    subst e
    exact .inl ⟨_, Try.func22, c_octet_Cut⟩
  · injection hf with hf
    subst hf
    have e : some _ = some af := ha
    injection e with e
    subst e
    exact .inl ⟨_, Try.func23, c_ref01_Cut⟩
  · injection hf with hf
    subst hf
    have e : some (AFun.prim (alone true)) = some af := ha
    injection e with e
    subst e
    exact .inr ⟨_, rfl, alone_law01_live⟩
  · injection hf with hf
    subst hf
    have e : some _ = some af := ha
    injection e with e
    subst e
    exact .inl ⟨_, Try.func25, c_ref01_SameBytes⟩
  · injection hf with hf
    subst hf
    have e : some _ = some af := ha
    injection e with e
    subst e
    exact .inl ⟨_, Try.func26, c_ref01_Join⟩
  · injection hf with hf
    subst hf
    have e : some _ = some af := ha
    injection e with e
    subst e
    exact .inl ⟨_, Try.func27, c_octet_Put⟩
  · injection hf with hf
    subst hf
    have e : some _ = some af := ha
    injection e with e
    subst e
    exact .inl ⟨_, Try.func28, c_ref01_Put⟩
  · injection hf with hf
    subst hf
    have e : some _ = some af := ha
    injection e with e
    subst e
    exact .inl ⟨_, Try.func29, c_octet_Bits⟩
  · injection hf with hf
    subst hf
    have e : some _ = some af := ha
    injection e with e
    subst e
    exact .inl ⟨_, Try.func30, c_ref01_Bits⟩
  · injection hf with hf
    subst hf
    have e : some _ = some af := ha
    injection e with e
    subst e
    exact .inl ⟨_, Try.func31, c_octet_SetBits⟩
  · injection hf with hf
    subst hf
    have e : some _ = some af := ha
    injection e with e
    subst e
    exact .inl ⟨_, Try.func32, c_ref01_SetBits⟩
  · injection hf with hf
    subst hf
    have e : some _ = some af := ha
    injection e with e
    subst e
    exact .inl ⟨_, Try.func33, c_octet_Hex⟩
  · injection hf with hf
    subst hf
    have e : some _ = some af := ha
    injection e with e
    subst e
    exact .inl ⟨_, Try.func34, c_ref01_Hex⟩
  · injection hf with hf
    subst hf
    have e : some _ = some af := ha
    injection e with e
    subst e
    exact .inl ⟨_, Try.func35, c_octet_Unhex⟩
  · injection hf with hf
    subst hf
    have e : some _ = some af := ha
    injection e with e
    subst e
    exact .inl ⟨_, Try.func36, c_ref01_Unhex⟩
  · injection hf with hf
    subst hf
    have e : some _ = some af := ha
    injection e with e
    subst e
    exact .inl ⟨_, Try.func52, c_octet_spans⟩
  · injection hf with hf
    subst hf
    have e : some _ = some af := ha
    injection e with e
    subst e
    exact .inl ⟨_, Try.func53, c_ref01_place⟩
  · injection hf with hf
    subst hf
    have e : some _ = some af := ha
    injection e with e
    subst e
    exact .inl ⟨_, Try.func54, c_ref01_fits⟩
  · injection hf with hf
    subst hf
    have e : some _ = some af := ha
    injection e with e
    subst e
    exact .inl ⟨_, Try.func55, c_octet_inside⟩
  · injection hf with hf
    subst hf
    have e : some _ = some af := ha
    injection e with e
    subst e
    exact .inl ⟨_, Try.func56, c_octet_mask⟩
  · injection hf with hf
    subst hf
    have e : some _ = some af := ha
    injection e with e
    subst e
    exact .inl ⟨_, Try.func57, c_ref01_are⟩
  · injection hf with hf
    subst hf
    have e : some _ = some af := ha
    injection e with e
    subst e
    exact .inl ⟨_, Try.func58, c_ref01_bit⟩
  · injection hf with hf
    subst hf
    have e : some _ = some af := ha
    injection e with e
    subst e
    exact .inl ⟨_, Try.func59, c_octet_nibble⟩
  · injection hf with hf
    subst hf
    have e : some _ = some af := ha
    injection e with e
    subst e
    exact .inl ⟨_, Try.func60, c_ref01_digit⟩
  · injection hf with hf
    subst hf
    have e : some _ = some af := ha
    injection e with e
    subst e
    exact .inl ⟨_, Try.func70, c_onesum_fold⟩
  · injection hf with hf
    subst hf
    have e : some _ = some af := ha
    injection e with e
    subst e
    exact .inl ⟨_, Try.func64, c_onesum_Check⟩
  · injection hf with hf
    subst hf
    have e : some _ = some af := ha
    injection e with e
    subst e
    exact .inl ⟨_, Try.func47, c_onesum_Good⟩
  · injection hf with hf
    subst hf
    have e : some _ = some af := ha
    injection e with e
    subst e
    exact .inl ⟨_, Try.func67, c_onesum_Add⟩
  · injection hf with hf
    subst hf
    have e : some _ = some af := ha
    injection e with e
    subst e
    exact .inl ⟨_, Try.func62, c_ref03_Add⟩
  · injection hf with hf
    subst hf
    have e : some _ = some af := ha
    injection e with e
    subst e
    exact .inl ⟨_, Try.func46, c_onesum_Fill⟩
  · injection hf with hf
    subst hf
    have e : some _ = some af := ha
    injection e with e
    subst e
    exact .inl ⟨_, Try.func68, c_ref03_rest⟩
  · injection hf with hf
    subst hf
    have e : some (AFun.prim sumA) = some af := ha
    injection e with e
    subst e
    exact .inr ⟨_, rfl, sum_ok⟩
  · injection hf with hf
    subst hf
    have e : some _ = some af := ha
    injection e with e
    subst e
    exact .inl ⟨_, Try.func9, c_law04_AdjustWords⟩
  · injection hf with hf
    subst hf
    have e : some _ = some af := ha
    injection e with e
    subst e
    exact .inl ⟨_, Try.func10, c_law04_AdjustAts⟩
  · injection hf with hf
    subst hf
    have e : some _ = some af := ha
    injection e with e
    subst e
    exact .inl ⟨_, Try.func11, c_law04_AdjustBack⟩
  · injection hf with hf
    subst hf
    have e : some _ = some af := ha
    injection e with e
    subst e
    exact .inl ⟨_, Try.func12, c_law04_AdjustFresh⟩
  · injection hf with hf
    subst hf
    have e : some _ = some af := ha
    injection e with e
    subst e
    exact .inl ⟨_, Try.func37, c_adjust_Words⟩
  · injection hf with hf
    subst hf
    have e : some _ = some af := ha
    injection e with e
    subst e
    exact .inl ⟨_, Try.func38, c_ref04_Words⟩
  · injection hf with hf
    subst hf
    have e : some _ = some af := ha
    injection e with e
    subst e
    exact .inl ⟨_, Try.func39, c_adjust_Clean⟩
  · injection hf with hf
    subst hf
    have e : some _ = some af := ha
    injection e with e
    subst e
    exact .inl ⟨_, Try.func40, c_ref04_Clean⟩
  · injection hf with hf
    subst hf
    have e : some _ = some af := ha
    injection e with e
    subst e
    exact .inl ⟨_, Try.func41, c_adjust_Word⟩
  · injection hf with hf
    subst hf
    have e : some _ = some af := ha
    injection e with e
    subst e
    exact .inl ⟨_, Try.func42, c_ref04_Word⟩
  · injection hf with hf
    subst hf
    have e : some (AFun.prim (alone true)) = some af := ha
    injection e with e
    subst e
    exact .inr ⟨_, rfl, alone_law04_live⟩
  · injection hf with hf
    subst hf
    have e : some _ = some af := ha
    injection e with e
    subst e
    exact .inl ⟨_, Try.func44, c_adjust_At⟩
  · injection hf with hf
    subst hf
    have e : some _ = some af := ha
    injection e with e
    subst e
    exact .inl ⟨_, Try.func45, c_ref04_At⟩
  · injection hf with hf
    subst hf
    have e : some _ = some af := ha
    injection e with e
    subst e
    exact .inl ⟨_, Try.func61, c_adjust_added⟩
  · injection hf with hf
    subst hf
    have e : some _ = some af := ha
    injection e with e
    subst e
    exact .inl ⟨_, Try.func63, c_adjust_even⟩
  · cases hf

theorem ro1 : EnvRo E := by
  intro n g hg
  unfold E at hg
  split at hg <;> first | (cases hg; done) | (injection hg with hg; injection hg with hg; subst hg; first | exact fun args h v h2 hx => alone_ro hx | exact fun args h v h2 hx => sumA_ro hx)

theorem calls1 : CallsOk Try.prog nm (callA E) := calls_sound mixed ok1 (.inr ⟨_, rfl, dynT⟩) ro1

def EW : EnvW := EnvW.mk (fun s => match s with
    | "law01.OctetGets" => some law01_OctetGets
    | "law01.OctetPuts" => some law01_OctetPuts
    | "law01.OctetBits" => some law01_OctetBits
    | "law01.OctetHex" => some law01_OctetHex
    | "law01.OctetBack" => some law01_OctetBack
    | "octet.Get" => some octet_Get
    | "ref01.Get" => some ref01_Get
    | "octet.Cut" => some octet_Cut
    | "ref01.Cut" => some ref01_Cut
    | "law01.live" => some (.prim aloneT)
    | "ref01.SameBytes" => some ref01_SameBytes
    | "ref01.Join" => some ref01_Join
    | "octet.Put" => some octet_Put
    | "ref01.Put" => some ref01_Put
    | "octet.Bits" => some octet_Bits
    | "ref01.Bits" => some ref01_Bits
    | "octet.SetBits" => some octet_SetBits
    | "ref01.SetBits" => some ref01_SetBits
    | "octet.Hex" => some octet_Hex
    | "ref01.Hex" => some ref01_Hex
    | "octet.Unhex" => some octet_Unhex
    | "ref01.Unhex" => some ref01_Unhex
    | "octet.spans" => some octet_spans
    | "ref01.place" => some ref01_place
    | "ref01.fits" => some ref01_fits
    | "octet.inside" => some octet_inside
    | "octet.mask" => some octet_mask
    | "ref01.are" => some ref01_are
    | "ref01.bit" => some ref01_bit
    | "octet.nibble" => some octet_nibble
    | "ref01.digit" => some ref01_digit
    | "onesum.fold" => some onesum_fold
    | "law03.OnesumSums" => some law03_OnesumSums
    | "law03.OnesumJoins" => some law03_OnesumJoins
    | "law03.OnesumFills" => some law03_OnesumFills
    | "law03.OnesumFinds" => some law03_OnesumFinds
    | "law03.live" => some (.prim aloneT)
    | "ref03.Sum" => some ref03_Sum
    | "onesum.Check" => some onesum_Check
    | "ref03.Check" => some ref03_Check
    | "onesum.Good" => some onesum_Good
    | "ref03.Good" => some ref03_Good
    | "onesum.Add" => some onesum_Add
    | "ref03.Add" => some ref03_Add
    | "onesum.Swap" => some onesum_Swap
    | "ref03.Swap" => some ref03_Swap
    | "onesum.Join" => some onesum_Join
    | "ref03.Join" => some ref03_Join
    | "onesum.Fill" => some onesum_Fill
    | "ref03.Fill" => some ref03_Fill
    | "ref03.rest" => some ref03_rest
    | "onesum.Sum" => some (.prim sumW)
    | "law04.AdjustWords" => some law04_AdjustWords
    | "law04.AdjustAts" => some law04_AdjustAts
    | "law04.AdjustBack" => some law04_AdjustBack
    | "law04.AdjustFresh" => some law04_AdjustFresh
    | "adjust.Words" => some adjust_Words
    | "ref04.Words" => some ref04_Words
    | "adjust.Clean" => some adjust_Clean
    | "ref04.Clean" => some ref04_Clean
    | "adjust.Word" => some adjust_Word
    | "ref04.Word" => some ref04_Word
    | "law04.live" => some (.prim aloneT)
    | "adjust.At" => some adjust_At
    | "ref04.At" => some ref04_At
    | "adjust.added" => some adjust_added
    | "adjust.even" => some adjust_even
    | _ => none) tbl

theorem sim : EnvSim EW E := by
  refine ⟨rfl, fun f wf hf => ?_⟩
  simp only [EW] at hf
  split at hf
  · injection hf with hf; subst hf; exact .inl ⟨_, _, rfl, rfl⟩
  · injection hf with hf; subst hf; exact .inl ⟨_, _, rfl, rfl⟩
  · injection hf with hf; subst hf; exact .inl ⟨_, _, rfl, rfl⟩
  · injection hf with hf; subst hf; exact .inl ⟨_, _, rfl, rfl⟩
  · injection hf with hf; subst hf; exact .inl ⟨_, _, rfl, rfl⟩
  · injection hf with hf; subst hf; exact .inl ⟨_, _, rfl, rfl⟩
  · injection hf with hf; subst hf; exact .inl ⟨_, _, rfl, rfl⟩
  · injection hf with hf; subst hf; exact .inl ⟨_, _, rfl, rfl⟩
  · injection hf with hf; subst hf; exact .inl ⟨_, _, rfl, rfl⟩
  · injection hf with hf; subst hf; exact .inr ⟨_, rfl, alone_sim rfl⟩
  · injection hf with hf; subst hf; exact .inl ⟨_, _, rfl, rfl⟩
  · injection hf with hf; subst hf; exact .inl ⟨_, _, rfl, rfl⟩
  · injection hf with hf; subst hf; exact .inl ⟨_, _, rfl, rfl⟩
  · injection hf with hf; subst hf; exact .inl ⟨_, _, rfl, rfl⟩
  · injection hf with hf; subst hf; exact .inl ⟨_, _, rfl, rfl⟩
  · injection hf with hf; subst hf; exact .inl ⟨_, _, rfl, rfl⟩
  · injection hf with hf; subst hf; exact .inl ⟨_, _, rfl, rfl⟩
  · injection hf with hf; subst hf; exact .inl ⟨_, _, rfl, rfl⟩
  · injection hf with hf; subst hf; exact .inl ⟨_, _, rfl, rfl⟩
  · injection hf with hf; subst hf; exact .inl ⟨_, _, rfl, rfl⟩
  · injection hf with hf; subst hf; exact .inl ⟨_, _, rfl, rfl⟩
  · injection hf with hf; subst hf; exact .inl ⟨_, _, rfl, rfl⟩
  · injection hf with hf; subst hf; exact .inl ⟨_, _, rfl, rfl⟩
  · injection hf with hf; subst hf; exact .inl ⟨_, _, rfl, rfl⟩
  · injection hf with hf; subst hf; exact .inl ⟨_, _, rfl, rfl⟩
  · injection hf with hf; subst hf; exact .inl ⟨_, _, rfl, rfl⟩
  · injection hf with hf; subst hf; exact .inl ⟨_, _, rfl, rfl⟩
  · injection hf with hf; subst hf; exact .inl ⟨_, _, rfl, rfl⟩
  · injection hf with hf; subst hf; exact .inl ⟨_, _, rfl, rfl⟩
  · injection hf with hf; subst hf; exact .inl ⟨_, _, rfl, rfl⟩
  · injection hf with hf; subst hf; exact .inl ⟨_, _, rfl, rfl⟩
  · injection hf with hf; subst hf; exact .inl ⟨_, _, rfl, rfl⟩
  · injection hf with hf; subst hf; exact .inl ⟨_, _, rfl, rfl⟩
  · injection hf with hf; subst hf; exact .inl ⟨_, _, rfl, rfl⟩
  · injection hf with hf; subst hf; exact .inl ⟨_, _, rfl, rfl⟩
  · injection hf with hf; subst hf; exact .inl ⟨_, _, rfl, rfl⟩
  · injection hf with hf; subst hf; exact .inr ⟨_, rfl, alone_sim rfl⟩
  · injection hf with hf; subst hf; exact .inl ⟨_, _, rfl, rfl⟩
  · injection hf with hf; subst hf; exact .inl ⟨_, _, rfl, rfl⟩
  · injection hf with hf; subst hf; exact .inl ⟨_, _, rfl, rfl⟩
  · injection hf with hf; subst hf; exact .inl ⟨_, _, rfl, rfl⟩
  · injection hf with hf; subst hf; exact .inl ⟨_, _, rfl, rfl⟩
  · injection hf with hf; subst hf; exact .inl ⟨_, _, rfl, rfl⟩
  · injection hf with hf; subst hf; exact .inl ⟨_, _, rfl, rfl⟩
  · injection hf with hf; subst hf; exact .inl ⟨_, _, rfl, rfl⟩
  · injection hf with hf; subst hf; exact .inl ⟨_, _, rfl, rfl⟩
  · injection hf with hf; subst hf; exact .inl ⟨_, _, rfl, rfl⟩
  · injection hf with hf; subst hf; exact .inl ⟨_, _, rfl, rfl⟩
  · injection hf with hf; subst hf; exact .inl ⟨_, _, rfl, rfl⟩
  · injection hf with hf; subst hf; exact .inl ⟨_, _, rfl, rfl⟩
  · injection hf with hf; subst hf; exact .inl ⟨_, _, rfl, rfl⟩
  · injection hf with hf; subst hf; exact .inr ⟨_, rfl, sum_sim rfl⟩
  · injection hf with hf; subst hf; exact .inl ⟨_, _, rfl, rfl⟩
  · injection hf with hf; subst hf; exact .inl ⟨_, _, rfl, rfl⟩
  · injection hf with hf; subst hf; exact .inl ⟨_, _, rfl, rfl⟩
  · injection hf with hf; subst hf; exact .inl ⟨_, _, rfl, rfl⟩
  · injection hf with hf; subst hf; exact .inl ⟨_, _, rfl, rfl⟩
  · injection hf with hf; subst hf; exact .inl ⟨_, _, rfl, rfl⟩
  · injection hf with hf; subst hf; exact .inl ⟨_, _, rfl, rfl⟩
  · injection hf with hf; subst hf; exact .inl ⟨_, _, rfl, rfl⟩
  · injection hf with hf; subst hf; exact .inl ⟨_, _, rfl, rfl⟩
  · injection hf with hf; subst hf; exact .inl ⟨_, _, rfl, rfl⟩
  · injection hf with hf; subst hf; exact .inr ⟨_, rfl, alone_sim rfl⟩
  · injection hf with hf; subst hf; exact .inl ⟨_, _, rfl, rfl⟩
  · injection hf with hf; subst hf; exact .inl ⟨_, _, rfl, rfl⟩
  · injection hf with hf; subst hf; exact .inl ⟨_, _, rfl, rfl⟩
  · injection hf with hf; subst hf; exact .inl ⟨_, _, rfl, rfl⟩
  · cases hf

theorem own : ownKnob Try.prog.godebug = none := by kernel_rfl
theorem laidOut : laidOutB Try.prog = true := by kernel_rfl

mutual
theorem bulk_eq {H : Type} : ∀ d : DataW H, Rows.uptoBulk d = bulkW d
  | .lit l => by cases l <;> rfl
  | .nil => rfl
  | .ptr d => by simp only [Rows.uptoBulk, bulkW, bulk_eq d]
  | .slice a b => by simp only [Rows.uptoBulk, bulkW, bulk_eqs a, bulk_eqs b]
  | .agg a => by simp only [Rows.uptoBulk, bulkW, bulk_eqs a]
  | .iface _ d => by simp only [Rows.uptoBulk, bulkW, bulk_eq d]
  | .map a => by simp only [Rows.uptoBulk, bulkW, bulk_eqe a]
  | .held _ => rfl
theorem bulk_eqs {H : Type} : ∀ l : List (DataW H), Rows.uptoBulkAll l = bulkWs l
  | [] => rfl
  | d :: r => by simp only [Rows.uptoBulkAll, bulkWs, bulk_eq d, bulk_eqs r]
theorem bulk_eqe {H : Type} : ∀ l : List (Lit × DataW H), Rows.uptoBulkEntries l = bulkWe l
  | [] => rfl
  | d :: r => by simp only [Rows.uptoBulkEntries, bulkWe, bulk_eqx d, bulk_eqe r]
theorem bulk_eqx {H : Type} : ∀ x : Lit × DataW H, Rows.uptoBulkEntry x = bulkWx x
  | (l, d) => by cases l <;> simp only [Rows.uptoBulkEntry, bulkWx, bulk_eq d]
end

theorem bulk_small {H : Type} {l : List (DataW H)} (hk : Rows.uptoSmall H l = true) : bulkWs l ≤ 1048576 := by
  have h : Rows.uptoBulkAll l ≤ 1048576 := of_decide_eq_true hk
  rw [bulk_eqs] at h
  exact h

theorem env_WbvC01 : WbvC01Env EW := ⟨rfl, rfl, rfl, rfl, rfl, rfl, rfl, rfl, rfl, rfl, rfl, rfl, rfl, rfl, rfl, rfl, rfl, rfl, rfl, rfl, rfl, rfl, rfl, rfl, rfl, rfl, rfl, rfl, rfl, rfl, rfl⟩

theorem env_WbvC03f : WbvC03fEnv EW := ⟨rfl⟩

theorem env_WbvC03 : WbvC03Env EW := ⟨rfl, rfl, rfl, rfl, rfl, rfl, rfl, rfl, rfl, rfl, rfl, rfl, rfl, rfl, rfl, rfl, rfl, rfl, rfl, rfl⟩

theorem env_WbvC04 : WbvC04Env EW := ⟨rfl, rfl, rfl, rfl, rfl, rfl, rfl, rfl, rfl, rfl, rfl, rfl, rfl, rfl, rfl⟩

end Go.Proofs.Ytihcipgcknjkbaa.Wb

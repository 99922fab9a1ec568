/- The functions of this seat's program, as both machines have them: their names, their code, and that it is their code. -/
import Derived.Test.YtlbekhmgpfbgnaaRows
import Derived.Test.YtlbekhmgpfbgnaaWbA6
import Derived.JoinedCond
import Derived.Deep.CondSized
import Derived.Test.YtlbekhmgpfbgnaaWbvC01
import Derived.Test.YtlbekhmgpfbgnaaWbvCsl
import Derived.Test.YtlbekhmgpfbgnaaWbvC11
set_option maxRecDepth 100000
set_option linter.all false
namespace Go.Proofs.Ytlbekhmgpfbgnaa.Wb
open Go Go.Wb Go.Wb.Code

def nm : Names := fun f => match f with
  | 80 => some "octet.Get"
  | 27 => some "ref01.SameBytes"
  | 76 => some "ref01.Join"
  | 78 => some "octet.Put"
  | 82 => some "octet.Bits"
  | 116 => some "octet.SetBits"
  | 115 => some "octet.spans"
  | 117 => some "octet.inside"
  | 118 => some "octet.mask"
  | 84 => some "slices.Clone[[]byte,byte]"
  | 95 => some "slices.Contains[[]int,int]"
  | 120 => some "slices.Index[[]int,int]"
  | 10 => some "law11.ExtwalkGoes"
  | 11 => some "law11.ExtwalkWrites"
  | 12 => some "law11.ExtwalkBack"
  | 14 => some "law11.ExtwalkRanks"
  | 28 => some "extwalk.Is"
  | 33 => some "extwalk.Go"
  | 34 => some "extwalk.List"
  | 46 => some "ref11.Go"
  | 47 => some "extwalk.Size"
  | 48 => some "ref11.Size"
  | 49 => some "law11.live"
  | 50 => some "ref10.SameDefects"
  | 51 => some "ref11.Is"
  | 52 => some "ref10.SameExts"
  | 53 => some "ref11.List"
  | 54 => some "extwalk.Write"
  | 55 => some "ref11.Write"
  | 56 => some "law11.first"
  | 85 => some "extwalk.walk"
  | 86 => some "(extwalk.path).wrong"
  | 87 => some "(extwalk.part).offset"
  | 92 => some "ref11.way"
  | 93 => some "ref11.first"
  | 94 => some "extwalk.length"
  | 96 => some "ref11.wrong"
  | _ => none

def tbl : List (Nat × String) := []

def E0 : Env := fun s => match s with
  | "law01.OctetGets" => some (.code [(.tmp 6)] law01_OctetGets_B.erase)
  | "law01.OctetPuts" => some (.code [(.tmp 6)] law01_OctetPuts_B.erase)
  | "law01.OctetBits" => some (.code [(.tmp 6)] law01_OctetBits_B.erase)
  | "law01.OctetHex" => some (.code [(.tmp 4)] law01_OctetHex_B.erase)
  | "law01.OctetBack" => some (.code [(.tmp 6)] law01_OctetBack_B.erase)
  | "octet.Get" => some (.code [(.tmp 6), (.tmp 7)] octet_Get_B.erase)
  | "ref01.Get" => some (.code [(.tmp 6), (.tmp 7)] ref01_Get_B.erase)
  | "octet.Cut" => some (.code [(.tmp 6), (.tmp 7)] octet_Cut_B.erase)
  | "ref01.Cut" => some (.code [(.tmp 6), (.tmp 7)] ref01_Cut_B.erase)
  | "law01.live" => some (.code [(.tmp 0)] law01_live_B.erase)
  | "ref01.SameBytes" => some (.code [(.tmp 4)] ref01_SameBytes_B.erase)
  | "ref01.Join" => some (.code [(.tmp 2)] ref01_Join_B.erase)
  | "octet.Put" => some (.code [(.tmp 8), (.tmp 9)] octet_Put_B.erase)
  | "ref01.Put" => some (.code [(.tmp 8), (.tmp 9)] ref01_Put_B.erase)
  | "octet.Bits" => some (.code [(.tmp 6)] octet_Bits_B.erase)
  | "ref01.Bits" => some (.code [(.tmp 6)] ref01_Bits_B.erase)
  | "octet.SetBits" => some (.code [(.tmp 8)] octet_SetBits_B.erase)
  | "ref01.SetBits" => some (.code [(.tmp 8)] ref01_SetBits_B.erase)
  | "octet.Hex" => some (.code [(.tmp 2)] octet_Hex_B.erase)
  | "ref01.Hex" => some (.code [(.tmp 2)] ref01_Hex_B.erase)
  | "octet.Unhex" => some (.code [(.tmp 2), (.cell 3 (some 2))] octet_Unhex_B.erase)
  | "ref01.Unhex" => some (.code [(.tmp 2), (.cell 3 (some 2))] ref01_Unhex_B.erase)
  | "octet.spans" => some (.code [(.tmp 6)] octet_spans_B.erase)
  | "ref01.place" => some (.code [(.tmp 6)] ref01_place_B.erase)
  | "ref01.fits" => some (.code [(.tmp 4)] ref01_fits_B.erase)
  | "octet.inside" => some (.code [(.tmp 4)] octet_inside_B.erase)
  | "octet.mask" => some (.code [(.tmp 2)] octet_mask_B.erase)
  | "ref01.are" => some (.code [(.tmp 4)] ref01_are_B.erase)
  | "ref01.bit" => some (.code [(.tmp 4)] ref01_bit_B.erase)
  | "octet.nibble" => some (.code [(.tmp 2), (.tmp 3)] octet_nibble_B.erase)
  | "ref01.digit" => some (.code [(.tmp 2)] ref01_digit_B.erase)
  | "slices.Clone[[]byte,byte]" => some (.code [(.tmp 2)] slices_Clone_byte_byte_B.erase)
  | "slices.Contains[[]int,int]" => some (.code [(.tmp 4)] slices_Contains_int_int_B.erase)
  | "slices.Index[[]int,int]" => some (.code [(.tmp 4)] slices_Index_int_int_B.erase)
  | "law11.ExtwalkGoes" => some (.code [(.tmp 4)] law11_ExtwalkGoes_B.erase)
  | "law11.ExtwalkWrites" => some (.code [(.tmp 4)] law11_ExtwalkWrites_B.erase)
  | "law11.ExtwalkBack" => some (.code [(.tmp 6)] law11_ExtwalkBack_B.erase)
  | "law11.ExtwalkRanks" => some (.code [(.tmp 4)] law11_ExtwalkRanks_B.erase)
  | "extwalk.Is" => some (.code [(.tmp 2)] extwalk_Is_B.erase)
  | "extwalk.Go" => some (.code [(.cell 4 (some 5)), (.tmp 5)] extwalk_Go_B.erase)
  | "extwalk.List" => some (.code [(.tmp 4)] extwalk_List_B.erase)
  | "ref11.Go" => some (.code [(.cell 4 (some 5)), (.tmp 5)] ref11_Go_B.erase)
  | "extwalk.Size" => some (.code [(.tmp 4), (.tmp 5)] extwalk_Size_B.erase)
  | "ref11.Size" => some (.code [(.tmp 4), (.tmp 5)] ref11_Size_B.erase)
  | "law11.live" => some (.code [(.tmp 0)] law11_live_B.erase)
  | "ref10.SameDefects" => some (.code [(.tmp 4)] ref10_SameDefects_B.erase)
  | "ref11.Is" => some (.code [(.tmp 2)] ref11_Is_B.erase)
  | "ref10.SameExts" => some (.code [(.tmp 4)] ref10_SameExts_B.erase)
  | "ref11.List" => some (.code [(.tmp 4)] ref11_List_B.erase)
  | "extwalk.Write" => some (.code [(.tmp 4), (.cell 5 (some 2))] extwalk_Write_B.erase)
  | "ref11.Write" => some (.code [(.tmp 4), (.cell 5 (some 2))] ref11_Write_B.erase)
  | "law11.first" => some (.code [(.tmp 4)] law11_first_B.erase)
  | "extwalk.walk" => some (.code [(.cell 4 (some 6))] extwalk_walk_B.erase)
  | "(extwalk.path).wrong" => some (.code [(.tmp 4)] extwalk_path_wrong_B.erase)
  | "(extwalk.part).offset" => some (.code [(.tmp 2)] extwalk_part_offset_B.erase)
  | "ref11.way" => some (.code [(.tmp 4), (.tmp 5), (.tmp 6), (.tmp 7)] ref11_way_B.erase)
  | "ref11.first" => some (.code [(.tmp 2)] ref11_first_B.erase)
  | "extwalk.length" => some (.code [(.tmp 4), (.tmp 5)] extwalk_length_B.erase)
  | "ref11.wrong" => some (.code [(.tmp 4)] ref11_wrong_B.erase)
  | "@dyn" => some (.dyn tbl)
  | _ => none

theorem c_octet_Get : compileFun Try.prog nm Try.f80 = some (.code [(.tmp 6), (.tmp 7)] octet_Get_B.erase) := by kernel_rfl
theorem c_ref01_SameBytes : compileFun Try.prog nm Try.f27 = some (.code [(.tmp 4)] ref01_SameBytes_B.erase) := by kernel_rfl
theorem c_ref01_Join : compileFun Try.prog nm Try.f76 = some (.code [(.tmp 2)] ref01_Join_B.erase) := by kernel_rfl
theorem c_octet_Put : compileFun Try.prog nm Try.f78 = some (.code [(.tmp 8), (.tmp 9)] octet_Put_B.erase) := by kernel_rfl
theorem c_octet_Bits : compileFun Try.prog nm Try.f82 = some (.code [(.tmp 6)] octet_Bits_B.erase) := by kernel_rfl
theorem c_octet_SetBits : compileFun Try.prog nm Try.f116 = some (.code [(.tmp 8)] octet_SetBits_B.erase) := by kernel_rfl
theorem c_octet_spans : compileFun Try.prog nm Try.f115 = some (.code [(.tmp 6)] octet_spans_B.erase) := by kernel_rfl
theorem c_octet_inside : compileFun Try.prog nm Try.f117 = some (.code [(.tmp 4)] octet_inside_B.erase) := by kernel_rfl
theorem c_octet_mask : compileFun Try.prog nm Try.f118 = some (.code [(.tmp 2)] octet_mask_B.erase) := by kernel_rfl
theorem c_slices_Clone_byte_byte : compileFun Try.prog nm Try.f84 = some (.code [(.tmp 2)] slices_Clone_byte_byte_B.erase) := by kernel_rfl
theorem c_slices_Contains_int_int : compileFun Try.prog nm Try.f95 = some (.code [(.tmp 4)] slices_Contains_int_int_B.erase) := by kernel_rfl
theorem c_slices_Index_int_int : compileFun Try.prog nm Try.f120 = some (.code [(.tmp 4)] slices_Index_int_int_B.erase) := by kernel_rfl
theorem c_law11_ExtwalkGoes : compileFun Try.prog nm Try.f10 = some (.code [(.tmp 4)] law11_ExtwalkGoes_B.erase) := by kernel_rfl
theorem c_law11_ExtwalkWrites : compileFun Try.prog nm Try.f11 = some (.code [(.tmp 4)] law11_ExtwalkWrites_B.erase) := by kernel_rfl
theorem c_law11_ExtwalkBack : compileFun Try.prog nm Try.f12 = some (.code [(.tmp 6)] law11_ExtwalkBack_B.erase) := by kernel_rfl
theorem c_law11_ExtwalkRanks : compileFun Try.prog nm Try.f14 = some (.code [(.tmp 4)] law11_ExtwalkRanks_B.erase) := by kernel_rfl
theorem c_extwalk_Is : compileFun Try.prog nm Try.f28 = some (.code [(.tmp 2)] extwalk_Is_B.erase) := by kernel_rfl
theorem c_extwalk_Go : compileFun Try.prog nm Try.f33 = some (.code [(.cell 4 (some 5)), (.tmp 5)] extwalk_Go_B.erase) := by kernel_rfl
theorem c_extwalk_List : compileFun Try.prog nm Try.f34 = some (.code [(.tmp 4)] extwalk_List_B.erase) := by kernel_rfl
theorem c_ref11_Go : compileFun Try.prog nm Try.f46 = some (.code [(.cell 4 (some 5)), (.tmp 5)] ref11_Go_B.erase) := by kernel_rfl
theorem c_extwalk_Size : compileFun Try.prog nm Try.f47 = some (.code [(.tmp 4), (.tmp 5)] extwalk_Size_B.erase) := by kernel_rfl
theorem c_ref11_Size : compileFun Try.prog nm Try.f48 = some (.code [(.tmp 4), (.tmp 5)] ref11_Size_B.erase) := by kernel_rfl
theorem c_law11_live : compileFun Try.prog (keepNm nm) Try.f49 = some (.code [(.tmp 0)] law11_live_B.erase) := by kernel_rfl
theorem c_ref10_SameDefects : compileFun Try.prog nm Try.f50 = some (.code [(.tmp 4)] ref10_SameDefects_B.erase) := by kernel_rfl
theorem c_ref11_Is : compileFun Try.prog nm Try.f51 = some (.code [(.tmp 2)] ref11_Is_B.erase) := by kernel_rfl
theorem c_ref10_SameExts : compileFun Try.prog nm Try.f52 = some (.code [(.tmp 4)] ref10_SameExts_B.erase) := by kernel_rfl
theorem c_ref11_List : compileFun Try.prog nm Try.f53 = some (.code [(.tmp 4)] ref11_List_B.erase) := by kernel_rfl
theorem c_extwalk_Write : compileFun Try.prog nm Try.f54 = some (.code [(.tmp 4), (.cell 5 (some 2))] extwalk_Write_B.erase) := by kernel_rfl
theorem c_ref11_Write : compileFun Try.prog nm Try.f55 = some (.code [(.tmp 4), (.cell 5 (some 2))] ref11_Write_B.erase) := by kernel_rfl
theorem c_law11_first : compileFun Try.prog nm Try.f56 = some (.code [(.tmp 4)] law11_first_B.erase) := by kernel_rfl
theorem c_extwalk_walk : compileFun Try.prog nm Try.f85 = some (.code [(.cell 4 (some 6))] extwalk_walk_B.erase) := by kernel_rfl
theorem c_extwalk_path_wrong : compileFun Try.prog nm Try.f86 = some (.code [(.tmp 4)] extwalk_path_wrong_B.erase) := by kernel_rfl
theorem c_extwalk_part_offset : compileFun Try.prog nm Try.f87 = some (.code [(.tmp 2)] extwalk_part_offset_B.erase) := by kernel_rfl
theorem c_ref11_way : compileFun Try.prog nm Try.f92 = some (.code [(.tmp 4), (.tmp 5), (.tmp 6), (.tmp 7)] ref11_way_B.erase) := by kernel_rfl
theorem c_ref11_first : compileFun Try.prog nm Try.f93 = some (.code [(.tmp 2)] ref11_first_B.erase) := by kernel_rfl
theorem c_extwalk_length : compileFun Try.prog nm Try.f94 = some (.code [(.tmp 4), (.tmp 5)] extwalk_length_B.erase) := by kernel_rfl
theorem c_ref11_wrong : compileFun Try.prog nm Try.f96 = some (.code [(.tmp 4)] ref11_wrong_B.erase) := by kernel_rfl
theorem mixed : Try.prog.follows .mixedOrders = true := Try.checked.mixed


theorem ok0 : EnvOk Try.prog nm E0 := by
  intro f n hf af ha
  unfold nm at hf
  split at hf
  · injection hf with hf
    subst hf
    have e : some _ = some af := ha
    injection e with e
    subst e
    exact .inl ⟨_, Try.func80, _, .inl rfl, c_octet_Get⟩
  · injection hf with hf
    subst hf
    have e : some _ = some af := ha
    injection e with e
    subst e
    exact .inl ⟨_, Try.func27, _, .inl rfl, c_ref01_SameBytes⟩
  · injection hf with hf
    subst hf
    have e : some _ = some af := ha
    injection e with e
    subst e
    exact .inl ⟨_, Try.func76, _, .inl rfl, c_ref01_Join⟩
  · injection hf with hf
    subst hf
    have e : some _ = some af := ha
    injection e with e
    subst e
    exact .inl ⟨_, Try.func78, _, .inl rfl, c_octet_Put⟩
  · injection hf with hf
    subst hf
    have e : some _ = some af := ha
    injection e with e
    subst e
    exact .inl ⟨_, Try.func82, _, .inl rfl, c_octet_Bits⟩
  · injection hf with hf
    subst hf
    have e : some _ = some af := ha
    injection e with e
    subst e
    exact .inl ⟨_, Try.func116, _, .inl rfl, c_octet_SetBits⟩
  · injection hf with hf
    subst hf
    have e : some _ = some af := ha
    injection e with e
    subst e
    exact .inl ⟨_, Try.func115, _, .inl rfl, c_octet_spans⟩
  · injection hf with hf
    subst hf
    have e : some _ = some af := ha
    injection e with e
    subst e
    exact .inl ⟨_, Try.func117, _, .inl rfl, c_octet_inside⟩
  · injection hf with hf
    subst hf
    have e : some _ = some af := ha
    injection e with e
    subst e
    exact .inl ⟨_, Try.func118, _, .inl rfl, c_octet_mask⟩
  · injection hf with hf
    subst hf
    have e : some _ = some af := ha
    injection e with e
    subst e
    exact .inl ⟨_, Try.func84, _, .inl rfl, c_slices_Clone_byte_byte⟩
  · injection hf with hf
    subst hf
    have e : some _ = some af := ha
    injection e with e
    subst e
    exact .inl ⟨_, Try.func95, _, .inl rfl, c_slices_Contains_int_int⟩
  · injection hf with hf
    subst hf
    have e : some _ = some af := ha
    injection e with e
    subst e
    exact .inl ⟨_, Try.func120, _, .inl rfl, c_slices_Index_int_int⟩
  · injection hf with hf
    subst hf
    have e : some _ = some af := ha
    injection e with e
    subst e
    exact .inl ⟨_, Try.func10, _, .inl rfl, c_law11_ExtwalkGoes⟩
  · injection hf with hf
    subst hf
    have e : some _ = some af := ha
    injection e with e
    subst e
    exact .inl ⟨_, Try.func11, _, .inl rfl, c_law11_ExtwalkWrites⟩
  · injection hf with hf
    subst hf
    have e : some _ = some af := ha
    injection e with e
    subst e
    exact .inl ⟨_, Try.func12, _, .inl rfl, c_law11_ExtwalkBack⟩
  · injection hf with hf
    subst hf
    have e : some _ = some af := ha
    injection e with e
    subst e
    exact .inl ⟨_, Try.func14, _, .inl rfl, c_law11_ExtwalkRanks⟩
  · injection hf with hf
    subst hf
    have e : some _ = some af := ha
    injection e with e
    subst e
    exact .inl ⟨_, Try.func28, _, .inl rfl, c_extwalk_Is⟩
  · injection hf with hf
    subst hf
    have e : some _ = some af := ha
    injection e with e
    subst e
    exact .inl ⟨_, Try.func33, _, .inl rfl, c_extwalk_Go⟩
  · injection hf with hf
    subst hf
    have e : some _ = some af := ha
    injection e with e
    subst e
    exact .inl ⟨_, Try.func34, _, .inl rfl, c_extwalk_List⟩
  · injection hf with hf
    subst hf
    have e : some _ = some af := ha
    injection e with e
    subst e
    exact .inl ⟨_, Try.func46, _, .inl rfl, c_ref11_Go⟩
  · injection hf with hf
    subst hf
    have e : some _ = some af := ha
    injection e with e
    subst e
    exact .inl ⟨_, Try.func47, _, .inl rfl, c_extwalk_Size⟩
  · injection hf with hf
    subst hf
    have e : some _ = some af := ha
    injection e with e
    subst e
    exact .inl ⟨_, Try.func48, _, .inl rfl, c_ref11_Size⟩
  · injection hf with hf
    subst hf
    have e : some _ = some af := ha
    injection e with e
    subst e
    exact .inl ⟨_, Try.func49, _, .inr ⟨rfl, rfl⟩, c_law11_live⟩
  · injection hf with hf
    subst hf
    have e : some _ = some af := ha
    injection e with e
    subst e
    exact .inl ⟨_, Try.func50, _, .inl rfl, c_ref10_SameDefects⟩
  · injection hf with hf
    subst hf
    have e : some _ = some af := ha
    injection e with e
    subst e
    exact .inl ⟨_, Try.func51, _, .inl rfl, c_ref11_Is⟩
  · injection hf with hf
    subst hf
    have e : some _ = some af := ha
    injection e with e
    subst e
    exact .inl ⟨_, Try.func52, _, .inl rfl, c_ref10_SameExts⟩
  · injection hf with hf
    subst hf
    have e : some _ = some af := ha
    injection e with e
    subst e
    exact .inl ⟨_, Try.func53, _, .inl rfl, c_ref11_List⟩
  · injection hf with hf
    subst hf
    have e : some _ = some af := ha
    injection e with e
    subst e
    exact .inl ⟨_, Try.func54, _, .inl rfl, c_extwalk_Write⟩
  · injection hf with hf
    subst hf
    have e : some _ = some af := ha
    injection e with e
    subst e
    exact .inl ⟨_, Try.func55, _, .inl rfl, c_ref11_Write⟩
  · injection hf with hf
    subst hf
    have e : some _ = some af := ha
    injection e with e
    subst e
    exact .inl ⟨_, Try.func56, _, .inl rfl, c_law11_first⟩
  · injection hf with hf
    subst hf
    have e : some _ = some af := ha
    injection e with e
    subst e
    exact .inl ⟨_, Try.func85, _, .inl rfl, c_extwalk_walk⟩
  · injection hf with hf
    subst hf
    have e : some _ = some af := ha
    injection e with e
    subst e
    exact .inl ⟨_, Try.func86, _, .inl rfl, c_extwalk_path_wrong⟩
  · injection hf with hf
    subst hf
    have e : some _ = some af := ha
    injection e with e
    subst e
    exact .inl ⟨_, Try.func87, _, .inl rfl, c_extwalk_part_offset⟩
  · injection hf with hf
    subst hf
    have e : some _ = some af := ha
    injection e with e
    subst e
    exact .inl ⟨_, Try.func92, _, .inl rfl, c_ref11_way⟩
  · injection hf with hf
    subst hf
    have e : some _ = some af := ha
    injection e with e
    subst e
    exact .inl ⟨_, Try.func93, _, .inl rfl, c_ref11_first⟩
  · injection hf with hf
    subst hf
    have e : some _ = some af := ha
    injection e with e
    subst e
    exact .inl ⟨_, Try.func94, _, .inl rfl, c_extwalk_length⟩
  · injection hf with hf
    subst hf
    have e : some _ = some af := ha
    injection e with e
    subst e
    exact .inl ⟨_, Try.func96, _, .inl rfl, c_ref11_wrong⟩
  · cases hf

theorem dynT : DynTab Try.prog nm tbl := by
  intro e he
  simp only [tbl, List.mem_cons, List.not_mem_nil, or_false] at he
  try exact he.elim

theorem ro0 : EnvRo E0 := by
  intro n g hg
  unfold E0 at hg
  split at hg <;> first | (cases hg; done) | (injection hg with hg; injection hg with hg; subst hg; exact fun args h v h2 hx => sumA_ro hx)

theorem calls0 : CallsOk Try.prog nm (callA E0) := calls_sound mixed ok0 (.inr ⟨_, rfl, dynT⟩) ro0

theorem run_law11_live : aloneE E0 4000 [(.tmp 0)] law11_live_B.erase true = true := by kernel_rfl
theorem alone_law11_live : ∀ args h v h', alone true args h = some (v, h') → CallOk Try.prog 49 args h v h' := by
  obtain ⟨h1, hx⟩ := aloneE_ok (E := E0) (f := "law11.live") rfl run_law11_live
  exact alone_ok (calls0.1 _ _ _ _ _ hx 49 rfl)

/-- The environment: the functions that answer true alone stand for themselves. -/
def E : Env := fun s => match s with
  | "law01.OctetGets" => some (.code [(.tmp 6)] law01_OctetGets_B.erase)
  | "law01.OctetPuts" => some (.code [(.tmp 6)] law01_OctetPuts_B.erase)
  | "law01.OctetBits" => some (.code [(.tmp 6)] law01_OctetBits_B.erase)
  | "law01.OctetHex" => some (.code [(.tmp 4)] law01_OctetHex_B.erase)
  | "law01.OctetBack" => some (.code [(.tmp 6)] law01_OctetBack_B.erase)
  | "octet.Get" => some (.code [(.tmp 6), (.tmp 7)] octet_Get_B.erase)
  | "ref01.Get" => some (.code [(.tmp 6), (.tmp 7)] ref01_Get_B.erase)
  | "octet.Cut" => some (.code [(.tmp 6), (.tmp 7)] octet_Cut_B.erase)
  | "ref01.Cut" => some (.code [(.tmp 6), (.tmp 7)] ref01_Cut_B.erase)
  | "law01.live" => some (.prim (alone true))
  | "ref01.SameBytes" => some (.code [(.tmp 4)] ref01_SameBytes_B.erase)
  | "ref01.Join" => some (.code [(.tmp 2)] ref01_Join_B.erase)
  | "octet.Put" => some (.code [(.tmp 8), (.tmp 9)] octet_Put_B.erase)
  | "ref01.Put" => some (.code [(.tmp 8), (.tmp 9)] ref01_Put_B.erase)
  | "octet.Bits" => some (.code [(.tmp 6)] octet_Bits_B.erase)
  | "ref01.Bits" => some (.code [(.tmp 6)] ref01_Bits_B.erase)
  | "octet.SetBits" => some (.code [(.tmp 8)] octet_SetBits_B.erase)
  | "ref01.SetBits" => some (.code [(.tmp 8)] ref01_SetBits_B.erase)
  | "octet.Hex" => some (.code [(.tmp 2)] octet_Hex_B.erase)
  | "ref01.Hex" => some (.code [(.tmp 2)] ref01_Hex_B.erase)
  | "octet.Unhex" => some (.code [(.tmp 2), (.cell 3 (some 2))] octet_Unhex_B.erase)
  | "ref01.Unhex" => some (.code [(.tmp 2), (.cell 3 (some 2))] ref01_Unhex_B.erase)
  | "octet.spans" => some (.code [(.tmp 6)] octet_spans_B.erase)
  | "ref01.place" => some (.code [(.tmp 6)] ref01_place_B.erase)
  | "ref01.fits" => some (.code [(.tmp 4)] ref01_fits_B.erase)
  | "octet.inside" => some (.code [(.tmp 4)] octet_inside_B.erase)
  | "octet.mask" => some (.code [(.tmp 2)] octet_mask_B.erase)
  | "ref01.are" => some (.code [(.tmp 4)] ref01_are_B.erase)
  | "ref01.bit" => some (.code [(.tmp 4)] ref01_bit_B.erase)
  | "octet.nibble" => some (.code [(.tmp 2), (.tmp 3)] octet_nibble_B.erase)
  | "ref01.digit" => some (.code [(.tmp 2)] ref01_digit_B.erase)
  | "slices.Clone[[]byte,byte]" => some (.code [(.tmp 2)] slices_Clone_byte_byte_B.erase)
  | "slices.Contains[[]int,int]" => some (.code [(.tmp 4)] slices_Contains_int_int_B.erase)
  | "slices.Index[[]int,int]" => some (.code [(.tmp 4)] slices_Index_int_int_B.erase)
  | "law11.ExtwalkGoes" => some (.code [(.tmp 4)] law11_ExtwalkGoes_B.erase)
  | "law11.ExtwalkWrites" => some (.code [(.tmp 4)] law11_ExtwalkWrites_B.erase)
  | "law11.ExtwalkBack" => some (.code [(.tmp 6)] law11_ExtwalkBack_B.erase)
  | "law11.ExtwalkRanks" => some (.code [(.tmp 4)] law11_ExtwalkRanks_B.erase)
  | "extwalk.Is" => some (.code [(.tmp 2)] extwalk_Is_B.erase)
  | "extwalk.Go" => some (.code [(.cell 4 (some 5)), (.tmp 5)] extwalk_Go_B.erase)
  | "extwalk.List" => some (.code [(.tmp 4)] extwalk_List_B.erase)
  | "ref11.Go" => some (.code [(.cell 4 (some 5)), (.tmp 5)] ref11_Go_B.erase)
  | "extwalk.Size" => some (.code [(.tmp 4), (.tmp 5)] extwalk_Size_B.erase)
  | "ref11.Size" => some (.code [(.tmp 4), (.tmp 5)] ref11_Size_B.erase)
  | "law11.live" => some (.prim (alone true))
  | "ref10.SameDefects" => some (.code [(.tmp 4)] ref10_SameDefects_B.erase)
  | "ref11.Is" => some (.code [(.tmp 2)] ref11_Is_B.erase)
  | "ref10.SameExts" => some (.code [(.tmp 4)] ref10_SameExts_B.erase)
  | "ref11.List" => some (.code [(.tmp 4)] ref11_List_B.erase)
  | "extwalk.Write" => some (.code [(.tmp 4), (.cell 5 (some 2))] extwalk_Write_B.erase)
  | "ref11.Write" => some (.code [(.tmp 4), (.cell 5 (some 2))] ref11_Write_B.erase)
  | "law11.first" => some (.code [(.tmp 4)] law11_first_B.erase)
  | "extwalk.walk" => some (.code [(.cell 4 (some 6))] extwalk_walk_B.erase)
  | "(extwalk.path).wrong" => some (.code [(.tmp 4)] extwalk_path_wrong_B.erase)
  | "(extwalk.part).offset" => some (.code [(.tmp 2)] extwalk_part_offset_B.erase)
  | "ref11.way" => some (.code [(.tmp 4), (.tmp 5), (.tmp 6), (.tmp 7)] ref11_way_B.erase)
  | "ref11.first" => some (.code [(.tmp 2)] ref11_first_B.erase)
  | "extwalk.length" => some (.code [(.tmp 4), (.tmp 5)] extwalk_length_B.erase)
  | "ref11.wrong" => some (.code [(.tmp 4)] ref11_wrong_B.erase)
  | "@dyn" => some (.dyn tbl)
  | _ => none

theorem ok1 : EnvOk Try.prog nm E := by
  intro f n hf af ha
  unfold nm at hf
  split at hf
  · injection hf with hf
    subst hf
    have e : some _ = some af := ha
    injection e with e
    subst e
    exact .inl ⟨_, Try.func80, _, .inl rfl, c_octet_Get⟩
  · injection hf with hf
    subst hf
    have e : some _ = some af := ha
    injection e with e
    subst e
    exact .inl ⟨_, Try.func27, _, .inl rfl, c_ref01_SameBytes⟩
  · injection hf with hf
    subst hf
    have e : some _ = some af := ha
    injection e with e
    subst e
    exact .inl ⟨_, Try.func76, _, .inl rfl, c_ref01_Join⟩
  · injection hf with hf
    subst hf
    have e : some _ = some af := ha
    injection e with e
    subst e
    exact .inl ⟨_, Try.func78, _, .inl rfl, c_octet_Put⟩
  · injection hf with hf
    subst hf
    have e : some _ = some af := ha
    injection e with e
    subst e
    exact .inl ⟨_, Try.func82, _, .inl rfl, c_octet_Bits⟩
  · injection hf with hf
    subst hf
    have e : some _ = some af := ha
    injection e with e
    subst e
    exact .inl ⟨_, Try.func116, _, .inl rfl, c_octet_SetBits⟩
  · injection hf with hf
    subst hf
    have e : some _ = some af := ha
    injection e with e
    subst e
    exact .inl ⟨_, Try.func115, _, .inl rfl, c_octet_spans⟩
  · injection hf with hf
    subst hf
    have e : some _ = some af := ha
    injection e with e
    subst e
    exact .inl ⟨_, Try.func117, _, .inl rfl, c_octet_inside⟩
  · injection hf with hf
    subst hf
    have e : some _ = some af := ha
    injection e with e
    subst e
    exact .inl ⟨_, Try.func118, _, .inl rfl, c_octet_mask⟩
  · injection hf with hf
    subst hf
    have e : some _ = some af := ha
    injection e with e
    subst e
    exact .inl ⟨_, Try.func84, _, .inl rfl, c_slices_Clone_byte_byte⟩
  · injection hf with hf
    subst hf
    have e : some _ = some af := ha
    injection e with e
    subst e
    exact .inl ⟨_, Try.func95, _, .inl rfl, c_slices_Contains_int_int⟩
  · injection hf with hf
    subst hf
    have e : some _ = some af := ha
    injection e with e
    subst e
    exact .inl ⟨_, Try.func120, _, .inl rfl, c_slices_Index_int_int⟩
  · injection hf with hf
    subst hf
    have e : some _ = some af := ha
    injection e with e
    subst e
    exact .inl ⟨_, Try.func10, _, .inl rfl, c_law11_ExtwalkGoes⟩
  · injection hf with hf
    subst hf
    have e : some _ = some af := ha
    injection e with e
    subst e
    exact .inl ⟨_, Try.func11, _, .inl rfl, c_law11_ExtwalkWrites⟩
  · injection hf with hf
    subst hf
    have e : some _ = some af := ha
    injection e with e
    subst e
    exact .inl ⟨_, Try.func12, _, .inl rfl, c_law11_ExtwalkBack⟩
  · injection hf with hf
    subst hf
    have e : some _ = some af := ha
    injection e with e
    subst e
    exact .inl ⟨_, Try.func14, _, .inl rfl, c_law11_ExtwalkRanks⟩
  · injection hf with hf
    subst hf
    have e : some _ = some af := ha
    injection e with e
    subst e
    exact .inl ⟨_, Try.func28, _, .inl rfl, c_extwalk_Is⟩
  · injection hf with hf
    subst hf
    have e : some _ = some af := ha
    injection e with e
    subst e
    exact .inl ⟨_, Try.func33, _, .inl rfl, c_extwalk_Go⟩
  · injection hf with hf
    subst hf
    have e : some _ = some af := ha
    injection e with e
    subst e
    exact .inl ⟨_, Try.func34, _, .inl rfl, c_extwalk_List⟩
  · injection hf with hf
    subst hf
    have e : some _ = some af := ha
    injection e with e
    subst e
    exact .inl ⟨_, Try.func46, _, .inl rfl, c_ref11_Go⟩
  · injection hf with hf
    subst hf
    have e : some _ = some af := ha
    injection e with e
    subst e
    exact .inl ⟨_, Try.func47, _, .inl rfl, c_extwalk_Size⟩
  · injection hf with hf
    subst hf
    have e : some _ = some af := ha
    injection e with e
    subst e
    exact .inl ⟨_, Try.func48, _, .inl rfl, c_ref11_Size⟩
  · injection hf with hf
    subst hf
    have e : some (AFun.prim (alone true)) = some af := ha
    injection e with e
    subst e
    exact .inr ⟨_, rfl, alone_law11_live⟩
  · injection hf with hf
    subst hf
    have e : some _ = some af := ha
    injection e with e
    subst e
    exact .inl ⟨_, Try.func50, _, .inl rfl, c_ref10_SameDefects⟩
  · injection hf with hf
    subst hf
    have e : some _ = some af := ha
    injection e with e
    subst e
    exact .inl ⟨_, Try.func51, _, .inl rfl, c_ref11_Is⟩
  · injection hf with hf
    subst hf
    have e : some _ = some af := ha
    injection e with e
    subst e
    exact .inl ⟨_, Try.func52, _, .inl rfl, c_ref10_SameExts⟩
  · injection hf with hf
    subst hf
    have e : some _ = some af := ha
    injection e with e
    subst e
    exact .inl ⟨_, Try.func53, _, .inl rfl, c_ref11_List⟩
  · injection hf with hf
    subst hf
    have e : some _ = some af := ha
    injection e with e
    subst e
    exact .inl ⟨_, Try.func54, _, .inl rfl, c_extwalk_Write⟩
  · injection hf with hf
    subst hf
    have e : some _ = some af := ha
    injection e with e
    subst e
    exact .inl ⟨_, Try.func55, _, .inl rfl, c_ref11_Write⟩
  · injection hf with hf
    subst hf
    have e : some _ = some af := ha
    injection e with e
    subst e
    exact .inl ⟨_, Try.func56, _, .inl rfl, c_law11_first⟩
  · injection hf with hf
    subst hf
    have e : some _ = some af := ha
    injection e with e
    subst e
    exact .inl ⟨_, Try.func85, _, .inl rfl, c_extwalk_walk⟩
  · injection hf with hf
    subst hf
    have e : some _ = some af := ha
    injection e with e
    subst e
    exact .inl ⟨_, Try.func86, _, .inl rfl, c_extwalk_path_wrong⟩
  · injection hf with hf
    subst hf
    have e : some _ = some af := ha
    injection e with e
    subst e
    exact .inl ⟨_, Try.func87, _, .inl rfl, c_extwalk_part_offset⟩
  · injection hf with hf
    subst hf
    have e : some _ = some af := ha
    injection e with e
    subst e
    exact .inl ⟨_, Try.func92, _, .inl rfl, c_ref11_way⟩
  · injection hf with hf
    subst hf
    have e : some _ = some af := ha
    injection e with e
    subst e
    exact .inl ⟨_, Try.func93, _, .inl rfl, c_ref11_first⟩
  · injection hf with hf
    subst hf
    have e : some _ = some af := ha
    injection e with e
    subst e
    exact .inl ⟨_, Try.func94, _, .inl rfl, c_extwalk_length⟩
  · injection hf with hf
    subst hf
    have e : some _ = some af := ha
    injection e with e
    subst e
    exact .inl ⟨_, Try.func96, _, .inl rfl, c_ref11_wrong⟩
  · cases hf

theorem ro1 : EnvRo E := by
  intro n g hg
  unfold E at hg
  split at hg <;> first | (cases hg; done) | (injection hg with hg; injection hg with hg; subst hg; first | exact fun args h v h2 hx => alone_ro hx | exact fun args h v h2 hx => sumA_ro hx)

theorem calls1 : CallsOk Try.prog nm (callA E) := calls_sound mixed ok1 (.inr ⟨_, rfl, dynT⟩) ro1

def EW : EnvW := EnvW.mk (fun s => match s with
    | "law01.OctetGets" => some law01_OctetGets
    | "law01.OctetPuts" => some law01_OctetPuts
    | "law01.OctetBits" => some law01_OctetBits
    | "law01.OctetHex" => some law01_OctetHex
    | "law01.OctetBack" => some law01_OctetBack
    | "octet.Get" => some octet_Get
    | "ref01.Get" => some ref01_Get
    | "octet.Cut" => some octet_Cut
    | "ref01.Cut" => some ref01_Cut
    | "law01.live" => some (.prim aloneT)
    | "ref01.SameBytes" => some ref01_SameBytes
    | "ref01.Join" => some ref01_Join
    | "octet.Put" => some octet_Put
    | "ref01.Put" => some ref01_Put
    | "octet.Bits" => some octet_Bits
    | "ref01.Bits" => some ref01_Bits
    | "octet.SetBits" => some octet_SetBits
    | "ref01.SetBits" => some ref01_SetBits
    | "octet.Hex" => some octet_Hex
    | "ref01.Hex" => some ref01_Hex
    | "octet.Unhex" => some octet_Unhex
    | "ref01.Unhex" => some ref01_Unhex
    | "octet.spans" => some octet_spans
    | "ref01.place" => some ref01_place
    | "ref01.fits" => some ref01_fits
    | "octet.inside" => some octet_inside
    | "octet.mask" => some octet_mask
    | "ref01.are" => some ref01_are
    | "ref01.bit" => some ref01_bit
    | "octet.nibble" => some octet_nibble
    | "ref01.digit" => some ref01_digit
    | "slices.Clone[[]byte,byte]" => some slices_Clone_byte_byte
    | "slices.Contains[[]int,int]" => some slices_Contains_int_int
    | "slices.Index[[]int,int]" => some slices_Index_int_int
    | "law11.ExtwalkGoes" => some law11_ExtwalkGoes
    | "law11.ExtwalkWrites" => some law11_ExtwalkWrites
    | "law11.ExtwalkBack" => some law11_ExtwalkBack
    | "law11.ExtwalkRanks" => some law11_ExtwalkRanks
    | "extwalk.Is" => some extwalk_Is
    | "extwalk.Go" => some extwalk_Go
    | "extwalk.List" => some extwalk_List
    | "ref11.Go" => some ref11_Go
    | "extwalk.Size" => some extwalk_Size
    | "ref11.Size" => some ref11_Size
    | "law11.live" => some (.prim aloneT)
    | "ref10.SameDefects" => some ref10_SameDefects
    | "ref11.Is" => some ref11_Is
    | "ref10.SameExts" => some ref10_SameExts
    | "ref11.List" => some ref11_List
    | "extwalk.Write" => some extwalk_Write
    | "ref11.Write" => some ref11_Write
    | "law11.first" => some law11_first
    | "extwalk.walk" => some extwalk_walk
    | "(extwalk.path).wrong" => some extwalk_path_wrong
    | "(extwalk.part).offset" => some extwalk_part_offset
    | "ref11.way" => some ref11_way
    | "ref11.first" => some ref11_first
    | "extwalk.length" => some extwalk_length
    | "ref11.wrong" => some ref11_wrong
    | _ => none) tbl

theorem sim : EnvSim EW E := by
  refine ⟨rfl, fun f wf hf => ?_⟩
  simp only [EW] at hf
  split at hf
  · injection hf with hf; subst hf; exact .inl ⟨_, _, rfl, rfl⟩
  · injection hf with hf; subst hf; exact .inl ⟨_, _, rfl, rfl⟩
  · injection hf with hf; subst hf; exact .inl ⟨_, _, rfl, rfl⟩
  · injection hf with hf; subst hf; exact .inl ⟨_, _, rfl, rfl⟩
  · injection hf with hf; subst hf; exact .inl ⟨_, _, rfl, rfl⟩
  · injection hf with hf; subst hf; exact .inl ⟨_, _, rfl, rfl⟩
  · injection hf with hf; subst hf; exact .inl ⟨_, _, rfl, rfl⟩
  · injection hf with hf; subst hf; exact .inl ⟨_, _, rfl, rfl⟩
  · injection hf with hf; subst hf; exact .inl ⟨_, _, rfl, rfl⟩
  · injection hf with hf; subst hf; exact .inr ⟨_, rfl, alone_sim rfl⟩
  · injection hf with hf; subst hf; exact .inl ⟨_, _, rfl, rfl⟩
  · injection hf with hf; subst hf; exact .inl ⟨_, _, rfl, rfl⟩
  · injection hf with hf; subst hf; exact .inl ⟨_, _, rfl, rfl⟩
  · injection hf with hf; subst hf; exact .inl ⟨_, _, rfl, rfl⟩
  · injection hf with hf; subst hf; exact .inl ⟨_, _, rfl, rfl⟩
  · injection hf with hf; subst hf; exact .inl ⟨_, _, rfl, rfl⟩
  · injection hf with hf; subst hf; exact .inl ⟨_, _, rfl, rfl⟩
  · injection hf with hf; subst hf; exact .inl ⟨_, _, rfl, rfl⟩
  · injection hf with hf; subst hf; exact .inl ⟨_, _, rfl, rfl⟩
  · injection hf with hf; subst hf; exact .inl ⟨_, _, rfl, rfl⟩
  · injection hf with hf; subst hf; exact .inl ⟨_, _, rfl, rfl⟩
  · injection hf with hf; subst hf; exact .inl ⟨_, _, rfl, rfl⟩
  · injection hf with hf; subst hf; exact .inl ⟨_, _, rfl, rfl⟩
  · injection hf with hf; subst hf; exact .inl ⟨_, _, rfl, rfl⟩
  · injection hf with hf; subst hf; exact .inl ⟨_, _, rfl, rfl⟩
  · injection hf with hf; subst hf; exact .inl ⟨_, _, rfl, rfl⟩
  · injection hf with hf; subst hf; exact .inl ⟨_, _, rfl, rfl⟩
  · injection hf with hf; subst hf; exact .inl ⟨_, _, rfl, rfl⟩
  · injection hf with hf; subst hf; exact .inl ⟨_, _, rfl, rfl⟩
  · injection hf with hf; subst hf; exact .inl ⟨_, _, rfl, rfl⟩
  · injection hf with hf; subst hf; exact .inl ⟨_, _, rfl, rfl⟩
  · injection hf with hf; subst hf; exact .inl ⟨_, _, rfl, rfl⟩
  · injection hf with hf; subst hf; exact .inl ⟨_, _, rfl, rfl⟩
  · injection hf with hf; subst hf; exact .inl ⟨_, _, rfl, rfl⟩
  · injection hf with hf; subst hf; exact .inl ⟨_, _, rfl, rfl⟩
  · injection hf with hf; subst hf; exact .inl ⟨_, _, rfl, rfl⟩
  · injection hf with hf; subst hf; exact .inl ⟨_, _, rfl, rfl⟩
  · injection hf with hf; subst hf; exact .inl ⟨_, _, rfl, rfl⟩
  · injection hf with hf; subst hf; exact .inl ⟨_, _, rfl, rfl⟩
  · injection hf with hf; subst hf; exact .inl ⟨_, _, rfl, rfl⟩
  · injection hf with hf; subst hf; exact .inl ⟨_, _, rfl, rfl⟩
  · injection hf with hf; subst hf; exact .inl ⟨_, _, rfl, rfl⟩
  · injection hf with hf; subst hf; exact .inl ⟨_, _, rfl, rfl⟩
  · injection hf with hf; subst hf; exact .inl ⟨_, _, rfl, rfl⟩
  · injection hf with hf; subst hf; exact .inr ⟨_, rfl, alone_sim rfl⟩
  · injection hf with hf; subst hf; exact .inl ⟨_, _, rfl, rfl⟩
  · injection hf with hf; subst hf; exact .inl ⟨_, _, rfl, rfl⟩
  · injection hf with hf; subst hf; exact .inl ⟨_, _, rfl, rfl⟩
  · injection hf with hf; subst hf; exact .inl ⟨_, _, rfl, rfl⟩
  · injection hf with hf; subst hf; exact .inl ⟨_, _, rfl, rfl⟩
  · injection hf with hf; subst hf; exact .inl ⟨_, _, rfl, rfl⟩
  · injection hf with hf; subst hf; exact .inl ⟨_, _, rfl, rfl⟩
  · injection hf with hf; subst hf; exact .inl ⟨_, _, rfl, rfl⟩
  · injection hf with hf; subst hf; exact .inl ⟨_, _, rfl, rfl⟩
  · injection hf with hf; subst hf; exact .inl ⟨_, _, rfl, rfl⟩
  · injection hf with hf; subst hf; exact .inl ⟨_, _, rfl, rfl⟩
  · injection hf with hf; subst hf; exact .inl ⟨_, _, rfl, rfl⟩
  · injection hf with hf; subst hf; exact .inl ⟨_, _, rfl, rfl⟩
  · injection hf with hf; subst hf; exact .inl ⟨_, _, rfl, rfl⟩
  · cases hf

theorem own : ownKnob Try.prog.godebug = none := by kernel_rfl
theorem laidOut : laidOutB Try.prog = true := by kernel_rfl

mutual
theorem bulk_eq {H : Type} : ∀ d : DataW H, Rows.uptoBulk d = bulkW d
  | .lit l => by cases l <;> rfl
  | .nil => rfl
  | .ptr d => by simp only [Rows.uptoBulk, bulkW, bulk_eq d]
  | .slice a b => by simp only [Rows.uptoBulk, bulkW, bulk_eqs a, bulk_eqs b]
  | .agg a => by simp only [Rows.uptoBulk, bulkW, bulk_eqs a]
  | .iface _ d => by simp only [Rows.uptoBulk, bulkW, bulk_eq d]
  | .map a => by simp only [Rows.uptoBulk, bulkW, bulk_eqe a]
  | .held _ => rfl
theorem bulk_eqs {H : Type} : ∀ l : List (DataW H), Rows.uptoBulkAll l = bulkWs l
  | [] => rfl
  | d :: r => by simp only [Rows.uptoBulkAll, bulkWs, bulk_eq d, bulk_eqs r]
theorem bulk_eqe {H : Type} : ∀ l : List (Lit × DataW H), Rows.uptoBulkEntries l = bulkWe l
  | [] => rfl
  | d :: r => by simp only [Rows.uptoBulkEntries, bulkWe, bulk_eqx d, bulk_eqe r]
theorem bulk_eqx {H : Type} : ∀ x : Lit × DataW H, Rows.uptoBulkEntry x = bulkWx x
  | (l, d) => by cases l <;> simp only [Rows.uptoBulkEntry, bulkWx, bulk_eq d]
end

theorem bulk_small {H : Type} {l : List (DataW H)} (hk : Rows.uptoSmall H l = true) : bulkWs l ≤ 1048576 := by
  have h : Rows.uptoBulkAll l ≤ 1048576 := of_decide_eq_true hk
  rw [bulk_eqs] at h
  exact h

theorem env_WbvC01 : WbvC01Env EW := ⟨rfl, rfl, rfl, rfl, rfl, rfl, rfl, rfl, rfl, rfl, rfl, rfl, rfl, rfl, rfl, rfl, rfl, rfl, rfl, rfl, rfl, rfl, rfl, rfl, rfl, rfl, rfl, rfl, rfl, rfl, rfl⟩

theorem env_WbvCsl : WbvCslEnv EW := ⟨rfl, rfl, rfl⟩

theorem env_WbvC11 : WbvC11Env EW := ⟨rfl, rfl, rfl, rfl, rfl, rfl, rfl, rfl, rfl, rfl, rfl, rfl, rfl, rfl, rfl, rfl, rfl, rfl, rfl, rfl, rfl, rfl, rfl, rfl, rfl⟩

end Go.Proofs.Ytlbekhmgpfbgnaa.Wb

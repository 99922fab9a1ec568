/- The functions of this seat's program, as both machines have them: their names, their code, and that it is their code. -/
import Derived.Test.YtikejeihmhpabaaRows
import Derived.Test.YtikejeihmhpabaaWbA5
import Derived.JoinedCond
import Derived.Deep.CondSized
import Derived.Test.YtikejeihmhpabaaWbvC01
import Derived.Test.YtikejeihmhpabaaWbvC13
set_option maxRecDepth 100000
namespace Go.Proofs.Ytikejeihmhpabaa.Wb
open Go Go.Wb Go.Wb.Code

def nm : Names := fun f => match f with
  | 73 => some "octet.Get"
  | 31 => some "ref01.SameBytes"
  | 28 => some "ref01.Join"
  | 59 => some "octet.Put"
  | 60 => some "ref01.Put"
  | 70 => some "octet.spans"
  | 72 => some "ref01.place"
  | 71 => some "ref01.fits"
  | 7 => some "law13.PortsReads"
  | 8 => some "law13.PortsWrites"
  | 9 => some "law13.PortsBack"
  | 32 => some "ports.Read"
  | 33 => some "ref13.Read"
  | 34 => some "law13.live"
  | 35 => some "ports.Least"
  | 36 => some "ref13.Least"
  | 37 => some "ports.Write"
  | 38 => some "ref13.Write"
  | 61 => some "ports.sound"
  | 62 => some "ports.field"
  | 63 => some "ref13.two"
  | _ => none

def tbl : List (Nat × String) := []

def E0 : Env := fun s => match s with
  | "law01.OctetGets" => some (.code [(.tmp 6)] law01_OctetGets_B.erase)
  | "law01.OctetPuts" => some (.code [(.tmp 6)] law01_OctetPuts_B.erase)
  | "law01.OctetBits" => some (.code [(.tmp 6)] law01_OctetBits_B.erase)
  | "law01.OctetHex" => some (.code [(.tmp 4)] law01_OctetHex_B.erase)
  | "law01.OctetBack" => some (.code [(.tmp 6)] law01_OctetBack_B.erase)
  | "octet.Get" => some (.code [(.tmp 6), (.tmp 7)] octet_Get_B.erase)
  | "ref01.Get" => some (.code [(.tmp 6), (.tmp 7)] ref01_Get_B.erase)
  | "octet.Cut" => some (.code [(.tmp 6), (.tmp 7)] octet_Cut_B.erase)
  | "ref01.Cut" => some (.code [(.tmp 6), (.tmp 7)] ref01_Cut_B.erase)
  | "law01.live" => some (.code [(.tmp 0)] law01_live_B.erase)
  | "ref01.SameBytes" => some (.code [(.tmp 4)] ref01_SameBytes_B.erase)
  | "ref01.Join" => some (.code [(.tmp 2)] ref01_Join_B.erase)
  | "octet.Put" => some (.code [(.tmp 8), (.tmp 9)] octet_Put_B.erase)
  | "ref01.Put" => some (.code [(.tmp 8), (.tmp 9)] ref01_Put_B.erase)
  | "octet.Bits" => some (.code [(.tmp 6)] octet_Bits_B.erase)
  | "ref01.Bits" => some (.code [(.tmp 6)] ref01_Bits_B.erase)
  | "octet.SetBits" => some (.code [(.tmp 8)] octet_SetBits_B.erase)
  | "ref01.SetBits" => some (.code [(.tmp 8)] ref01_SetBits_B.erase)
  | "octet.Hex" => some (.code [(.tmp 2)] octet_Hex_B.erase)
  | "ref01.Hex" => some (.code [(.tmp 2)] ref01_Hex_B.erase)
  | "octet.Unhex" => some (.code [(.tmp 2), (.cell 3 (some 2))] octet_Unhex_B.erase)
  | "ref01.Unhex" => some (.code [(.tmp 2), (.cell 3 (some 2))] ref01_Unhex_B.erase)
  | "octet.spans" => some (.code [(.tmp 6)] octet_spans_B.erase)
  | "ref01.place" => some (.code [(.tmp 6)] ref01_place_B.erase)
  | "ref01.fits" => some (.code [(.tmp 4)] ref01_fits_B.erase)
  | "octet.inside" => some (.code [(.tmp 4)] octet_inside_B.erase)
  | "octet.mask" => some (.code [(.tmp 2)] octet_mask_B.erase)
  | "ref01.are" => some (.code [(.tmp 4)] ref01_are_B.erase)
  | "ref01.bit" => some (.code [(.tmp 4)] ref01_bit_B.erase)
  | "octet.nibble" => some (.code [(.tmp 2), (.tmp 3)] octet_nibble_B.erase)
  | "ref01.digit" => some (.code [(.tmp 2)] ref01_digit_B.erase)
  | "law13.PortsReads" => some (.code [(.tmp 6)] law13_PortsReads_B.erase)
  | "law13.PortsWrites" => some (.code [(.tmp 6)] law13_PortsWrites_B.erase)
  | "law13.PortsBack" => some (.code [(.tmp 6)] law13_PortsBack_B.erase)
  | "ports.Read" => some (.code [(.tmp 6), (.tmp 7), (.tmp 8)] ports_Read_B.erase)
  | "ref13.Read" => some (.code [(.tmp 6), (.tmp 7), (.tmp 8)] ref13_Read_B.erase)
  | "law13.live" => some (.code [(.tmp 0)] law13_live_B.erase)
  | "ports.Least" => some (.code [(.tmp 2)] ports_Least_B.erase)
  | "ref13.Least" => some (.code [(.tmp 2)] ref13_Least_B.erase)
  | "ports.Write" => some (.code [(.tmp 8), (.tmp 9)] ports_Write_B.erase)
  | "ref13.Write" => some (.code [(.tmp 8), (.tmp 9)] ref13_Write_B.erase)
  | "ports.sound" => some (.code [(.tmp 6)] ports_sound_B.erase)
  | "ports.field" => some (.code [(.tmp 4)] ports_field_B.erase)
  | "ref13.two" => some (.code [(.tmp 4)] ref13_two_B.erase)
  | "@dyn" => some (.dyn tbl)
  | _ => none

theorem c_octet_Get : compileFun Try.prog nm Try.f73 = some (.code [(.tmp 6), (.tmp 7)] octet_Get_B.erase) := by kernel_rfl
theorem c_ref01_SameBytes : compileFun Try.prog nm Try.f31 = some (.code [(.tmp 4)] ref01_SameBytes_B.erase) := by kernel_rfl
theorem c_ref01_Join : compileFun Try.prog nm Try.f28 = some (.code [(.tmp 2)] ref01_Join_B.erase) := by kernel_rfl
theorem c_octet_Put : compileFun Try.prog nm Try.f59 = some (.code [(.tmp 8), (.tmp 9)] octet_Put_B.erase) := by kernel_rfl
theorem c_ref01_Put : compileFun Try.prog nm Try.f60 = some (.code [(.tmp 8), (.tmp 9)] ref01_Put_B.erase) := by kernel_rfl
theorem c_octet_spans : compileFun Try.prog nm Try.f70 = some (.code [(.tmp 6)] octet_spans_B.erase) := by kernel_rfl
theorem c_ref01_place : compileFun Try.prog nm Try.f72 = some (.code [(.tmp 6)] ref01_place_B.erase) := by kernel_rfl
theorem c_ref01_fits : compileFun Try.prog nm Try.f71 = some (.code [(.tmp 4)] ref01_fits_B.erase) := by kernel_rfl
theorem c_law13_PortsReads : compileFun Try.prog nm Try.f7 = some (.code [(.tmp 6)] law13_PortsReads_B.erase) := by kernel_rfl
theorem c_law13_PortsWrites : compileFun Try.prog nm Try.f8 = some (.code [(.tmp 6)] law13_PortsWrites_B.erase) := by kernel_rfl
theorem c_law13_PortsBack : compileFun Try.prog nm Try.f9 = some (.code [(.tmp 6)] law13_PortsBack_B.erase) := by kernel_rfl
theorem c_ports_Read : compileFun Try.prog nm Try.f32 = some (.code [(.tmp 6), (.tmp 7), (.tmp 8)] ports_Read_B.erase) := by kernel_rfl
theorem c_ref13_Read : compileFun Try.prog nm Try.f33 = some (.code [(.tmp 6), (.tmp 7), (.tmp 8)] ref13_Read_B.erase) := by kernel_rfl
theorem c_law13_live : compileFun Try.prog nm Try.f34 = some (.code [(.tmp 0)] law13_live_B.erase) := by kernel_rfl
theorem c_ports_Least : compileFun Try.prog nm Try.f35 = some (.code [(.tmp 2)] ports_Least_B.erase) := by kernel_rfl
theorem c_ref13_Least : compileFun Try.prog nm Try.f36 = some (.code [(.tmp 2)] ref13_Least_B.erase) := by kernel_rfl
theorem c_ports_Write : compileFun Try.prog nm Try.f37 = some (.code [(.tmp 8), (.tmp 9)] ports_Write_B.erase) := by kernel_rfl
theorem c_ref13_Write : compileFun Try.prog nm Try.f38 = some (.code [(.tmp 8), (.tmp 9)] ref13_Write_B.erase) := by kernel_rfl
theorem c_ports_sound : compileFun Try.prog nm Try.f61 = some (.code [(.tmp 6)] ports_sound_B.erase) := by kernel_rfl
theorem c_ports_field : compileFun Try.prog nm Try.f62 = some (.code [(.tmp 4)] ports_field_B.erase) := by kernel_rfl
theorem c_ref13_two : compileFun Try.prog nm Try.f63 = some (.code [(.tmp 4)] ref13_two_B.erase) := by kernel_rfl

theorem ok0 : EnvOk Try.prog nm E0 := by
  intro f n hf af ha
  unfold nm at hf
  split at hf
  · injection hf with hf
    subst hf
    have e : some _ = some af := ha
    injection e with e
    subst e
    exact .inl ⟨_, Try.func73, c_octet_Get⟩
  · injection hf with hf
    subst hf
    have e : some _ = some af := ha
    injection e with e
    subst e
    exact .inl ⟨_, Try.func31, c_ref01_SameBytes⟩
  · injection hf with hf
    subst hf
    have e : some _ = some af := ha
    injection e with e
    subst e
    exact .inl ⟨_, Try.func28, c_ref01_Join⟩
  · injection hf with hf
    subst hf
    have e : some _ = some af := ha
    injection e with e
    subst e
    exact .inl ⟨_, Try.func59, c_octet_Put⟩
  · injection hf with hf
    subst hf
    have e : some _ = some af := ha
    injection e with e
    subst e
    exact .inl ⟨_, Try.func60, c_ref01_Put⟩
  · injection hf with hf
    subst hf
    have e : some _ = some af := ha
    injection e with e
    subst e
    exact .inl ⟨_, Try.func70, c_octet_spans⟩
  · injection hf with hf
    subst hf
    have e : some _ = some af := ha
    injection e with e
    subst e
    exact .inl ⟨_, Try.func72, c_ref01_place⟩
  · injection hf with hf
    subst hf
    have e : some _ = some af := ha
    injection e with e
    subst e
    exact .inl ⟨_, Try.func71, c_ref01_fits⟩
  · injection hf with hf
    subst hf
    have e : some _ = some af := ha
    injection e with e
    subst e
    exact .inl ⟨_, Try.func7, c_law13_PortsReads⟩
  · injection hf with hf
    subst hf
    have e : some _ = some af := ha
    injection e with e
    subst e
    exact .inl ⟨_, Try.func8, c_law13_PortsWrites⟩
  · injection hf with hf
    subst hf
    have e : some _ = some af := ha
    injection e with e
    subst e
    exact .inl ⟨_, Try.func9, c_law13_PortsBack⟩
  · injection hf with hf
    subst hf
    have e : some _ = some af := ha
    injection e with e
    subst e
    exact .inl ⟨_, Try.func32, c_ports_Read⟩
  · injection hf with hf
    subst hf
    have e : some _ = some af := ha
    injection e with e
    subst e
    exact .inl ⟨_, Try.func33, c_ref13_Read⟩
  · injection hf with hf
    subst hf
    have e : some _ = some af := ha
    injection e with e
    subst e
    exact .inl ⟨_, Try.func34, c_law13_live⟩
  · injection hf with hf
    subst hf
    have e : some _ = some af := ha
    injection e with e
    subst e
    exact .inl ⟨_, Try.func35, c_ports_Least⟩
  · injection hf with hf
    subst hf
    have e : some _ = some af := ha
    injection e with e
    subst e
    exact .inl ⟨_, Try.func36, c_ref13_Least⟩
  · injection hf with hf
    subst hf
    have e : some _ = some af := ha
    injection e with e
    subst e
    exact .inl ⟨_, Try.func37, c_ports_Write⟩
  · injection hf with hf
    subst hf
    have e : some _ = some af := ha
    injection e with e
    subst e
    exact .inl ⟨_, Try.func38, c_ref13_Write⟩
  · injection hf with hf
    subst hf
    have e : some _ = some af := ha
    injection e with e
    subst e
    exact .inl ⟨_, Try.func61, c_ports_sound⟩
  · injection hf with hf
    subst hf
    have e : some _ = some af := ha
    injection e with e
    subst e
    exact .inl ⟨_, Try.func62, c_ports_field⟩
  · injection hf with hf
    subst hf
    have e : some _ = some af := ha
    injection e with e
    subst e
    exact .inl ⟨_, Try.func63, c_ref13_two⟩
  · cases hf

theorem dynT : DynTab Try.prog nm tbl := by
  intro e he
  simp only [tbl, List.mem_cons, List.not_mem_nil, or_false] at he
  try exact he.elim

theorem mixed : Try.prog.follows .mixedOrders = true := Try.checked.mixed

theorem calls0 : CallsOk Try.prog nm (callA E0) := calls_sound mixed ok0 (.inr ⟨_, rfl, dynT⟩)

theorem run_law13_live : aloneE E0 4000 [(.tmp 0)] law13_live_B.erase true = true := by kernel_rfl
theorem alone_law13_live : ∀ args h v h', alone true args h = some (v, h') → CallOk Try.prog 34 args h v h' := by
  obtain ⟨h1, hx⟩ := aloneE_ok (E := E0) (f := "law13.live") rfl run_law13_live
  exact alone_ok (calls0.1 _ _ _ _ _ hx 34 rfl)

/-- The environment: the functions that answer true alone stand for themselves. -/
def E : Env := fun s => match s with
  | "law01.OctetGets" => some (.code [(.tmp 6)] law01_OctetGets_B.erase)
  | "law01.OctetPuts" => some (.code [(.tmp 6)] law01_OctetPuts_B.erase)
  | "law01.OctetBits" => some (.code [(.tmp 6)] law01_OctetBits_B.erase)
  | "law01.OctetHex" => some (.code [(.tmp 4)] law01_OctetHex_B.erase)
  | "law01.OctetBack" => some (.code [(.tmp 6)] law01_OctetBack_B.erase)
  | "octet.Get" => some (.code [(.tmp 6), (.tmp 7)] octet_Get_B.erase)
  | "ref01.Get" => some (.code [(.tmp 6), (.tmp 7)] ref01_Get_B.erase)
  | "octet.Cut" => some (.code [(.tmp 6), (.tmp 7)] octet_Cut_B.erase)
  | "ref01.Cut" => some (.code [(.tmp 6), (.tmp 7)] ref01_Cut_B.erase)
  | "law01.live" => some (.prim (alone true))
  | "ref01.SameBytes" => some (.code [(.tmp 4)] ref01_SameBytes_B.erase)
  | "ref01.Join" => some (.code [(.tmp 2)] ref01_Join_B.erase)
  | "octet.Put" => some (.code [(.tmp 8), (.tmp 9)] octet_Put_B.erase)
  | "ref01.Put" => some (.code [(.tmp 8), (.tmp 9)] ref01_Put_B.erase)
  | "octet.Bits" => some (.code [(.tmp 6)] octet_Bits_B.erase)
  | "ref01.Bits" => some (.code [(.tmp 6)] ref01_Bits_B.erase)
  | "octet.SetBits" => some (.code [(.tmp 8)] octet_SetBits_B.erase)
  | "ref01.SetBits" => some (.code [(.tmp 8)] ref01_SetBits_B.erase)
  | "octet.Hex" => some (.code [(.tmp 2)] octet_Hex_B.erase)
  | "ref01.Hex" => some (.code [(.tmp 2)] ref01_Hex_B.erase)
  | "octet.Unhex" => some (.code [(.tmp 2), (.cell 3 (some 2))] octet_Unhex_B.erase)
  | "ref01.Unhex" => some (.code [(.tmp 2), (.cell 3 (some 2))] ref01_Unhex_B.erase)
  | "octet.spans" => some (.code [(.tmp 6)] octet_spans_B.erase)
  | "ref01.place" => some (.code [(.tmp 6)] ref01_place_B.erase)
  | "ref01.fits" => some (.code [(.tmp 4)] ref01_fits_B.erase)
  | "octet.inside" => some (.code [(.tmp 4)] octet_inside_B.erase)
  | "octet.mask" => some (.code [(.tmp 2)] octet_mask_B.erase)
  | "ref01.are" => some (.code [(.tmp 4)] ref01_are_B.erase)
  | "ref01.bit" => some (.code [(.tmp 4)] ref01_bit_B.erase)
  | "octet.nibble" => some (.code [(.tmp 2), (.tmp 3)] octet_nibble_B.erase)
  | "ref01.digit" => some (.code [(.tmp 2)] ref01_digit_B.erase)
  | "law13.PortsReads" => some (.code [(.tmp 6)] law13_PortsReads_B.erase)
  | "law13.PortsWrites" => some (.code [(.tmp 6)] law13_PortsWrites_B.erase)
  | "law13.PortsBack" => some (.code [(.tmp 6)] law13_PortsBack_B.erase)
  | "ports.Read" => some (.code [(.tmp 6), (.tmp 7), (.tmp 8)] ports_Read_B.erase)
  | "ref13.Read" => some (.code [(.tmp 6), (.tmp 7), (.tmp 8)] ref13_Read_B.erase)
  | "law13.live" => some (.prim (alone true))
  | "ports.Least" => some (.code [(.tmp 2)] ports_Least_B.erase)
  | "ref13.Least" => some (.code [(.tmp 2)] ref13_Least_B.erase)
  | "ports.Write" => some (.code [(.tmp 8), (.tmp 9)] ports_Write_B.erase)
  | "ref13.Write" => some (.code [(.tmp 8), (.tmp 9)] ref13_Write_B.erase)
  | "ports.sound" => some (.code [(.tmp 6)] ports_sound_B.erase)
  | "ports.field" => some (.code [(.tmp 4)] ports_field_B.erase)
  | "ref13.two" => some (.code [(.tmp 4)] ref13_two_B.erase)
  | "@dyn" => some (.dyn tbl)
  | _ => none

theorem ok1 : EnvOk Try.prog nm E := by
  intro f n hf af ha
  unfold nm at hf
  split at hf
  · injection hf with hf
    subst hf
    have e : some _ = some af := ha
    injection e with e
    subst e
    exact .inl ⟨_, Try.func73, c_octet_Get⟩
  · injection hf with hf
    subst hf
    have e : some _ = some af := ha
    injection e with e
    subst e
    exact .inl ⟨_, Try.func31, c_ref01_SameBytes⟩
  · injection hf with hf
    subst hf
    have e : some _ = some af := ha
    injection e with e
    subst e
    exact .inl ⟨_, Try.func28, c_ref01_Join⟩
  · injection hf with hf
    subst hf
    have e : some _ = some af := ha
    injection e with e
    subst e
    exact .inl ⟨_, Try.func59, c_octet_Put⟩
  · injection hf with hf
    subst hf
    have e : some _ = some af := ha
    injection e with e
    subst e
    exact .inl ⟨_, Try.func60, c_ref01_Put⟩
  · injection hf with hf
    subst hf
    have e : some _ = some af := ha
    injection e with e
    subst e
    exact .inl ⟨_, Try.func70, c_octet_spans⟩
  · injection hf with hf
    subst hf
    have e : some _ = some af := ha
    injection e with e
    subst e
    exact .inl ⟨_, Try.func72, c_ref01_place⟩
  · injection hf with hf
    subst hf
    have e : some _ = some af := ha
    injection e with e
    subst e
    exact .inl ⟨_, Try.func71, c_ref01_fits⟩
  · injection hf with hf
    subst hf
    have e : some _ = some af := ha
    injection e with e
    subst e
    exact .inl ⟨_, Try.func7, c_law13_PortsReads⟩
  · injection hf with hf
    subst hf
    have e : some _ = some af := ha
    injection e with e
    subst e
    exact .inl ⟨_, Try.func8, c_law13_PortsWrites⟩
  · injection hf with hf
    subst hf
    have e : some _ = some af := ha
    injection e with e
    subst e
    exact .inl ⟨_, Try.func9, c_law13_PortsBack⟩
  · injection hf with hf
    subst hf
    have e : some _ = some af := ha
    injection e with e
    subst e
    exact .inl ⟨_, Try.func32, c_ports_Read⟩
  · injection hf with hf
    subst hf
    have e : some _ = some af := ha
    injection e with e
    subst e
    exact .inl ⟨_, Try.func33, c_ref13_Read⟩
  · injection hf with hf
    subst hf
    have e : some (AFun.prim (alone true)) = some af := ha
    injection e with e
    subst e
    exact .inr ⟨_, rfl, alone_law13_live⟩
  · injection hf with hf
    subst hf
    have e : some _ = some af := ha
    injection e with e
    subst e
    exact .inl ⟨_, Try.func35, c_ports_Least⟩
  · injection hf with hf
    subst hf
    have e : some _ = some af := ha
    injection e with e
    subst e
    exact .inl ⟨_, Try.func36, c_ref13_Least⟩
  · injection hf with hf
    subst hf
    have e : some _ = some af := ha
    injection e with e
    subst e
    exact .inl ⟨_, Try.func37, c_ports_Write⟩
  · injection hf with hf
    subst hf
    have e : some _ = some af := ha
    injection e with e
    subst e
    exact .inl ⟨_, Try.func38, c_ref13_Write⟩
  · injection hf with hf
    subst hf
    have e : some _ = some af := ha
    injection e with e
    subst e
    exact .inl ⟨_, Try.func61, c_ports_sound⟩
  · injection hf with hf
    subst hf
    have e : some _ = some af := ha
    injection e with e
    subst e
    exact .inl ⟨_, Try.func62, c_ports_field⟩
  · injection hf with hf
    subst hf
    have e : some _ = some af := ha
    injection e with e
    subst e
    exact .inl ⟨_, Try.func63, c_ref13_two⟩
  · cases hf

theorem calls1 : CallsOk Try.prog nm (callA E) := calls_sound mixed ok1 (.inr ⟨_, rfl, dynT⟩)

def EW : EnvW := EnvW.mk (fun s => match s with
    | "law01.OctetGets" => some law01_OctetGets
    | "law01.OctetPuts" => some law01_OctetPuts
    | "law01.OctetBits" => some law01_OctetBits
    | "law01.OctetHex" => some law01_OctetHex
    | "law01.OctetBack" => some law01_OctetBack
    | "octet.Get" => some octet_Get
    | "ref01.Get" => some ref01_Get
    | "octet.Cut" => some octet_Cut
    | "ref01.Cut" => some ref01_Cut
    | "law01.live" => some (.prim aloneT)
    | "ref01.SameBytes" => some ref01_SameBytes
    | "ref01.Join" => some ref01_Join
    | "octet.Put" => some octet_Put
    | "ref01.Put" => some ref01_Put
    | "octet.Bits" => some octet_Bits
    | "ref01.Bits" => some ref01_Bits
    | "octet.SetBits" => some octet_SetBits
    | "ref01.SetBits" => some ref01_SetBits
    | "octet.Hex" => some octet_Hex
    | "ref01.Hex" => some ref01_Hex
    | "octet.Unhex" => some octet_Unhex
    | "ref01.Unhex" => some ref01_Unhex
    | "octet.spans" => some octet_spans
    | "ref01.place" => some ref01_place
    | "ref01.fits" => some ref01_fits
    | "octet.inside" => some octet_inside
    | "octet.mask" => some octet_mask
    | "ref01.are" => some ref01_are
    | "ref01.bit" => some ref01_bit
    | "octet.nibble" => some octet_nibble
    | "ref01.digit" => some ref01_digit
    | "law13.PortsReads" => some law13_PortsReads
    | "law13.PortsWrites" => some law13_PortsWrites
    | "law13.PortsBack" => some law13_PortsBack
    | "ports.Read" => some ports_Read
    | "ref13.Read" => some ref13_Read
    | "law13.live" => some (.prim aloneT)
    | "ports.Least" => some ports_Least
    | "ref13.Least" => some ref13_Least
    | "ports.Write" => some ports_Write
    | "ref13.Write" => some ref13_Write
    | "ports.sound" => some ports_sound
    | "ports.field" => some ports_field
    | "ref13.two" => some ref13_two
    | _ => none) tbl

theorem sim : EnvSim EW E := by
  refine ⟨rfl, fun f wf hf => ?_⟩
  simp only [EW] at hf
  split at hf
  · injection hf with hf; subst hf; exact .inl ⟨_, _, rfl, rfl⟩
  · injection hf with hf; subst hf; exact .inl ⟨_, _, rfl, rfl⟩
  · injection hf with hf; subst hf; exact .inl ⟨_, _, rfl, rfl⟩
  · injection hf with hf; subst hf; exact .inl ⟨_, _, rfl, rfl⟩
  · injection hf with hf; subst hf; exact .inl ⟨_, _, rfl, rfl⟩
  · injection hf with hf; subst hf; exact .inl ⟨_, _, rfl, rfl⟩
  · injection hf with hf; subst hf; exact .inl ⟨_, _, rfl, rfl⟩
  · injection hf with hf; subst hf; exact .inl ⟨_, _, rfl, rfl⟩
  · injection hf with hf; subst hf; exact .inl ⟨_, _, rfl, rfl⟩
  · injection hf with hf; subst hf; exact .inr ⟨_, rfl, alone_sim rfl⟩
  · injection hf with hf; subst hf; exact .inl ⟨_, _, rfl, rfl⟩
  · injection hf with hf; subst hf; exact .inl ⟨_, _, rfl, rfl⟩
  · injection hf with hf; subst hf; exact .inl ⟨_, _, rfl, rfl⟩
  · injection hf with hf; subst hf; exact .inl ⟨_, _, rfl, rfl⟩
  · injection hf with hf; subst hf; exact .inl ⟨_, _, rfl, rfl⟩
  · injection hf with hf; subst hf; exact .inl ⟨_, _, rfl, rfl⟩
  · injection hf with hf; subst hf; exact .inl ⟨_, _, rfl, rfl⟩
  · injection hf with hf; subst hf; exact .inl ⟨_, _, rfl, rfl⟩
  · injection hf with hf; subst hf; exact .inl ⟨_, _, rfl, rfl⟩
  · injection hf with hf; subst hf; exact .inl ⟨_, _, rfl, rfl⟩
  · injection hf with hf; subst hf; exact .inl ⟨_, _, rfl, rfl⟩
  · injection hf with hf; subst hf; exact .inl ⟨_, _, rfl, rfl⟩
  · injection hf with hf; subst hf; exact .inl ⟨_, _, rfl, rfl⟩
  · injection hf with hf; subst hf; exact .inl ⟨_, _, rfl, rfl⟩
  · injection hf with hf; subst hf; exact .inl ⟨_, _, rfl, rfl⟩
  · injection hf with hf; subst hf; exact .inl ⟨_, _, rfl, rfl⟩
  · injection hf with hf; subst hf; exact .inl ⟨_, _, rfl, rfl⟩
  · injection hf with hf; subst hf; exact .inl ⟨_, _, rfl, rfl⟩
  · injection hf with hf; subst hf; exact .inl ⟨_, _, rfl, rfl⟩
  · injection hf with hf; subst hf; exact .inl ⟨_, _, rfl, rfl⟩
  · injection hf with hf; subst hf; exact .inl ⟨_, _, rfl, rfl⟩
  · injection hf with hf; subst hf; exact .inl ⟨_, _, rfl, rfl⟩
  · injection hf with hf; subst hf; exact .inl ⟨_, _, rfl, rfl⟩
  · injection hf with hf; subst hf; exact .inl ⟨_, _, rfl, rfl⟩
  · injection hf with hf; subst hf; exact .inl ⟨_, _, rfl, rfl⟩
  · injection hf with hf; subst hf; exact .inl ⟨_, _, rfl, rfl⟩
  · injection hf with hf; subst hf; exact .inr ⟨_, rfl, alone_sim rfl⟩
  · injection hf with hf; subst hf; exact .inl ⟨_, _, rfl, rfl⟩
  · injection hf with hf; subst hf; exact .inl ⟨_, _, rfl, rfl⟩
  · injection hf with hf; subst hf; exact .inl ⟨_, _, rfl, rfl⟩
  · injection hf with hf; subst hf; exact .inl ⟨_, _, rfl, rfl⟩
  · injection hf with hf; subst hf; exact .inl ⟨_, _, rfl, rfl⟩
  · injection hf with hf; subst hf; exact .inl ⟨_, _, rfl, rfl⟩
  · injection hf with hf; subst hf; exact .inl ⟨_, _, rfl, rfl⟩
  · cases hf

theorem own : ownKnob Try.prog.godebug = none := by kernel_rfl
theorem laidOut : laidOutB Try.prog = true := by kernel_rfl

mutual
theorem bulk_eq {H : Type} : ∀ d : DataW H, Rows.uptoBulk d = bulkW d
  | .lit l => by cases l <;> rfl
  | .nil => rfl
  | .ptr d => by simp only [Rows.uptoBulk, bulkW, bulk_eq d]
  | .slice a b => by simp only [Rows.uptoBulk, bulkW, bulk_eqs a, bulk_eqs b]
  | .agg a => by simp only [Rows.uptoBulk, bulkW, bulk_eqs a]
  | .iface _ d => by simp only [Rows.uptoBulk, bulkW, bulk_eq d]
  | .map a => by simp only [Rows.uptoBulk, bulkW, bulk_eqe a]
  | .held _ => rfl
theorem bulk_eqs {H : Type} : ∀ l : List (DataW H), Rows.uptoBulkAll l = bulkWs l
  | [] => rfl
  | d :: r => by simp only [Rows.uptoBulkAll, bulkWs, bulk_eq d, bulk_eqs r]
theorem bulk_eqe {H : Type} : ∀ l : List (Lit × DataW H), Rows.uptoBulkEntries l = bulkWe l
  | [] => rfl
  | d :: r => by simp only [Rows.uptoBulkEntries, bulkWe, bulk_eqx d, bulk_eqe r]
theorem bulk_eqx {H : Type} : ∀ x : Lit × DataW H, Rows.uptoBulkEntry x = bulkWx x
  | (l, d) => by cases l <;> simp only [Rows.uptoBulkEntry, bulkWx, bulk_eq d]
end

theorem bulk_small {H : Type} {l : List (DataW H)} (hk : Rows.uptoSmall H l = true) : bulkWs l ≤ 1048576 := by
  have h : Rows.uptoBulkAll l ≤ 1048576 := of_decide_eq_true hk
  rw [bulk_eqs] at h
  exact h

theorem env_WbvC01 : WbvC01Env EW := ⟨rfl, rfl, rfl, rfl, rfl, rfl, rfl, rfl, rfl, rfl, rfl, rfl, rfl, rfl, rfl, rfl, rfl, rfl, rfl, rfl, rfl, rfl, rfl, rfl, rfl, rfl, rfl, rfl, rfl, rfl, rfl⟩

theorem env_WbvC13 : WbvC13Env EW := ⟨rfl, rfl, rfl, rfl, rfl, rfl, rfl, rfl, rfl, rfl, rfl, rfl, rfl⟩

end Go.Proofs.Ytikejeihmhpabaa.Wb

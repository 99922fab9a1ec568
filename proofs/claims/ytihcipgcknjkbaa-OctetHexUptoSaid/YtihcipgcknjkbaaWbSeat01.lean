/- The functions of this seat's program, as the abstract machine has them: their names, their code, and that it is their code. -/
import Derived.Test.YtihcipgcknjkbaaRows
import Derived.Test.YtihcipgcknjkbaaWbLaw
import Derived.Test.YtihcipgcknjkbaaWbEval
import Derived.JoinedCond
import Derived.Deep.CondSized
import Derived.Test.YtihcipgcknjkbaaWbC01
set_option maxRecDepth 100000
namespace Go.Proofs.Ytihcipgcknjkbaa.Wb
open Go Go.Wb Go.Wb.Code

def nm : Names := fun f => match f with
  | 4 => some "law01.OctetGets"
  | 5 => some "law01.OctetPuts"
  | 6 => some "law01.OctetBits"
  | 7 => some "law01.OctetHex"
  | 8 => some "law01.OctetBack"
  | 20 => some "octet.Get"
  | 21 => some "ref01.Get"
  | 22 => some "octet.Cut"
  | 23 => some "ref01.Cut"
  | 24 => some "law01.live"
  | 25 => some "ref01.SameBytes"
  | 26 => some "ref01.Join"
  | 27 => some "octet.Put"
  | 28 => some "ref01.Put"
  | 29 => some "octet.Bits"
  | 30 => some "ref01.Bits"
  | 31 => some "octet.SetBits"
  | 32 => some "ref01.SetBits"
  | 33 => some "octet.Hex"
  | 34 => some "ref01.Hex"
  | 35 => some "octet.Unhex"
  | 36 => some "ref01.Unhex"
  | 52 => some "octet.spans"
  | 53 => some "ref01.place"
  | 54 => some "ref01.fits"
  | 55 => some "octet.inside"
  | 56 => some "octet.mask"
  | 57 => some "ref01.are"
  | 58 => some "ref01.bit"
  | 59 => some "octet.nibble"
  | 60 => some "ref01.digit"
  | _ => none

def E0 : Env := fun s => match s with
  | "law01.OctetGets" => some law01_OctetGets
  | "law01.OctetPuts" => some law01_OctetPuts
  | "law01.OctetBits" => some law01_OctetBits
  | "law01.OctetHex" => some law01_OctetHex
  | "law01.OctetBack" => some law01_OctetBack
  | "octet.Get" => some octet_Get
  | "ref01.Get" => some ref01_Get
  | "octet.Cut" => some octet_Cut
  | "ref01.Cut" => some ref01_Cut
  | "law01.live" => some law01_live
  | "ref01.SameBytes" => some ref01_SameBytes
  | "ref01.Join" => some ref01_Join
  | "octet.Put" => some octet_Put
  | "ref01.Put" => some ref01_Put
  | "octet.Bits" => some octet_Bits
  | "ref01.Bits" => some ref01_Bits
  | "octet.SetBits" => some octet_SetBits
  | "ref01.SetBits" => some ref01_SetBits
  | "octet.Hex" => some octet_Hex
  | "ref01.Hex" => some ref01_Hex
  | "octet.Unhex" => some octet_Unhex
  | "ref01.Unhex" => some ref01_Unhex
  | "octet.spans" => some octet_spans
  | "ref01.place" => some ref01_place
  | "ref01.fits" => some ref01_fits
  | "octet.inside" => some octet_inside
  | "octet.mask" => some octet_mask
  | "ref01.are" => some ref01_are
  | "ref01.bit" => some ref01_bit
  | "octet.nibble" => some octet_nibble
  | "ref01.digit" => some ref01_digit
  | _ => none

theorem c_law01_OctetGets : compileFun Try.prog nm Try.f4 = some law01_OctetGets := by kernel_rfl
theorem c_law01_OctetPuts : compileFun Try.prog nm Try.f5 = some law01_OctetPuts := by kernel_rfl
theorem c_law01_OctetBits : compileFun Try.prog nm Try.f6 = some law01_OctetBits := by kernel_rfl
theorem c_law01_OctetHex : compileFun Try.prog nm Try.f7 = some law01_OctetHex := by kernel_rfl
theorem c_law01_OctetBack : compileFun Try.prog nm Try.f8 = some law01_OctetBack := by kernel_rfl
theorem c_octet_Get : compileFun Try.prog nm Try.f20 = some octet_Get := by kernel_rfl
theorem c_ref01_Get : compileFun Try.prog nm Try.f21 = some ref01_Get := by kernel_rfl
theorem c_octet_Cut : compileFun Try.prog nm Try.f22 = some octet_Cut := by kernel_rfl
theorem c_ref01_Cut : compileFun Try.prog nm Try.f23 = some ref01_Cut := by kernel_rfl
theorem c_law01_live : compileFun Try.prog nm Try.f24 = some law01_live := by kernel_rfl
theorem c_ref01_SameBytes : compileFun Try.prog nm Try.f25 = some ref01_SameBytes := by kernel_rfl
theorem c_ref01_Join : compileFun Try.prog nm Try.f26 = some ref01_Join := by kernel_rfl
theorem c_octet_Put : compileFun Try.prog nm Try.f27 = some octet_Put := by kernel_rfl
theorem c_ref01_Put : compileFun Try.prog nm Try.f28 = some ref01_Put := by kernel_rfl
theorem c_octet_Bits : compileFun Try.prog nm Try.f29 = some octet_Bits := by kernel_rfl
theorem c_ref01_Bits : compileFun Try.prog nm Try.f30 = some ref01_Bits := by kernel_rfl
theorem c_octet_SetBits : compileFun Try.prog nm Try.f31 = some octet_SetBits := by kernel_rfl
theorem c_ref01_SetBits : compileFun Try.prog nm Try.f32 = some ref01_SetBits := by kernel_rfl
theorem c_octet_Hex : compileFun Try.prog nm Try.f33 = some octet_Hex := by kernel_rfl
theorem c_ref01_Hex : compileFun Try.prog nm Try.f34 = some ref01_Hex := by kernel_rfl
theorem c_octet_Unhex : compileFun Try.prog nm Try.f35 = some octet_Unhex := by kernel_rfl
theorem c_ref01_Unhex : compileFun Try.prog nm Try.f36 = some ref01_Unhex := by kernel_rfl
theorem c_octet_spans : compileFun Try.prog nm Try.f52 = some octet_spans := by kernel_rfl
theorem c_ref01_place : compileFun Try.prog nm Try.f53 = some ref01_place := by kernel_rfl
theorem c_ref01_fits : compileFun Try.prog nm Try.f54 = some ref01_fits := by kernel_rfl
theorem c_octet_inside : compileFun Try.prog nm Try.f55 = some octet_inside := by kernel_rfl
theorem c_octet_mask : compileFun Try.prog nm Try.f56 = some octet_mask := by kernel_rfl
theorem c_ref01_are : compileFun Try.prog nm Try.f57 = some ref01_are := by kernel_rfl
theorem c_ref01_bit : compileFun Try.prog nm Try.f58 = some ref01_bit := by kernel_rfl
theorem c_octet_nibble : compileFun Try.prog nm Try.f59 = some octet_nibble := by kernel_rfl
theorem c_ref01_digit : compileFun Try.prog nm Try.f60 = some ref01_digit := by kernel_rfl

theorem ok0 : EnvOk Try.prog nm E0 := by
  intro f n hf af ha
  unfold nm at hf
  split at hf
  · injection hf with hf
    subst hf
    have e : some law01_OctetGets = some af := ha
    injection e with e
    subst e
    exact .inl ⟨_, Try.func4, c_law01_OctetGets⟩
  · injection hf with hf
    subst hf
    have e : some law01_OctetPuts = some af := ha
    injection e with e
    subst e
    exact .inl ⟨_, Try.func5, c_law01_OctetPuts⟩
  · injection hf with hf
    subst hf
    have e : some law01_OctetBits = some af := ha
    injection e with e
    subst e
    exact .inl ⟨_, Try.func6, c_law01_OctetBits⟩
  · injection hf with hf
    subst hf
    have e : some law01_OctetHex = some af := ha
    injection e with e
    subst e
    exact .inl ⟨_, Try.func7, c_law01_OctetHex⟩
  · injection hf with hf
    subst hf
    have e : some law01_OctetBack = some af := ha
    injection e with e
    subst e
    exact .inl ⟨_, Try.func8, c_law01_OctetBack⟩
  · injection hf with hf
    subst hf
    have e : some octet_Get = some af := ha
    injection e with e
    subst e
    exact .inl ⟨_, Try.func20, c_octet_Get⟩
  · injection hf with hf
    subst hf
    have e : some ref01_Get = some af := ha
    injection e with e
    subst e
    exact .inl ⟨_, Try.func21, c_ref01_Get⟩
  · injection hf with hf
    subst hf
    have e : some octet_Cut = some af := ha
    injection e with e
    subst e
    exact .inl ⟨_, Try.func22, c_octet_Cut⟩
  · injection hf with hf
    subst hf
    have e : some ref01_Cut = some af := ha
    injection e with e
    subst e
    exact .inl ⟨_, Try.func23, c_ref01_Cut⟩
  · injection hf with hf
    subst hf
    have e : some law01_live = some af := ha
    injection e with e
    subst e
    exact .inl ⟨_, Try.func24, c_law01_live⟩
  · injection hf with hf
    subst hf
    have e : some ref01_SameBytes = some af := ha
    injection e with e
    subst e
    exact .inl ⟨_, Try.func25, c_ref01_SameBytes⟩
  · injection hf with hf
    subst hf
    have e : some ref01_Join = some af := ha
    injection e with e
    subst e
    exact .inl ⟨_, Try.func26, c_ref01_Join⟩
  · injection hf with hf
    subst hf
    have e : some octet_Put = some af := ha
    injection e with e
    subst e
    exact .inl ⟨_, Try.func27, c_octet_Put⟩
  · injection hf with hf
    subst hf
    have e : some ref01_Put = some af := ha
    injection e with e
    subst e
    exact .inl ⟨_, Try.func28, c_ref01_Put⟩
  · injection hf with hf
    subst hf
    have e : some octet_Bits = some af := ha
    injection e with e
    subst e
    exact .inl ⟨_, Try.func29, c_octet_Bits⟩
  · injection hf with hf
    subst hf
    have e : some ref01_Bits = some af := ha
    injection e with e
    subst e
    exact .inl ⟨_, Try.func30, c_ref01_Bits⟩
  · injection hf with hf
    subst hf
    have e : some octet_SetBits = some af := ha
    injection e with e
    subst e
    exact .inl ⟨_, Try.func31, c_octet_SetBits⟩
  · injection hf with hf
    subst hf
    have e : some ref01_SetBits = some af := ha
    injection e with e
    subst e
    exact .inl ⟨_, Try.func32, c_ref01_SetBits⟩
  · injection hf with hf
    subst hf
    have e : some octet_Hex = some af := ha
    injection e with e
    subst e
    exact .inl ⟨_, Try.func33, c_octet_Hex⟩
  · injection hf with hf
    subst hf
    have e : some ref01_Hex = some af := ha
    injection e with e
    subst e
    exact .inl ⟨_, Try.func34, c_ref01_Hex⟩
  · injection hf with hf
    subst hf
    have e : some octet_Unhex = some af := ha
    injection e with e
    subst e
    exact .inl ⟨_, Try.func35, c_octet_Unhex⟩
  · injection hf with hf
    subst hf
    have e : some ref01_Unhex = some af := ha
    injection e with e
    subst e
    exact .inl ⟨_, Try.func36, c_ref01_Unhex⟩
  · injection hf with hf
    subst hf
    have e : some octet_spans = some af := ha
    injection e with e
    subst e
    exact .inl ⟨_, Try.func52, c_octet_spans⟩
  · injection hf with hf
    subst hf
    have e : some ref01_place = some af := ha
    injection e with e
    subst e
    exact .inl ⟨_, Try.func53, c_ref01_place⟩
  · injection hf with hf
    subst hf
    have e : some ref01_fits = some af := ha
    injection e with e
    subst e
    exact .inl ⟨_, Try.func54, c_ref01_fits⟩
  · injection hf with hf
    subst hf
    have e : some octet_inside = some af := ha
    injection e with e
    subst e
    exact .inl ⟨_, Try.func55, c_octet_inside⟩
  · injection hf with hf
    subst hf
    have e : some octet_mask = some af := ha
    injection e with e
    subst e
    exact .inl ⟨_, Try.func56, c_octet_mask⟩
  · injection hf with hf
    subst hf
    have e : some ref01_are = some af := ha
    injection e with e
    subst e
    exact .inl ⟨_, Try.func57, c_ref01_are⟩
  · injection hf with hf
    subst hf
    have e : some ref01_bit = some af := ha
    injection e with e
    subst e
    exact .inl ⟨_, Try.func58, c_ref01_bit⟩
  · injection hf with hf
    subst hf
    have e : some octet_nibble = some af := ha
    injection e with e
    subst e
    exact .inl ⟨_, Try.func59, c_octet_nibble⟩
  · injection hf with hf
    subst hf
    have e : some ref01_digit = some af := ha
    injection e with e
    subst e
    exact .inl ⟨_, Try.func60, c_ref01_digit⟩
  · cases hf

theorem mixed : Try.prog.follows .mixedOrders = true := Try.checked.mixed

theorem calls0 : CallsOk Try.prog nm (callA E0) := calls_sound mixed ok0

theorem run_law01_live : aloneE E0 4000 [(.tmp 0)] law01_live_B true = true := by kernel_rfl
theorem alone_law01_live : ∀ args h v h', alone true args h = some (v, h') → CallOk Try.prog 24 args h v h' := by
  obtain ⟨h1, hx⟩ := aloneE_ok (E := E0) (f := "law01.live") rfl run_law01_live
  exact alone_ok (calls0 _ _ _ _ _ hx 24 rfl)

/-- The environment: the functions that answer true alone stand for themselves. -/
def E : Env := fun s => match s with
  | "law01.OctetGets" => some law01_OctetGets
  | "law01.OctetPuts" => some law01_OctetPuts
  | "law01.OctetBits" => some law01_OctetBits
  | "law01.OctetHex" => some law01_OctetHex
  | "law01.OctetBack" => some law01_OctetBack
  | "octet.Get" => some octet_Get
  | "ref01.Get" => some ref01_Get
  | "octet.Cut" => some octet_Cut
  | "ref01.Cut" => some ref01_Cut
  | "law01.live" => some (.prim (alone true))
  | "ref01.SameBytes" => some ref01_SameBytes
  | "ref01.Join" => some ref01_Join
  | "octet.Put" => some octet_Put
  | "ref01.Put" => some ref01_Put
  | "octet.Bits" => some octet_Bits
  | "ref01.Bits" => some ref01_Bits
  | "octet.SetBits" => some octet_SetBits
  | "ref01.SetBits" => some ref01_SetBits
  | "octet.Hex" => some octet_Hex
  | "ref01.Hex" => some ref01_Hex
  | "octet.Unhex" => some octet_Unhex
  | "ref01.Unhex" => some ref01_Unhex
  | "octet.spans" => some octet_spans
  | "ref01.place" => some ref01_place
  | "ref01.fits" => some ref01_fits
  | "octet.inside" => some octet_inside
  | "octet.mask" => some octet_mask
  | "ref01.are" => some ref01_are
  | "ref01.bit" => some ref01_bit
  | "octet.nibble" => some octet_nibble
  | "ref01.digit" => some ref01_digit
  | _ => none

theorem ok1 : EnvOk Try.prog nm E := by
  intro f n hf af ha
  unfold nm at hf
  split at hf
  · injection hf with hf
    subst hf
    have e : some law01_OctetGets = some af := ha
    injection e with e
    subst e
    exact .inl ⟨_, Try.func4, c_law01_OctetGets⟩
  · injection hf with hf
    subst hf
    have e : some law01_OctetPuts = some af := ha
    injection e with e
    subst e
    exact .inl ⟨_, Try.func5, c_law01_OctetPuts⟩
  · injection hf with hf
    subst hf
    have e : some law01_OctetBits = some af := ha
    injection e with e
    subst e
    exact .inl ⟨_, Try.func6, c_law01_OctetBits⟩
  · injection hf with hf
    subst hf
    have e : some law01_OctetHex = some af := ha
    injection e with e
    subst e
    exact .inl ⟨_, Try.func7, c_law01_OctetHex⟩
  · injection hf with hf
    subst hf
    have e : some law01_OctetBack = some af := ha
    injection e with e
    subst e
    exact .inl ⟨_, Try.func8, c_law01_OctetBack⟩
  · injection hf with hf
    subst hf
    have e : some octet_Get = some af := ha
    injection e with e
    subst e
    exact .inl ⟨_, Try.func20, c_octet_Get⟩
  · injection hf with hf
    subst hf
    have e : some ref01_Get = some af := ha
    injection e with e
    subst e
    exact .inl ⟨_, Try.func21, c_ref01_Get⟩
  · injection hf with hf
    subst hf
    have e : some octet_Cut = some af := ha
    injection e with e
    subst e
    exact .inl ⟨_, Try.func22, c_octet_Cut⟩
  · injection hf with hf
    subst hf
    have e : some ref01_Cut = some af := ha
    injection e with e
    subst e
    exact .inl ⟨_, Try.func23, c_ref01_Cut⟩
  · injection hf with hf
    subst hf
    have e : some (AFun.prim (alone true)) = some af := ha
    injection e with e
    subst e
    exact .inr ⟨_, rfl, alone_law01_live⟩
  · injection hf with hf
    subst hf
    have e : some ref01_SameBytes = some af := ha
    injection e with e
    subst e
    exact .inl ⟨_, Try.func25, c_ref01_SameBytes⟩
  · injection hf with hf
    subst hf
    have e : some ref01_Join = some af := ha
    injection e with e
    subst e
    exact .inl ⟨_, Try.func26, c_ref01_Join⟩
  · injection hf with hf
    subst hf
    have e : some octet_Put = some af := ha
    injection e with e
    subst e
    exact .inl ⟨_, Try.func27, c_octet_Put⟩
  · injection hf with hf
    subst hf
    have e : some ref01_Put = some af := ha
    injection e with e
    subst e
    exact .inl ⟨_, Try.func28, c_ref01_Put⟩
  · injection hf with hf
    subst hf
    have e : some octet_Bits = some af := ha
    injection e with e
    subst e
    exact .inl ⟨_, Try.func29, c_octet_Bits⟩
  · injection hf with hf
    subst hf
    have e : some ref01_Bits = some af := ha
    injection e with e
    subst e
    exact .inl ⟨_, Try.func30, c_ref01_Bits⟩
  · injection hf with hf
    subst hf
    have e : some octet_SetBits = some af := ha
    injection e with e
    subst e
    exact .inl ⟨_, Try.func31, c_octet_SetBits⟩
  · injection hf with hf
    subst hf
    have e : some ref01_SetBits = some af := ha
    injection e with e
    subst e
    exact .inl ⟨_, Try.func32, c_ref01_SetBits⟩
  · injection hf with hf
    subst hf
    have e : some octet_Hex = some af := ha
    injection e with e
    subst e
    exact .inl ⟨_, Try.func33, c_octet_Hex⟩
  · injection hf with hf
    subst hf
    have e : some ref01_Hex = some af := ha
    injection e with e
    subst e
    exact .inl ⟨_, Try.func34, c_ref01_Hex⟩
  · injection hf with hf
    subst hf
    have e : some octet_Unhex = some af := ha
    injection e with e
    subst e
    exact .inl ⟨_, Try.func35, c_octet_Unhex⟩
  · injection hf with hf
    subst hf
    have e : some ref01_Unhex = some af := ha
    injection e with e
    subst e
    exact .inl ⟨_, Try.func36, c_ref01_Unhex⟩
  · injection hf with hf
    subst hf
    have e : some octet_spans = some af := ha
    injection e with e
    subst e
    exact .inl ⟨_, Try.func52, c_octet_spans⟩
  · injection hf with hf
    subst hf
    have e : some ref01_place = some af := ha
    injection e with e
    subst e
    exact .inl ⟨_, Try.func53, c_ref01_place⟩
  · injection hf with hf
    subst hf
    have e : some ref01_fits = some af := ha
    injection e with e
    subst e
    exact .inl ⟨_, Try.func54, c_ref01_fits⟩
  · injection hf with hf
    subst hf
    have e : some octet_inside = some af := ha
    injection e with e
    subst e
    exact .inl ⟨_, Try.func55, c_octet_inside⟩
  · injection hf with hf
    subst hf
    have e : some octet_mask = some af := ha
    injection e with e
    subst e
    exact .inl ⟨_, Try.func56, c_octet_mask⟩
  · injection hf with hf
    subst hf
    have e : some ref01_are = some af := ha
    injection e with e
    subst e
    exact .inl ⟨_, Try.func57, c_ref01_are⟩
  · injection hf with hf
    subst hf
    have e : some ref01_bit = some af := ha
    injection e with e
    subst e
    exact .inl ⟨_, Try.func58, c_ref01_bit⟩
  · injection hf with hf
    subst hf
    have e : some octet_nibble = some af := ha
    injection e with e
    subst e
    exact .inl ⟨_, Try.func59, c_octet_nibble⟩
  · injection hf with hf
    subst hf
    have e : some ref01_digit = some af := ha
    injection e with e
    subst e
    exact .inl ⟨_, Try.func60, c_ref01_digit⟩
  · cases hf

theorem calls1 : CallsOk Try.prog nm (callA E) := calls_sound mixed ok1

theorem own : ownKnob Try.prog.godebug = none := by kernel_rfl
theorem laidOut : laidOutB Try.prog = true := by kernel_rfl

mutual
theorem bulk_eq {H : Type} : ∀ d : DataW H, Rows.uptoBulk d = bulkW d
  | .lit l => by cases l <;> rfl
  | .nil => rfl
  | .ptr d => by simp only [Rows.uptoBulk, bulkW, bulk_eq d]
  | .slice a b => by simp only [Rows.uptoBulk, bulkW, bulk_eqs a, bulk_eqs b]
  | .agg a => by simp only [Rows.uptoBulk, bulkW, bulk_eqs a]
  | .iface _ d => by simp only [Rows.uptoBulk, bulkW, bulk_eq d]
  | .map a => by simp only [Rows.uptoBulk, bulkW, bulk_eqe a]
  | .held _ => rfl
theorem bulk_eqs {H : Type} : ∀ l : List (DataW H), Rows.uptoBulkAll l = bulkWs l
  | [] => rfl
  | d :: r => by simp only [Rows.uptoBulkAll, bulkWs, bulk_eq d, bulk_eqs r]
theorem bulk_eqe {H : Type} : ∀ l : List (Lit × DataW H), Rows.uptoBulkEntries l = bulkWe l
  | [] => rfl
  | d :: r => by simp only [Rows.uptoBulkEntries, bulkWe, bulk_eqx d, bulk_eqe r]
theorem bulk_eqx {H : Type} : ∀ x : Lit × DataW H, Rows.uptoBulkEntry x = bulkWx x
  | (l, d) => by cases l <;> simp only [Rows.uptoBulkEntry, bulkWx, bulk_eq d]
end

theorem bulk_small {H : Type} {l : List (DataW H)} (hk : Rows.uptoSmall H l = true) : bulkWs l ≤ 1048576 := by
  have h : Rows.uptoBulkAll l ≤ 1048576 := of_decide_eq_true hk
  rw [bulk_eqs] at h
  exact h

theorem env_WbC01 : WbC01Env E := ⟨rfl, rfl, rfl, rfl, rfl, rfl, rfl, rfl, rfl, rfl, rfl, rfl, rfl, rfl, rfl, rfl, rfl, rfl, rfl, rfl, rfl, rfl, rfl, rfl, rfl, rfl, rfl, rfl, rfl, rfl, rfl⟩

end Go.Proofs.Ytihcipgcknjkbaa.Wb

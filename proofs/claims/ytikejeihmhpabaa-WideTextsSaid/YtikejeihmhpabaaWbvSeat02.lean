/- The functions of this seat's program, as both machines have them: their names, their code, and that it is their code. -/
import Derived.Test.YtikejeihmhpabaaRows
import Derived.Test.YtikejeihmhpabaaWbA6
import Derived.JoinedCond
import Derived.Deep.CondSized
import Derived.Test.YtikejeihmhpabaaWbvC02
set_option maxRecDepth 100000
set_option linter.all false
namespace Go.Proofs.Ytikejeihmhpabaa.Wb
open Go Go.Wb Go.Wb.Code

def nm : Names := fun f => match f with
  | 10 => some "law02.WideAdds"
  | 11 => some "law02.WideMuls"
  | 12 => some "law02.WideDivs"
  | 13 => some "law02.WideTexts"
  | 14 => some "law02.WideBack"
  | 39 => some "wide.Add"
  | 40 => some "ref02.Add"
  | 41 => some "wide.Sub"
  | 42 => some "ref02.Sub"
  | 43 => some "law02.live"
  | 44 => some "wide.Less"
  | 45 => some "ref02.Less"
  | 46 => some "wide.Of"
  | 47 => some "ref02.Of"
  | 48 => some "wide.Mul"
  | 49 => some "ref02.Mul"
  | 50 => some "wide.Div"
  | 51 => some "ref02.Div"
  | 52 => some "wide.Text"
  | 53 => some "ref02.Text"
  | 54 => some "wide.Cap"
  | 55 => some "ref02.Cap"
  | 64 => some "ref02.Bits"
  | 65 => some "ref02.whole"
  | 66 => some "wide.low"
  | 67 => some "wide.twice"
  | 68 => some "slices.Reverse[[]byte,byte]"
  | _ => none

def tbl : List (Nat × String) := []

def E0 : Env := fun s => match s with
  | "law02.WideAdds" => some (.code [(.tmp 4)] law02_WideAdds_B.erase)
  | "law02.WideMuls" => some (.code [(.tmp 4)] law02_WideMuls_B.erase)
  | "law02.WideDivs" => some (.code [(.tmp 4)] law02_WideDivs_B.erase)
  | "law02.WideTexts" => some (.code [(.tmp 4)] law02_WideTexts_B.erase)
  | "law02.WideBack" => some (.code [(.tmp 6)] law02_WideBack_B.erase)
  | "wide.Add" => some (.code [(.cell 4 (some 2)), (.tmp 5)] wide_Add_B.erase)
  | "ref02.Add" => some (.code [(.cell 4 (some 2)), (.tmp 5)] ref02_Add_B.erase)
  | "wide.Sub" => some (.code [(.cell 4 (some 2)), (.tmp 5)] wide_Sub_B.erase)
  | "ref02.Sub" => some (.code [(.cell 4 (some 2)), (.tmp 5)] ref02_Sub_B.erase)
  | "law02.live" => some (.code [(.tmp 0)] law02_live_B.erase)
  | "wide.Less" => some (.code [(.tmp 4)] wide_Less_B.erase)
  | "ref02.Less" => some (.code [(.tmp 4)] ref02_Less_B.erase)
  | "wide.Of" => some (.code [(.cell 2 (some 2))] wide_Of_B.erase)
  | "ref02.Of" => some (.code [(.cell 2 (some 2))] ref02_Of_B.erase)
  | "wide.Mul" => some (.code [(.cell 4 (some 2))] wide_Mul_B.erase)
  | "ref02.Mul" => some (.code [(.cell 4 (some 2))] ref02_Mul_B.erase)
  | "wide.Div" => some (.code [(.cell 4 (some 2)), (.tmp 5)] wide_Div_B.erase)
  | "ref02.Div" => some (.code [(.cell 4 (some 2)), (.tmp 5)] ref02_Div_B.erase)
  | "wide.Text" => some (.code [(.tmp 2)] wide_Text_B.erase)
  | "ref02.Text" => some (.code [(.tmp 2)] ref02_Text_B.erase)
  | "wide.Cap" => some (.code [(.tmp 4)] wide_Cap_B.erase)
  | "ref02.Cap" => some (.code [(.tmp 4)] ref02_Cap_B.erase)
  | "ref02.Bits" => some (.code [(.cell 2 (some 128))] ref02_Bits_B.erase)
  | "ref02.whole" => some (.code [(.cell 2 (some 2))] ref02_whole_B.erase)
  | "wide.low" => some (.code [(.tmp 2)] wide_low_B.erase)
  | "wide.twice" => some (.code [(.cell 4 (some 2))] wide_twice_B.erase)
  | "slices.Reverse[[]byte,byte]" => some (.code [] slices_Reverse_byte_byte_B.erase)
  | "@dyn" => some (.dyn tbl)
  | _ => none

theorem c_law02_WideAdds : compileFun Try.prog nm Try.f10 = some (.code [(.tmp 4)] law02_WideAdds_B.erase) := by kernel_rfl
theorem c_law02_WideMuls : compileFun Try.prog nm Try.f11 = some (.code [(.tmp 4)] law02_WideMuls_B.erase) := by kernel_rfl
theorem c_law02_WideDivs : compileFun Try.prog nm Try.f12 = some (.code [(.tmp 4)] law02_WideDivs_B.erase) := by kernel_rfl
theorem c_law02_WideTexts : compileFun Try.prog nm Try.f13 = some (.code [(.tmp 4)] law02_WideTexts_B.erase) := by kernel_rfl
theorem c_law02_WideBack : compileFun Try.prog nm Try.f14 = some (.code [(.tmp 6)] law02_WideBack_B.erase) := by kernel_rfl
theorem c_wide_Add : compileFun Try.prog nm Try.f39 = some (.code [(.cell 4 (some 2)), (.tmp 5)] wide_Add_B.erase) := by kernel_rfl
theorem c_ref02_Add : compileFun Try.prog nm Try.f40 = some (.code [(.cell 4 (some 2)), (.tmp 5)] ref02_Add_B.erase) := by kernel_rfl
theorem c_wide_Sub : compileFun Try.prog nm Try.f41 = some (.code [(.cell 4 (some 2)), (.tmp 5)] wide_Sub_B.erase) := by kernel_rfl
theorem c_ref02_Sub : compileFun Try.prog nm Try.f42 = some (.code [(.cell 4 (some 2)), (.tmp 5)] ref02_Sub_B.erase) := by kernel_rfl
theorem c_law02_live : compileFun Try.prog nm Try.f43 = some (.code [(.tmp 0)] law02_live_B.erase) := by kernel_rfl
theorem c_wide_Less : compileFun Try.prog nm Try.f44 = some (.code [(.tmp 4)] wide_Less_B.erase) := by kernel_rfl
theorem c_ref02_Less : compileFun Try.prog nm Try.f45 = some (.code [(.tmp 4)] ref02_Less_B.erase) := by kernel_rfl
theorem c_wide_Of : compileFun Try.prog nm Try.f46 = some (.code [(.cell 2 (some 2))] wide_Of_B.erase) := by kernel_rfl
theorem c_ref02_Of : compileFun Try.prog nm Try.f47 = some (.code [(.cell 2 (some 2))] ref02_Of_B.erase) := by kernel_rfl
theorem c_wide_Mul : compileFun Try.prog nm Try.f48 = some (.code [(.cell 4 (some 2))] wide_Mul_B.erase) := by kernel_rfl
theorem c_ref02_Mul : compileFun Try.prog nm Try.f49 = some (.code [(.cell 4 (some 2))] ref02_Mul_B.erase) := by kernel_rfl
theorem c_wide_Div : compileFun Try.prog nm Try.f50 = some (.code [(.cell 4 (some 2)), (.tmp 5)] wide_Div_B.erase) := by kernel_rfl
theorem c_ref02_Div : compileFun Try.prog nm Try.f51 = some (.code [(.cell 4 (some 2)), (.tmp 5)] ref02_Div_B.erase) := by kernel_rfl
theorem c_wide_Text : compileFun Try.prog nm Try.f52 = some (.code [(.tmp 2)] wide_Text_B.erase) := by kernel_rfl
theorem c_ref02_Text : compileFun Try.prog nm Try.f53 = some (.code [(.tmp 2)] ref02_Text_B.erase) := by kernel_rfl
theorem c_wide_Cap : compileFun Try.prog nm Try.f54 = some (.code [(.tmp 4)] wide_Cap_B.erase) := by kernel_rfl
theorem c_ref02_Cap : compileFun Try.prog nm Try.f55 = some (.code [(.tmp 4)] ref02_Cap_B.erase) := by kernel_rfl
theorem c_ref02_Bits : compileFun Try.prog nm Try.f64 = some (.code [(.cell 2 (some 128))] ref02_Bits_B.erase) := by kernel_rfl
theorem c_ref02_whole : compileFun Try.prog nm Try.f65 = some (.code [(.cell 2 (some 2))] ref02_whole_B.erase) := by kernel_rfl
theorem c_wide_low : compileFun Try.prog nm Try.f66 = some (.code [(.tmp 2)] wide_low_B.erase) := by kernel_rfl
theorem c_wide_twice : compileFun Try.prog nm Try.f67 = some (.code [(.cell 4 (some 2))] wide_twice_B.erase) := by kernel_rfl
theorem c_slices_Reverse_byte_byte : compileFun Try.prog nm Try.f68 = some (.code [] slices_Reverse_byte_byte_B.erase) := by kernel_rfl
theorem mixed : Try.prog.follows .mixedOrders = true := Try.checked.mixed


theorem ok0 : EnvOk Try.prog nm E0 := by
  intro f n hf af ha
  unfold nm at hf
  split at hf
  · injection hf with hf
    subst hf
    have e : some _ = some af := ha
    injection e with e
    subst e
    exact .inl ⟨_, Try.func10, c_law02_WideAdds⟩
  · injection hf with hf
    subst hf
    have e : some _ = some af := ha
    injection e with e
    subst e
    exact .inl ⟨_, Try.func11, c_law02_WideMuls⟩
  · injection hf with hf
    subst hf
    have e : some _ = some af := ha
    injection e with e
    subst e
    exact .inl ⟨_, Try.func12, c_law02_WideDivs⟩
  · injection hf with hf
    subst hf
    have e : some _ = some af := ha
    injection e with e
    subst e
    exact .inl ⟨_, Try.func13, c_law02_WideTexts⟩
  · injection hf with hf
    subst hf
    have e : some _ = some af := ha
    injection e with e
    subst e
    exact .inl ⟨_, Try.func14, c_law02_WideBack⟩
  · injection hf with hf
    subst hf
    have e : some _ = some af := ha
    injection e with e
    subst e
    exact .inl ⟨_, Try.func39, c_wide_Add⟩
  · injection hf with hf
    subst hf
    have e : some _ = some af := ha
    injection e with e
    subst e
    exact .inl ⟨_, Try.func40, c_ref02_Add⟩
  · injection hf with hf
    subst hf
    have e : some _ = some af := ha
    injection e with e
    subst e
    exact .inl ⟨_, Try.func41, c_wide_Sub⟩
  · injection hf with hf
    subst hf
    have e : some _ = some af := ha
    injection e with e
    subst e
    exact .inl ⟨_, Try.func42, c_ref02_Sub⟩
  · injection hf with hf
    subst hf
    have e : some _ = some af := ha
    injection e with e
    subst e
    exact .inl ⟨_, Try.func43, c_law02_live⟩
  · injection hf with hf
    subst hf
    have e : some _ = some af := ha
    injection e with e
    subst e
    exact .inl ⟨_, Try.func44, c_wide_Less⟩
  · injection hf with hf
    subst hf
    have e : some _ = some af := ha
    injection e with e
    subst e
    exact .inl ⟨_, Try.func45, c_ref02_Less⟩
  · injection hf with hf
    subst hf
    have e : some _ = some af := ha
    injection e with e
    subst e
    exact .inl ⟨_, Try.func46, c_wide_Of⟩
  · injection hf with hf
    subst hf
    have e : some _ = some af := ha
    injection e with e
    subst e
    exact .inl ⟨_, Try.func47, c_ref02_Of⟩
  · injection hf with hf
    subst hf
    have e : some _ = some af := ha
    injection e with e
    subst e
    exact .inl ⟨_, Try.func48, c_wide_Mul⟩
  · injection hf with hf
    subst hf
    have e : some _ = some af := ha
    injection e with e
    subst e
    exact .inl ⟨_, Try.func49, c_ref02_Mul⟩
  · injection hf with hf
    subst hf
    have e : some _ = some af := ha
    injection e with e
    subst e
    exact .inl ⟨_, Try.func50, c_wide_Div⟩
  · injection hf with hf
    subst hf
    have e : some _ = some af := ha
    injection e with e
    subst e
    exact .inl ⟨_, Try.func51, c_ref02_Div⟩
  · injection hf with hf
    subst hf
    have e : some _ = some af := ha
    injection e with e
    subst e
    exact .inl ⟨_, Try.func52, c_wide_Text⟩
  · injection hf with hf
    subst hf
    have e : some _ = some af := ha
    injection e with e
    subst e
    exact .inl ⟨_, Try.func53, c_ref02_Text⟩
  · injection hf with hf
    subst hf
    have e : some _ = some af := ha
    injection e with e
    subst e
    exact .inl ⟨_, Try.func54, c_wide_Cap⟩
  · injection hf with hf
    subst hf
    have e : some _ = some af := ha
    injection e with e
    subst e
    exact .inl ⟨_, Try.func55, c_ref02_Cap⟩
  · injection hf with hf
    subst hf
    have e : some _ = some af := ha
    injection e with e
    subst e
    exact .inl ⟨_, Try.func64, c_ref02_Bits⟩
  · injection hf with hf
    subst hf
    have e : some _ = some af := ha
    injection e with e
    subst e
    exact .inl ⟨_, Try.func65, c_ref02_whole⟩
  · injection hf with hf
    subst hf
    have e : some _ = some af := ha
    injection e with e
    subst e
    exact .inl ⟨_, Try.func66, c_wide_low⟩
  · injection hf with hf
    subst hf
    have e : some _ = some af := ha
    injection e with e
    subst e
    exact .inl ⟨_, Try.func67, c_wide_twice⟩
  · injection hf with hf
    subst hf
    have e : some _ = some af := ha
    injection e with e
    subst e
    exact .inl ⟨_, Try.func68, c_slices_Reverse_byte_byte⟩
  · cases hf

theorem dynT : DynTab Try.prog nm tbl := by
  intro e he
  simp only [tbl, List.mem_cons, List.not_mem_nil, or_false] at he
  try exact he.elim

theorem ro0 : EnvRo E0 := by
  intro n g hg
  unfold E0 at hg
  split at hg <;> first | (cases hg; done) | (injection hg with hg; injection hg with hg; subst hg; exact fun args h v h2 hx => sumA_ro hx)

theorem calls0 : CallsOk Try.prog nm (callA E0) := calls_sound mixed ok0 (.inr ⟨_, rfl, dynT⟩) ro0


/-- The environment: the functions that answer true alone stand for themselves. -/
def E : Env := fun s => match s with
  | "law02.WideAdds" => some (.code [(.tmp 4)] law02_WideAdds_B.erase)
  | "law02.WideMuls" => some (.code [(.tmp 4)] law02_WideMuls_B.erase)
  | "law02.WideDivs" => some (.code [(.tmp 4)] law02_WideDivs_B.erase)
  | "law02.WideTexts" => some (.code [(.tmp 4)] law02_WideTexts_B.erase)
  | "law02.WideBack" => some (.code [(.tmp 6)] law02_WideBack_B.erase)
  | "wide.Add" => some (.code [(.cell 4 (some 2)), (.tmp 5)] wide_Add_B.erase)
  | "ref02.Add" => some (.code [(.cell 4 (some 2)), (.tmp 5)] ref02_Add_B.erase)
  | "wide.Sub" => some (.code [(.cell 4 (some 2)), (.tmp 5)] wide_Sub_B.erase)
  | "ref02.Sub" => some (.code [(.cell 4 (some 2)), (.tmp 5)] ref02_Sub_B.erase)
  | "law02.live" => some (.code [(.tmp 0)] law02_live_B.erase)
  | "wide.Less" => some (.code [(.tmp 4)] wide_Less_B.erase)
  | "ref02.Less" => some (.code [(.tmp 4)] ref02_Less_B.erase)
  | "wide.Of" => some (.code [(.cell 2 (some 2))] wide_Of_B.erase)
  | "ref02.Of" => some (.code [(.cell 2 (some 2))] ref02_Of_B.erase)
  | "wide.Mul" => some (.code [(.cell 4 (some 2))] wide_Mul_B.erase)
  | "ref02.Mul" => some (.code [(.cell 4 (some 2))] ref02_Mul_B.erase)
  | "wide.Div" => some (.code [(.cell 4 (some 2)), (.tmp 5)] wide_Div_B.erase)
  | "ref02.Div" => some (.code [(.cell 4 (some 2)), (.tmp 5)] ref02_Div_B.erase)
  | "wide.Text" => some (.code [(.tmp 2)] wide_Text_B.erase)
  | "ref02.Text" => some (.code [(.tmp 2)] ref02_Text_B.erase)
  | "wide.Cap" => some (.code [(.tmp 4)] wide_Cap_B.erase)
  | "ref02.Cap" => some (.code [(.tmp 4)] ref02_Cap_B.erase)
  | "ref02.Bits" => some (.code [(.cell 2 (some 128))] ref02_Bits_B.erase)
  | "ref02.whole" => some (.code [(.cell 2 (some 2))] ref02_whole_B.erase)
  | "wide.low" => some (.code [(.tmp 2)] wide_low_B.erase)
  | "wide.twice" => some (.code [(.cell 4 (some 2))] wide_twice_B.erase)
  | "slices.Reverse[[]byte,byte]" => some (.code [] slices_Reverse_byte_byte_B.erase)
  | "@dyn" => some (.dyn tbl)
  | _ => none

theorem ok1 : EnvOk Try.prog nm E := by
  intro f n hf af ha
  unfold nm at hf
  split at hf
  · injection hf with hf
    subst hf
    have e : some _ = some af := ha
    injection e with e
    subst e
    exact .inl ⟨_, Try.func10, c_law02_WideAdds⟩
  · injection hf with hf
    subst hf
    have e : some _ = some af := ha
    injection e with e
    subst e
    exact .inl ⟨_, Try.func11, c_law02_WideMuls⟩
  · injection hf with hf
    subst hf
    have e : some _ = some af := ha
    injection e with e
    subst e
    exact .inl ⟨_, Try.func12, c_law02_WideDivs⟩
  · injection hf with hf
    subst hf
    have e : some _ = some af := ha
    injection e with e
    subst e
    exact .inl ⟨_, Try.func13, c_law02_WideTexts⟩
  · injection hf with hf
    subst hf
    have e : some _ = some af := ha
    injection e with e
    subst e
    exact .inl ⟨_, Try.func14, c_law02_WideBack⟩
  · injection hf with hf
    subst hf
    have e : some _ = some af := ha
    injection e with e
    subst e
    exact .inl ⟨_, Try.func39, c_wide_Add⟩
  · injection hf with hf
    subst hf
    have e : some _ = some af := ha
    injection e with e
    subst e
    exact .inl ⟨_, Try.func40, c_ref02_Add⟩
  · injection hf with hf
    subst hf
    have e : some _ = some af := ha
    injection e with e
    subst e
    exact .inl ⟨_, Try.func41, c_wide_Sub⟩
  · injection hf with hf
    subst hf
    have e : some _ = some af := ha
    injection e with e
    subst e
    exact .inl ⟨_, Try.func42, c_ref02_Sub⟩
  · injection hf with hf
    subst hf
    have e : some _ = some af := ha
    injection e with e
    subst e
    exact .inl ⟨_, Try.func43, c_law02_live⟩
  · injection hf with hf
    subst hf
    have e : some _ = some af := ha
    injection e with e
    subst e
    exact .inl ⟨_, Try.func44, c_wide_Less⟩
  · injection hf with hf
    subst hf
    have e : some _ = some af := ha
    injection e with e
    subst e
    exact .inl ⟨_, Try.func45, c_ref02_Less⟩
  · injection hf with hf
    subst hf
    have e : some _ = some af := ha
    injection e with e
    subst e
    exact .inl ⟨_, Try.func46, c_wide_Of⟩
  · injection hf with hf
    subst hf
    have e : some _ = some af := ha
    injection e with e
    subst e
    exact .inl ⟨_, Try.func47, c_ref02_Of⟩
  · injection hf with hf
    subst hf
    have e : some _ = some af := ha
    injection e with e
    subst e
    exact .inl ⟨_, Try.func48, c_wide_Mul⟩
  · injection hf with hf
    subst hf
    have e : some _ = some af := ha
    injection e with e
    subst e
    exact .inl ⟨_, Try.func49, c_ref02_Mul⟩
  · injection hf with hf
    subst hf
    have e : some _ = some af := ha
    injection e with e
    subst e
    exact .inl ⟨_, Try.func50, c_wide_Div⟩
  · injection hf with hf
    subst hf
    have e : some _ = some af := ha
    injection e with e
    subst e
    exact .inl ⟨_, Try.func51, c_ref02_Div⟩
  · injection hf with hf
    subst hf
    have e : some _ = some af := ha
    injection e with e
    subst e
    exact .inl ⟨_, Try.func52, c_wide_Text⟩
  · injection hf with hf
    subst hf
    have e : some _ = some af := ha
    injection e with e
    subst e
    exact .inl ⟨_, Try.func53, c_ref02_Text⟩
  · injection hf with hf
    subst hf
    have e : some _ = some af := ha
    injection e with e
    subst e
    exact .inl ⟨_, Try.func54, c_wide_Cap⟩
  · injection hf with hf
    subst hf
    have e : some _ = some af := ha
    injection e with e
    subst e
    exact .inl ⟨_, Try.func55, c_ref02_Cap⟩
  · injection hf with hf
    subst hf
    have e : some _ = some af := ha
    injection e with e
    subst e
    exact .inl ⟨_, Try.func64, c_ref02_Bits⟩
  · injection hf with hf
    subst hf
    have e : some _ = some af := ha
    injection e with e
    subst e
    exact .inl ⟨_, Try.func65, c_ref02_whole⟩
  · injection hf with hf
    subst hf
    have e : some _ = some af := ha
    injection e with e
    subst e
    exact .inl ⟨_, Try.func66, c_wide_low⟩
  · injection hf with hf
    subst hf
    have e : some _ = some af := ha
    injection e with e
    subst e
    exact .inl ⟨_, Try.func67, c_wide_twice⟩
  · injection hf with hf
    subst hf
    have e : some _ = some af := ha
    injection e with e
    subst e
    exact .inl ⟨_, Try.func68, c_slices_Reverse_byte_byte⟩
  · cases hf

theorem ro1 : EnvRo E := by
  intro n g hg
  unfold E at hg
  split at hg <;> first | (cases hg; done) | (injection hg with hg; injection hg with hg; subst hg; first | exact fun args h v h2 hx => alone_ro hx | exact fun args h v h2 hx => sumA_ro hx)

theorem calls1 : CallsOk Try.prog nm (callA E) := calls_sound mixed ok1 (.inr ⟨_, rfl, dynT⟩) ro1

def EW : EnvW := EnvW.mk (fun s => match s with
    | "law02.WideAdds" => some law02_WideAdds
    | "law02.WideMuls" => some law02_WideMuls
    | "law02.WideDivs" => some law02_WideDivs
    | "law02.WideTexts" => some law02_WideTexts
    | "law02.WideBack" => some law02_WideBack
    | "wide.Add" => some wide_Add
    | "ref02.Add" => some ref02_Add
    | "wide.Sub" => some wide_Sub
    | "ref02.Sub" => some ref02_Sub
    | "law02.live" => some law02_live
    | "wide.Less" => some wide_Less
    | "ref02.Less" => some ref02_Less
    | "wide.Of" => some wide_Of
    | "ref02.Of" => some ref02_Of
    | "wide.Mul" => some wide_Mul
    | "ref02.Mul" => some ref02_Mul
    | "wide.Div" => some wide_Div
    | "ref02.Div" => some ref02_Div
    | "wide.Text" => some wide_Text
    | "ref02.Text" => some ref02_Text
    | "wide.Cap" => some wide_Cap
    | "ref02.Cap" => some ref02_Cap
    | "ref02.Bits" => some ref02_Bits
    | "ref02.whole" => some ref02_whole
    | "wide.low" => some wide_low
    | "wide.twice" => some wide_twice
    | "slices.Reverse[[]byte,byte]" => some slices_Reverse_byte_byte
    | _ => none) tbl

theorem sim : EnvSim EW E := by
  refine ⟨rfl, fun f wf hf => ?_⟩
  simp only [EW] at hf
  split at hf
  · injection hf with hf; subst hf; exact .inl ⟨_, _, rfl, rfl⟩
  · injection hf with hf; subst hf; exact .inl ⟨_, _, rfl, rfl⟩
  · injection hf with hf; subst hf; exact .inl ⟨_, _, rfl, rfl⟩
  · injection hf with hf; subst hf; exact .inl ⟨_, _, rfl, rfl⟩
  · injection hf with hf; subst hf; exact .inl ⟨_, _, rfl, rfl⟩
  · injection hf with hf; subst hf; exact .inl ⟨_, _, rfl, rfl⟩
  · injection hf with hf; subst hf; exact .inl ⟨_, _, rfl, rfl⟩
  · injection hf with hf; subst hf; exact .inl ⟨_, _, rfl, rfl⟩
  · injection hf with hf; subst hf; exact .inl ⟨_, _, rfl, rfl⟩
  · injection hf with hf; subst hf; exact .inl ⟨_, _, rfl, rfl⟩
  · injection hf with hf; subst hf; exact .inl ⟨_, _, rfl, rfl⟩
  · injection hf with hf; subst hf; exact .inl ⟨_, _, rfl, rfl⟩
  · injection hf with hf; subst hf; exact .inl ⟨_, _, rfl, rfl⟩
  · injection hf with hf; subst hf; exact .inl ⟨_, _, rfl, rfl⟩
  · injection hf with hf; subst hf; exact .inl ⟨_, _, rfl, rfl⟩
  · injection hf with hf; subst hf; exact .inl ⟨_, _, rfl, rfl⟩
  · injection hf with hf; subst hf; exact .inl ⟨_, _, rfl, rfl⟩
  · injection hf with hf; subst hf; exact .inl ⟨_, _, rfl, rfl⟩
  · injection hf with hf; subst hf; exact .inl ⟨_, _, rfl, rfl⟩
  · injection hf with hf; subst hf; exact .inl ⟨_, _, rfl, rfl⟩
  · injection hf with hf; subst hf; exact .inl ⟨_, _, rfl, rfl⟩
  · injection hf with hf; subst hf; exact .inl ⟨_, _, rfl, rfl⟩
  · injection hf with hf; subst hf; exact .inl ⟨_, _, rfl, rfl⟩
  · injection hf with hf; subst hf; exact .inl ⟨_, _, rfl, rfl⟩
  · injection hf with hf; subst hf; exact .inl ⟨_, _, rfl, rfl⟩
  · injection hf with hf; subst hf; exact .inl ⟨_, _, rfl, rfl⟩
  · injection hf with hf; subst hf; exact .inl ⟨_, _, rfl, rfl⟩
  · cases hf

theorem own : ownKnob Try.prog.godebug = none := by kernel_rfl
theorem laidOut : laidOutB Try.prog = true := by kernel_rfl

mutual
theorem bulk_eq {H : Type} : ∀ d : DataW H, Rows.uptoBulk d = bulkW d
  | .lit l => by cases l <;> rfl
  | .nil => rfl
  | .ptr d => by simp only [Rows.uptoBulk, bulkW, bulk_eq d]
  | .slice a b => by simp only [Rows.uptoBulk, bulkW, bulk_eqs a, bulk_eqs b]
  | .agg a => by simp only [Rows.uptoBulk, bulkW, bulk_eqs a]
  | .iface _ d => by simp only [Rows.uptoBulk, bulkW, bulk_eq d]
  | .map a => by simp only [Rows.uptoBulk, bulkW, bulk_eqe a]
  | .held _ => rfl
theorem bulk_eqs {H : Type} : ∀ l : List (DataW H), Rows.uptoBulkAll l = bulkWs l
  | [] => rfl
  | d :: r => by simp only [Rows.uptoBulkAll, bulkWs, bulk_eq d, bulk_eqs r]
theorem bulk_eqe {H : Type} : ∀ l : List (Lit × DataW H), Rows.uptoBulkEntries l = bulkWe l
  | [] => rfl
  | d :: r => by simp only [Rows.uptoBulkEntries, bulkWe, bulk_eqx d, bulk_eqe r]
theorem bulk_eqx {H : Type} : ∀ x : Lit × DataW H, Rows.uptoBulkEntry x = bulkWx x
  | (l, d) => by cases l <;> simp only [Rows.uptoBulkEntry, bulkWx, bulk_eq d]
end

theorem bulk_small {H : Type} {l : List (DataW H)} (hk : Rows.uptoSmall H l = true) : bulkWs l ≤ 1048576 := by
  have h : Rows.uptoBulkAll l ≤ 1048576 := of_decide_eq_true hk
  rw [bulk_eqs] at h
  exact h

theorem env_WbvC02 : WbvC02Env EW := ⟨rfl, rfl, rfl, rfl, rfl, rfl, rfl, rfl, rfl, rfl, rfl, rfl, rfl, rfl, rfl, rfl, rfl, rfl, rfl, rfl, rfl, rfl, rfl, rfl, rfl, rfl, rfl⟩

end Go.Proofs.Ytikejeihmhpabaa.Wb

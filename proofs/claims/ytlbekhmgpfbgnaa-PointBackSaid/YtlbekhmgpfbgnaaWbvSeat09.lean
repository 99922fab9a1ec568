/- The functions of this seat's program, as both machines have them: their names, their code, and that it is their code. -/
import Derived.Test.YtlbekhmgpfbgnaaRows
import Derived.Test.YtlbekhmgpfbgnaaWbA6
import Derived.JoinedCond
import Derived.Deep.CondSized
import Derived.Test.YtlbekhmgpfbgnaaWbvC02
import Derived.Test.YtlbekhmgpfbgnaaWbvC09
set_option maxRecDepth 100000
set_option linter.all false
namespace Go.Proofs.Ytlbekhmgpfbgnaa.Wb
open Go Go.Wb Go.Wb.Code

def nm : Names := fun f => match f with
  | 137 => some "ref02.Add"
  | 150 => some "wide.Sub"
  | 140 => some "ref02.Sub"
  | 149 => some "wide.Less"
  | 139 => some "ref02.Less"
  | 108 => some "wide.Of"
  | 138 => some "ref02.Of"
  | 132 => some "wide.Div"
  | 119 => some "ref02.Div"
  | 107 => some "wide.Text"
  | 91 => some "ref02.Text"
  | 136 => some "ref02.Bits"
  | 141 => some "ref02.whole"
  | 148 => some "wide.twice"
  | 133 => some "slices.Reverse[[]byte,byte]"
  | 7 => some "law09.PointBytes"
  | 8 => some "law09.PointNames"
  | 9 => some "law09.PointBack"
  | 15 => some "point.Name"
  | 17 => some "point.Parse"
  | 19 => some "point.Split"
  | 20 => some "point.Join"
  | 35 => some "ref09.Split"
  | 36 => some "ref09.Join"
  | 37 => some "point.Af"
  | 38 => some "ref09.Af"
  | 39 => some "law09.live"
  | 40 => some "ref09.Parse"
  | 41 => some "point.Sort"
  | 42 => some "ref09.Sort"
  | 43 => some "point.Prec"
  | 44 => some "ref09.Prec"
  | 45 => some "ref09.Name"
  | 64 => some "point.sorts"
  | 66 => some "point.is"
  | 88 => some "ref09.Is"
  | 89 => some "ref05.Number"
  | 90 => some "ref09.digit"
  | 106 => some "point.figures"
  | _ => none

def tbl : List (Nat × String) := []

def E0 : Env := fun s => match s with
  | "law02.WideAdds" => some (.code [(.tmp 4)] law02_WideAdds_B.erase)
  | "law02.WideMuls" => some (.code [(.tmp 4)] law02_WideMuls_B.erase)
  | "law02.WideDivs" => some (.code [(.tmp 4)] law02_WideDivs_B.erase)
  | "law02.WideTexts" => some (.code [(.tmp 4)] law02_WideTexts_B.erase)
  | "law02.WideBack" => some (.code [(.tmp 6)] law02_WideBack_B.erase)
  | "wide.Add" => some (.code [(.cell 4 (some 2)), (.tmp 5)] wide_Add_B.erase)
  | "ref02.Add" => some (.code [(.cell 4 (some 2)), (.tmp 5)] ref02_Add_B.erase)
  | "wide.Sub" => some (.code [(.cell 4 (some 2)), (.tmp 5)] wide_Sub_B.erase)
  | "ref02.Sub" => some (.code [(.cell 4 (some 2)), (.tmp 5)] ref02_Sub_B.erase)
  | "law02.live" => some (.code [(.tmp 0)] law02_live_B.erase)
  | "wide.Less" => some (.code [(.tmp 4)] wide_Less_B.erase)
  | "ref02.Less" => some (.code [(.tmp 4)] ref02_Less_B.erase)
  | "wide.Of" => some (.code [(.cell 2 (some 2))] wide_Of_B.erase)
  | "ref02.Of" => some (.code [(.cell 2 (some 2))] ref02_Of_B.erase)
  | "wide.Mul" => some (.code [(.cell 4 (some 2))] wide_Mul_B.erase)
  | "ref02.Mul" => some (.code [(.cell 4 (some 2))] ref02_Mul_B.erase)
  | "wide.Div" => some (.code [(.cell 4 (some 2)), (.tmp 5)] wide_Div_B.erase)
  | "ref02.Div" => some (.code [(.cell 4 (some 2)), (.tmp 5)] ref02_Div_B.erase)
  | "wide.Text" => some (.code [(.tmp 2)] wide_Text_B.erase)
  | "ref02.Text" => some (.code [(.tmp 2)] ref02_Text_B.erase)
  | "wide.Cap" => some (.code [(.tmp 4)] wide_Cap_B.erase)
  | "ref02.Cap" => some (.code [(.tmp 4)] ref02_Cap_B.erase)
  | "ref02.Bits" => some (.code [(.cell 2 (some 128))] ref02_Bits_B.erase)
  | "ref02.whole" => some (.code [(.cell 2 (some 2))] ref02_whole_B.erase)
  | "wide.low" => some (.code [(.tmp 2)] wide_low_B.erase)
  | "wide.twice" => some (.code [(.cell 4 (some 2))] wide_twice_B.erase)
  | "slices.Reverse[[]byte,byte]" => some (.code [] slices_Reverse_byte_byte_B.erase)
  | "law09.PointBytes" => some (.code [(.tmp 6)] law09_PointBytes_B.erase)
  | "law09.PointNames" => some (.code [(.tmp 4)] law09_PointNames_B.erase)
  | "law09.PointBack" => some (.code [(.tmp 6)] law09_PointBack_B.erase)
  | "point.Name" => some (.code [(.tmp 2)] point_Name_B.erase)
  | "point.Parse" => some (.code [(.tmp 2), (.tmp 3)] point_Parse_B.erase)
  | "point.Split" => some (.code [(.tmp 2), (.tmp 3)] point_Split_B.erase)
  | "point.Join" => some (.code [(.tmp 4), (.tmp 5)] point_Join_B.erase)
  | "ref09.Split" => some (.code [(.tmp 2), (.tmp 3)] ref09_Split_B.erase)
  | "ref09.Join" => some (.code [(.tmp 4), (.tmp 5)] ref09_Join_B.erase)
  | "point.Af" => some (.code [(.tmp 4), (.tmp 5)] point_Af_B.erase)
  | "ref09.Af" => some (.code [(.tmp 4), (.tmp 5)] ref09_Af_B.erase)
  | "law09.live" => some (.code [(.tmp 0)] law09_live_B.erase)
  | "ref09.Parse" => some (.code [(.tmp 2), (.tmp 3)] ref09_Parse_B.erase)
  | "point.Sort" => some (.code [(.tmp 2)] point_Sort_B.erase)
  | "ref09.Sort" => some (.code [(.tmp 2)] ref09_Sort_B.erase)
  | "point.Prec" => some (.code [(.tmp 2)] point_Prec_B.erase)
  | "ref09.Prec" => some (.code [(.tmp 2)] ref09_Prec_B.erase)
  | "ref09.Name" => some (.code [(.tmp 2)] ref09_Name_B.erase)
  | "point.sorts" => some (.code [(.tmp 2), (.tmp 3)] point_sorts_B.erase)
  | "point.is" => some (.code [(.tmp 2)] point_is_B.erase)
  | "ref09.Is" => some (.code [(.tmp 2)] ref09_Is_B.erase)
  | "ref05.Number" => some (.code [(.tmp 4)] ref05_Number_B.erase)
  | "ref09.digit" => some (.code [(.tmp 2)] ref09_digit_B.erase)
  | "point.figures" => some (.code [(.tmp 2)] point_figures_B.erase)
  | "@dyn" => some (.dyn tbl)
  | _ => none

theorem c_ref02_Add : compileFun Try.prog nm Try.f137 = some (.code [(.cell 4 (some 2)), (.tmp 5)] ref02_Add_B.erase) := by kernel_rfl
theorem c_wide_Sub : compileFun Try.prog nm Try.f150 = some (.code [(.cell 4 (some 2)), (.tmp 5)] wide_Sub_B.erase) := by kernel_rfl
theorem c_ref02_Sub : compileFun Try.prog nm Try.f140 = some (.code [(.cell 4 (some 2)), (.tmp 5)] ref02_Sub_B.erase) := by kernel_rfl
theorem c_wide_Less : compileFun Try.prog nm Try.f149 = some (.code [(.tmp 4)] wide_Less_B.erase) := by kernel_rfl
theorem c_ref02_Less : compileFun Try.prog nm Try.f139 = some (.code [(.tmp 4)] ref02_Less_B.erase) := by kernel_rfl
theorem c_wide_Of : compileFun Try.prog nm Try.f108 = some (.code [(.cell 2 (some 2))] wide_Of_B.erase) := by kernel_rfl
theorem c_ref02_Of : compileFun Try.prog nm Try.f138 = some (.code [(.cell 2 (some 2))] ref02_Of_B.erase) := by kernel_rfl
theorem c_wide_Div : compileFun Try.prog nm Try.f132 = some (.code [(.cell 4 (some 2)), (.tmp 5)] wide_Div_B.erase) := by kernel_rfl
theorem c_ref02_Div : compileFun Try.prog nm Try.f119 = some (.code [(.cell 4 (some 2)), (.tmp 5)] ref02_Div_B.erase) := by kernel_rfl
theorem c_wide_Text : compileFun Try.prog nm Try.f107 = some (.code [(.tmp 2)] wide_Text_B.erase) := by kernel_rfl
theorem c_ref02_Text : compileFun Try.prog nm Try.f91 = some (.code [(.tmp 2)] ref02_Text_B.erase) := by kernel_rfl
theorem c_ref02_Bits : compileFun Try.prog nm Try.f136 = some (.code [(.cell 2 (some 128))] ref02_Bits_B.erase) := by kernel_rfl
theorem c_ref02_whole : compileFun Try.prog nm Try.f141 = some (.code [(.cell 2 (some 2))] ref02_whole_B.erase) := by kernel_rfl
theorem c_wide_twice : compileFun Try.prog nm Try.f148 = some (.code [(.cell 4 (some 2))] wide_twice_B.erase) := by kernel_rfl
theorem c_slices_Reverse_byte_byte : compileFun Try.prog nm Try.f133 = some (.code [] slices_Reverse_byte_byte_B.erase) := by kernel_rfl
theorem c_law09_PointBytes : compileFun Try.prog nm Try.f7 = some (.code [(.tmp 6)] law09_PointBytes_B.erase) := by kernel_rfl
theorem c_law09_PointNames : compileFun Try.prog nm Try.f8 = some (.code [(.tmp 4)] law09_PointNames_B.erase) := by kernel_rfl
theorem c_law09_PointBack : compileFun Try.prog nm Try.f9 = some (.code [(.tmp 6)] law09_PointBack_B.erase) := by kernel_rfl
theorem c_point_Name : compileFun Try.prog nm Try.f15 = some (.code [(.tmp 2)] point_Name_B.erase) := by kernel_rfl
theorem c_point_Parse : compileFun Try.prog nm Try.f17 = some (.code [(.tmp 2), (.tmp 3)] point_Parse_B.erase) := by kernel_rfl
theorem c_point_Split : compileFun Try.prog nm Try.f19 = some (.code [(.tmp 2), (.tmp 3)] point_Split_B.erase) := by kernel_rfl
theorem c_point_Join : compileFun Try.prog nm Try.f20 = some (.code [(.tmp 4), (.tmp 5)] point_Join_B.erase) := by kernel_rfl
theorem c_ref09_Split : compileFun Try.prog nm Try.f35 = some (.code [(.tmp 2), (.tmp 3)] ref09_Split_B.erase) := by kernel_rfl
theorem c_ref09_Join : compileFun Try.prog nm Try.f36 = some (.code [(.tmp 4), (.tmp 5)] ref09_Join_B.erase) := by kernel_rfl
theorem c_point_Af : compileFun Try.prog nm Try.f37 = some (.code [(.tmp 4), (.tmp 5)] point_Af_B.erase) := by kernel_rfl
theorem c_ref09_Af : compileFun Try.prog nm Try.f38 = some (.code [(.tmp 4), (.tmp 5)] ref09_Af_B.erase) := by kernel_rfl
theorem c_law09_live : compileFun Try.prog nm Try.f39 = some (.code [(.tmp 0)] law09_live_B.erase) := by kernel_rfl
theorem c_ref09_Parse : compileFun Try.prog nm Try.f40 = some (.code [(.tmp 2), (.tmp 3)] ref09_Parse_B.erase) := by kernel_rfl
theorem c_point_Sort : compileFun Try.prog nm Try.f41 = some (.code [(.tmp 2)] point_Sort_B.erase) := by kernel_rfl
theorem c_ref09_Sort : compileFun Try.prog nm Try.f42 = some (.code [(.tmp 2)] ref09_Sort_B.erase) := by kernel_rfl
theorem c_point_Prec : compileFun Try.prog nm Try.f43 = some (.code [(.tmp 2)] point_Prec_B.erase) := by kernel_rfl
theorem c_ref09_Prec : compileFun Try.prog nm Try.f44 = some (.code [(.tmp 2)] ref09_Prec_B.erase) := by kernel_rfl
theorem c_ref09_Name : compileFun Try.prog nm Try.f45 = some (.code [(.tmp 2)] ref09_Name_B.erase) := by kernel_rfl
theorem c_point_sorts : compileFun Try.prog nm Try.f64 = some (.code [(.tmp 2), (.tmp 3)] point_sorts_B.erase) := by kernel_rfl
theorem c_point_is : compileFun Try.prog nm Try.f66 = some (.code [(.tmp 2)] point_is_B.erase) := by kernel_rfl
theorem c_ref09_Is : compileFun Try.prog nm Try.f88 = some (.code [(.tmp 2)] ref09_Is_B.erase) := by kernel_rfl
theorem c_ref05_Number : compileFun Try.prog nm Try.f89 = some (.code [(.tmp 4)] ref05_Number_B.erase) := by kernel_rfl
theorem c_ref09_digit : compileFun Try.prog nm Try.f90 = some (.code [(.tmp 2)] ref09_digit_B.erase) := by kernel_rfl
theorem c_point_figures : compileFun Try.prog nm Try.f106 = some (.code [(.tmp 2)] point_figures_B.erase) := by kernel_rfl
theorem mixed : Try.prog.follows .mixedOrders = true := Try.checked.mixed


theorem ok0 : EnvOk Try.prog nm E0 := by
  intro f n hf af ha
  unfold nm at hf
  split at hf
  · injection hf with hf
    subst hf
    have e : some _ = some af := ha
    injection e with e
    subst e
    exact .inl ⟨_, Try.func137, c_ref02_Add⟩
  · injection hf with hf
    subst hf
    have e : some _ = some af := ha
    injection e with e
    subst e
    exact .inl ⟨_, Try.func150, c_wide_Sub⟩
  · injection hf with hf
    subst hf
    have e : some _ = some af := ha
    injection e with e
    subst e
    exact .inl ⟨_, Try.func140, c_ref02_Sub⟩
  · injection hf with hf
    subst hf
    have e : some _ = some af := ha
    injection e with e
    subst e
    exact .inl ⟨_, Try.func149, c_wide_Less⟩
  · injection hf with hf
    subst hf
    have e : some _ = some af := ha
    injection e with e
    subst e
    exact .inl ⟨_, Try.func139, c_ref02_Less⟩
  · injection hf with hf
    subst hf
    have e : some _ = some af := ha
    injection e with e
    subst e
    exact .inl ⟨_, Try.func108, c_wide_Of⟩
  · injection hf with hf
    subst hf
    have e : some _ = some af := ha
    injection e with e
    subst e
    exact .inl ⟨_, Try.func138, c_ref02_Of⟩
  · injection hf with hf
    subst hf
    have e : some _ = some af := ha
    injection e with e
    subst e
    exact .inl ⟨_, Try.func132, c_wide_Div⟩
  · injection hf with hf
    subst hf
    have e : some _ = some af := ha
    injection e with e
    subst e
    exact .inl ⟨_, Try.func119, c_ref02_Div⟩
  · injection hf with hf
    subst hf
    have e : some _ = some af := ha
    injection e with e
    subst e
    exact .inl ⟨_, Try.func107, c_wide_Text⟩
  · injection hf with hf
    subst hf
    have e : some _ = some af := ha
    injection e with e
    subst e
    exact .inl ⟨_, Try.func91, c_ref02_Text⟩
  · injection hf with hf
    subst hf
    have e : some _ = some af := ha
    injection e with e
    subst e
    exact .inl ⟨_, Try.func136, c_ref02_Bits⟩
  · injection hf with hf
    subst hf
    have e : some _ = some af := ha
    injection e with e
    subst e
    exact .inl ⟨_, Try.func141, c_ref02_whole⟩
  · injection hf with hf
    subst hf
    have e : some _ = some af := ha
    injection e with e
    subst e
    exact .inl ⟨_, Try.func148, c_wide_twice⟩
  · injection hf with hf
    subst hf
    have e : some _ = some af := ha
    injection e with e
    subst e
    exact .inl ⟨_, Try.func133, c_slices_Reverse_byte_byte⟩
  · injection hf with hf
    subst hf
    have e : some _ = some af := ha
    injection e with e
    subst e
    exact .inl ⟨_, Try.func7, c_law09_PointBytes⟩
  · injection hf with hf
    subst hf
    have e : some _ = some af := ha
    injection e with e
    subst e
    exact .inl ⟨_, Try.func8, c_law09_PointNames⟩
  · injection hf with hf
    subst hf
    have e : some _ = some af := ha
    injection e with e
    subst e
    exact .inl ⟨_, Try.func9, c_law09_PointBack⟩
  · injection hf with hf
    subst hf
    have e : some _ = some af := ha
    injection e with e
    subst e
    exact .inl ⟨_, Try.func15, c_point_Name⟩
  · injection hf with hf
    subst hf
    have e : some _ = some af := ha
    injection e with e
    subst e
    exact .inl ⟨_, Try.func17, c_point_Parse⟩
  · injection hf with hf
    subst hf
    have e : some _ = some af := ha
    injection e with e
    subst e
    exact .inl ⟨_, Try.func19, c_point_Split⟩
  · injection hf with hf
    subst hf
    have e : some _ = some af := ha
    injection e with e
    subst e
    exact .inl ⟨_, Try.func20, c_point_Join⟩
  · injection hf with hf
    subst hf
    have e : some _ = some af := ha
    injection e with e
    subst e
    exact .inl ⟨_, Try.func35, c_ref09_Split⟩
  · injection hf with hf
    subst hf
    have e : some _ = some af := ha
    injection e with e
    subst e
    exact .inl ⟨_, Try.func36, c_ref09_Join⟩
  · injection hf with hf
    subst hf
    have e : some _ = some af := ha
    injection e with e
    subst e
    exact .inl ⟨_, Try.func37, c_point_Af⟩
  · injection hf with hf
    subst hf
    have e : some _ = some af := ha
    injection e with e
    subst e
    exact .inl ⟨_, Try.func38, c_ref09_Af⟩
  · injection hf with hf
    subst hf
    have e : some _ = some af := ha
    injection e with e
    subst e
    exact .inl ⟨_, Try.func39, c_law09_live⟩
  · injection hf with hf
    subst hf
    have e : some _ = some af := ha
    injection e with e
    subst e
    exact .inl ⟨_, Try.func40, c_ref09_Parse⟩
  · injection hf with hf
    subst hf
    have e : some _ = some af := ha
    injection e with e
    subst e
    exact .inl ⟨_, Try.func41, c_point_Sort⟩
  · injection hf with hf
    subst hf
    have e : some _ = some af := ha
    injection e with e
    subst e
    exact .inl ⟨_, Try.func42, c_ref09_Sort⟩
  · injection hf with hf
    subst hf
    have e : some _ = some af := ha
    injection e with e
    subst e
    exact .inl ⟨_, Try.func43, c_point_Prec⟩
  · injection hf with hf
    subst hf
    have e : some _ = some af := ha
    injection e with e
    subst e
    exact .inl ⟨_, Try.func44, c_ref09_Prec⟩
  · injection hf with hf
    subst hf
    have e : some _ = some af := ha
    injection e with e
    subst e
    exact .inl ⟨_, Try.func45, c_ref09_Name⟩
  · injection hf with hf
    subst hf
    have e : some _ = some af := ha
    injection e with e
    subst e
    exact .inl ⟨_, Try.func64, c_point_sorts⟩
  · injection hf with hf
    subst hf
    have e : some _ = some af := ha
    injection e with e
    subst e
    exact .inl ⟨_, Try.func66, c_point_is⟩
  · injection hf with hf
    subst hf
    have e : some _ = some af := ha
    injection e with e
    subst e
    exact .inl ⟨_, Try.func88, c_ref09_Is⟩
  · injection hf with hf
    subst hf
    have e : some _ = some af := ha
    injection e with e
    subst e
    exact .inl ⟨_, Try.func89, c_ref05_Number⟩
  · injection hf with hf
    subst hf
    have e : some _ = some af := ha
    injection e with e
    subst e
    exact .inl ⟨_, Try.func90, c_ref09_digit⟩
  · injection hf with hf
    subst hf
    have e : some _ = some af := ha
    injection e with e
    subst e
    exact .inl ⟨_, Try.func106, c_point_figures⟩
  · cases hf

theorem dynT : DynTab Try.prog nm tbl := by
  intro e he
  simp only [tbl, List.mem_cons, List.not_mem_nil, or_false] at he
  try exact he.elim

theorem ro0 : EnvRo E0 := by
  intro n g hg
  unfold E0 at hg
  split at hg <;> first | (cases hg; done) | (injection hg with hg; injection hg with hg; subst hg; exact fun args h v h2 hx => sumA_ro hx)

theorem calls0 : CallsOk Try.prog nm (callA E0) := calls_sound mixed ok0 (.inr ⟨_, rfl, dynT⟩) ro0


/-- The environment: the functions that answer true alone stand for themselves. -/
def E : Env := fun s => match s with
  | "law02.WideAdds" => some (.code [(.tmp 4)] law02_WideAdds_B.erase)
  | "law02.WideMuls" => some (.code [(.tmp 4)] law02_WideMuls_B.erase)
  | "law02.WideDivs" => some (.code [(.tmp 4)] law02_WideDivs_B.erase)
  | "law02.WideTexts" => some (.code [(.tmp 4)] law02_WideTexts_B.erase)
  | "law02.WideBack" => some (.code [(.tmp 6)] law02_WideBack_B.erase)
  | "wide.Add" => some (.code [(.cell 4 (some 2)), (.tmp 5)] wide_Add_B.erase)
  | "ref02.Add" => some (.code [(.cell 4 (some 2)), (.tmp 5)] ref02_Add_B.erase)
  | "wide.Sub" => some (.code [(.cell 4 (some 2)), (.tmp 5)] wide_Sub_B.erase)
  | "ref02.Sub" => some (.code [(.cell 4 (some 2)), (.tmp 5)] ref02_Sub_B.erase)
  | "law02.live" => some (.code [(.tmp 0)] law02_live_B.erase)
  | "wide.Less" => some (.code [(.tmp 4)] wide_Less_B.erase)
  | "ref02.Less" => some (.code [(.tmp 4)] ref02_Less_B.erase)
  | "wide.Of" => some (.code [(.cell 2 (some 2))] wide_Of_B.erase)
  | "ref02.Of" => some (.code [(.cell 2 (some 2))] ref02_Of_B.erase)
  | "wide.Mul" => some (.code [(.cell 4 (some 2))] wide_Mul_B.erase)
  | "ref02.Mul" => some (.code [(.cell 4 (some 2))] ref02_Mul_B.erase)
  | "wide.Div" => some (.code [(.cell 4 (some 2)), (.tmp 5)] wide_Div_B.erase)
  | "ref02.Div" => some (.code [(.cell 4 (some 2)), (.tmp 5)] ref02_Div_B.erase)
  | "wide.Text" => some (.code [(.tmp 2)] wide_Text_B.erase)
  | "ref02.Text" => some (.code [(.tmp 2)] ref02_Text_B.erase)
  | "wide.Cap" => some (.code [(.tmp 4)] wide_Cap_B.erase)
  | "ref02.Cap" => some (.code [(.tmp 4)] ref02_Cap_B.erase)
  | "ref02.Bits" => some (.code [(.cell 2 (some 128))] ref02_Bits_B.erase)
  | "ref02.whole" => some (.code [(.cell 2 (some 2))] ref02_whole_B.erase)
  | "wide.low" => some (.code [(.tmp 2)] wide_low_B.erase)
  | "wide.twice" => some (.code [(.cell 4 (some 2))] wide_twice_B.erase)
  | "slices.Reverse[[]byte,byte]" => some (.code [] slices_Reverse_byte_byte_B.erase)
  | "law09.PointBytes" => some (.code [(.tmp 6)] law09_PointBytes_B.erase)
  | "law09.PointNames" => some (.code [(.tmp 4)] law09_PointNames_B.erase)
  | "law09.PointBack" => some (.code [(.tmp 6)] law09_PointBack_B.erase)
  | "point.Name" => some (.code [(.tmp 2)] point_Name_B.erase)
  | "point.Parse" => some (.code [(.tmp 2), (.tmp 3)] point_Parse_B.erase)
  | "point.Split" => some (.code [(.tmp 2), (.tmp 3)] point_Split_B.erase)
  | "point.Join" => some (.code [(.tmp 4), (.tmp 5)] point_Join_B.erase)
  | "ref09.Split" => some (.code [(.tmp 2), (.tmp 3)] ref09_Split_B.erase)
  | "ref09.Join" => some (.code [(.tmp 4), (.tmp 5)] ref09_Join_B.erase)
  | "point.Af" => some (.code [(.tmp 4), (.tmp 5)] point_Af_B.erase)
  | "ref09.Af" => some (.code [(.tmp 4), (.tmp 5)] ref09_Af_B.erase)
  | "law09.live" => some (.code [(.tmp 0)] law09_live_B.erase)
  | "ref09.Parse" => some (.code [(.tmp 2), (.tmp 3)] ref09_Parse_B.erase)
  | "point.Sort" => some (.code [(.tmp 2)] point_Sort_B.erase)
  | "ref09.Sort" => some (.code [(.tmp 2)] ref09_Sort_B.erase)
  | "point.Prec" => some (.code [(.tmp 2)] point_Prec_B.erase)
  | "ref09.Prec" => some (.code [(.tmp 2)] ref09_Prec_B.erase)
  | "ref09.Name" => some (.code [(.tmp 2)] ref09_Name_B.erase)
  | "point.sorts" => some (.code [(.tmp 2), (.tmp 3)] point_sorts_B.erase)
  | "point.is" => some (.code [(.tmp 2)] point_is_B.erase)
  | "ref09.Is" => some (.code [(.tmp 2)] ref09_Is_B.erase)
  | "ref05.Number" => some (.code [(.tmp 4)] ref05_Number_B.erase)
  | "ref09.digit" => some (.code [(.tmp 2)] ref09_digit_B.erase)
  | "point.figures" => some (.code [(.tmp 2)] point_figures_B.erase)
  | "@dyn" => some (.dyn tbl)
  | _ => none

theorem ok1 : EnvOk Try.prog nm E := by
  intro f n hf af ha
  unfold nm at hf
  split at hf
  · injection hf with hf
    subst hf
    have e : some _ = some af := ha
    injection e with e
    subst e
    exact .inl ⟨_, Try.func137, c_ref02_Add⟩
  · injection hf with hf
    subst hf
    have e : some _ = some af := ha
    injection e with e
    subst e
    exact .inl ⟨_, Try.func150, c_wide_Sub⟩
  · injection hf with hf
    subst hf
    have e : some _ = some af := ha
    injection e with e
    subst e
    exact .inl ⟨_, Try.func140, c_ref02_Sub⟩
  · injection hf with hf
    subst hf
    have e : some _ = some af := ha
    injection e with e
    subst e
    exact .inl ⟨_, Try.func149, c_wide_Less⟩
  · injection hf with hf
    subst hf
    have e : some _ = some af := ha
    injection e with e
    subst e
    exact .inl ⟨_, Try.func139, c_ref02_Less⟩
  · injection hf with hf
    subst hf
    have e : some _ = some af := ha
    injection e with e
    subst e
    exact .inl ⟨_, Try.func108, c_wide_Of⟩
  · injection hf with hf
    subst hf
    have e : some _ = some af := ha
    injection e with e
    subst e
    exact .inl ⟨_, Try.func138, c_ref02_Of⟩
  · injection hf with hf
    subst hf
    have e : some _ = some af := ha
    injection e with e
    subst e
    exact .inl ⟨_, Try.func132, c_wide_Div⟩
  · injection hf with hf
    subst hf
    have e : some _ = some af := ha
    injection e with e
    subst e
    exact .inl ⟨_, Try.func119, c_ref02_Div⟩
  · injection hf with hf
    subst hf
    have e : some _ = some af := ha
    injection e with e
    subst e
    exact .inl ⟨_, Try.func107, c_wide_Text⟩
  · injection hf with hf
    subst hf
    have e : some _ = some af := ha
    injection e with e
    subst e
    exact .inl ⟨_, Try.func91, c_ref02_Text⟩
  · injection hf with hf
    subst hf
    have e : some _ = some af := ha
    injection e with e
    subst e
    exact .inl ⟨_, Try.func136, c_ref02_Bits⟩
  · injection hf with hf
    subst hf
    have e : some _ = some af := ha
    injection e with e
    subst e
    exact .inl ⟨_, Try.func141, c_ref02_whole⟩
  · injection hf with hf
    subst hf
    have e : some _ = some af := ha
    injection e with e
    subst e
    exact .inl ⟨_, Try.func148, c_wide_twice⟩
  · injection hf with hf
    subst hf
    have e : some _ = some af := ha
    injection e with e
    subst e
    exact .inl ⟨_, Try.func133, c_slices_Reverse_byte_byte⟩
  · injection hf with hf
    subst hf
    have e : some _ = some af := ha
    injection e with e
    subst e
    exact .inl ⟨_, Try.func7, c_law09_PointBytes⟩
  · injection hf with hf
    subst hf
    have e : some _ = some af := ha
    injection e with e
    subst e
    exact .inl ⟨_, Try.func8, c_law09_PointNames⟩
  · injection hf with hf
    subst hf
    have e : some _ = some af := ha
    injection e with e
    subst e
    exact .inl ⟨_, Try.func9, c_law09_PointBack⟩
  · injection hf with hf
    subst hf
    have e : some _ = some af := ha
    injection e with e
    subst e
    exact .inl ⟨_, Try.func15, c_point_Name⟩
  · injection hf with hf
    subst hf
    have e : some _ = some af := ha
    injection e with e
    subst e
    exact .inl ⟨_, Try.func17, c_point_Parse⟩
  · injection hf with hf
    subst hf
    have e : some _ = some af := ha
    injection e with e
    subst e
    exact .inl ⟨_, Try.func19, c_point_Split⟩
  · injection hf with hf
    subst hf
    have e : some _ = some af := ha
    injection e with e
    subst e
    exact .inl ⟨_, Try.func20, c_point_Join⟩
  · injection hf with hf
    subst hf
    have e : some _ = some af := ha
    injection e with e
    subst e
    exact .inl ⟨_, Try.func35, c_ref09_Split⟩
  · injection hf with hf
    subst hf
    have e : some _ = some af := ha
    injection e with e
    subst e
    exact .inl ⟨_, Try.func36, c_ref09_Join⟩
  · injection hf with hf
    subst hf
    have e : some _ = some af := ha
    injection e with e
    subst e
    exact .inl ⟨_, Try.func37, c_point_Af⟩
  · injection hf with hf
    subst hf
    have e : some _ = some af := ha
    injection e with e
    subst e
    exact .inl ⟨_, Try.func38, c_ref09_Af⟩
  · injection hf with hf
    subst hf
    have e : some _ = some af := ha
    injection e with e
    subst e
    exact .inl ⟨_, Try.func39, c_law09_live⟩
  · injection hf with hf
    subst hf
    have e : some _ = some af := ha
    injection e with e
    subst e
    exact .inl ⟨_, Try.func40, c_ref09_Parse⟩
  · injection hf with hf
    subst hf
    have e : some _ = some af := ha
    injection e with e
    subst e
    exact .inl ⟨_, Try.func41, c_point_Sort⟩
  · injection hf with hf
    subst hf
    have e : some _ = some af := ha
    injection e with e
    subst e
    exact .inl ⟨_, Try.func42, c_ref09_Sort⟩
  · injection hf with hf
    subst hf
    have e : some _ = some af := ha
    injection e with e
    subst e
    exact .inl ⟨_, Try.func43, c_point_Prec⟩
  · injection hf with hf
    subst hf
    have e : some _ = some af := ha
    injection e with e
    subst e
    exact .inl ⟨_, Try.func44, c_ref09_Prec⟩
  · injection hf with hf
    subst hf
    have e : some _ = some af := ha
    injection e with e
    subst e
    exact .inl ⟨_, Try.func45, c_ref09_Name⟩
  · injection hf with hf
    subst hf
    have e : some _ = some af := ha
    injection e with e
    subst e
    exact .inl ⟨_, Try.func64, c_point_sorts⟩
  · injection hf with hf
    subst hf
    have e : some _ = some af := ha
    injection e with e
    subst e
    exact .inl ⟨_, Try.func66, c_point_is⟩
  · injection hf with hf
    subst hf
    have e : some _ = some af := ha
    injection e with e
    subst e
    exact .inl ⟨_, Try.func88, c_ref09_Is⟩
  · injection hf with hf
    subst hf
    have e : some _ = some af := ha
    injection e with e
    subst e
    exact .inl ⟨_, Try.func89, c_ref05_Number⟩
  · injection hf with hf
    subst hf
    have e : some _ = some af := ha
    injection e with e
    subst e
    exact .inl ⟨_, Try.func90, c_ref09_digit⟩
  · injection hf with hf
    subst hf
    have e : some _ = some af := ha
    injection e with e
    subst e
    exact .inl ⟨_, Try.func106, c_point_figures⟩
  · cases hf

theorem ro1 : EnvRo E := by
  intro n g hg
  unfold E at hg
  split at hg <;> first | (cases hg; done) | (injection hg with hg; injection hg with hg; subst hg; first | exact fun args h v h2 hx => alone_ro hx | exact fun args h v h2 hx => sumA_ro hx)

theorem calls1 : CallsOk Try.prog nm (callA E) := calls_sound mixed ok1 (.inr ⟨_, rfl, dynT⟩) ro1

def EW : EnvW := EnvW.mk (fun s => match s with
    | "law02.WideAdds" => some law02_WideAdds
    | "law02.WideMuls" => some law02_WideMuls
    | "law02.WideDivs" => some law02_WideDivs
    | "law02.WideTexts" => some law02_WideTexts
    | "law02.WideBack" => some law02_WideBack
    | "wide.Add" => some wide_Add
    | "ref02.Add" => some ref02_Add
    | "wide.Sub" => some wide_Sub
    | "ref02.Sub" => some ref02_Sub
    | "law02.live" => some law02_live
    | "wide.Less" => some wide_Less
    | "ref02.Less" => some ref02_Less
    | "wide.Of" => some wide_Of
    | "ref02.Of" => some ref02_Of
    | "wide.Mul" => some wide_Mul
    | "ref02.Mul" => some ref02_Mul
    | "wide.Div" => some wide_Div
    | "ref02.Div" => some ref02_Div
    | "wide.Text" => some wide_Text
    | "ref02.Text" => some ref02_Text
    | "wide.Cap" => some wide_Cap
    | "ref02.Cap" => some ref02_Cap
    | "ref02.Bits" => some ref02_Bits
    | "ref02.whole" => some ref02_whole
    | "wide.low" => some wide_low
    | "wide.twice" => some wide_twice
    | "slices.Reverse[[]byte,byte]" => some slices_Reverse_byte_byte
    | "law09.PointBytes" => some law09_PointBytes
    | "law09.PointNames" => some law09_PointNames
    | "law09.PointBack" => some law09_PointBack
    | "point.Name" => some point_Name
    | "point.Parse" => some point_Parse
    | "point.Split" => some point_Split
    | "point.Join" => some point_Join
    | "ref09.Split" => some ref09_Split
    | "ref09.Join" => some ref09_Join
    | "point.Af" => some point_Af
    | "ref09.Af" => some ref09_Af
    | "law09.live" => some law09_live
    | "ref09.Parse" => some ref09_Parse
    | "point.Sort" => some point_Sort
    | "ref09.Sort" => some ref09_Sort
    | "point.Prec" => some point_Prec
    | "ref09.Prec" => some ref09_Prec
    | "ref09.Name" => some ref09_Name
    | "point.sorts" => some point_sorts
    | "point.is" => some point_is
    | "ref09.Is" => some ref09_Is
    | "ref05.Number" => some ref05_Number
    | "ref09.digit" => some ref09_digit
    | "point.figures" => some point_figures
    | _ => none) tbl

theorem sim : EnvSim EW E := by
  refine ⟨rfl, fun f wf hf => ?_⟩
  simp only [EW] at hf
  split at hf
  · injection hf with hf; subst hf; exact .inl ⟨_, _, rfl, rfl⟩
  · injection hf with hf; subst hf; exact .inl ⟨_, _, rfl, rfl⟩
  · injection hf with hf; subst hf; exact .inl ⟨_, _, rfl, rfl⟩
  · injection hf with hf; subst hf; exact .inl ⟨_, _, rfl, rfl⟩
  · injection hf with hf; subst hf; exact .inl ⟨_, _, rfl, rfl⟩
  · injection hf with hf; subst hf; exact .inl ⟨_, _, rfl, rfl⟩
  · injection hf with hf; subst hf; exact .inl ⟨_, _, rfl, rfl⟩
  · injection hf with hf; subst hf; exact .inl ⟨_, _, rfl, rfl⟩
  · injection hf with hf; subst hf; exact .inl ⟨_, _, rfl, rfl⟩
  · injection hf with hf; subst hf; exact .inl ⟨_, _, rfl, rfl⟩
  · injection hf with hf; subst hf; exact .inl ⟨_, _, rfl, rfl⟩
  · injection hf with hf; subst hf; exact .inl ⟨_, _, rfl, rfl⟩
  · injection hf with hf; subst hf; exact .inl ⟨_, _, rfl, rfl⟩
  · injection hf with hf; subst hf; exact .inl ⟨_, _, rfl, rfl⟩
  · injection hf with hf; subst hf; exact .inl ⟨_, _, rfl, rfl⟩
  · injection hf with hf; subst hf; exact .inl ⟨_, _, rfl, rfl⟩
  · injection hf with hf; subst hf; exact .inl ⟨_, _, rfl, rfl⟩
  · injection hf with hf; subst hf; exact .inl ⟨_, _, rfl, rfl⟩
  · injection hf with hf; subst hf; exact .inl ⟨_, _, rfl, rfl⟩
  · injection hf with hf; subst hf; exact .inl ⟨_, _, rfl, rfl⟩
  · injection hf with hf; subst hf; exact .inl ⟨_, _, rfl, rfl⟩
  · injection hf with hf; subst hf; exact .inl ⟨_, _, rfl, rfl⟩
  · injection hf with hf; subst hf; exact .inl ⟨_, _, rfl, rfl⟩
  · injection hf with hf; subst hf; exact .inl ⟨_, _, rfl, rfl⟩
  · injection hf with hf; subst hf; exact .inl ⟨_, _, rfl, rfl⟩
  · injection hf with hf; subst hf; exact .inl ⟨_, _, rfl, rfl⟩
  · injection hf with hf; subst hf; exact .inl ⟨_, _, rfl, rfl⟩
  · injection hf with hf; subst hf; exact .inl ⟨_, _, rfl, rfl⟩
  · injection hf with hf; subst hf; exact .inl ⟨_, _, rfl, rfl⟩
  · injection hf with hf; subst hf; exact .inl ⟨_, _, rfl, rfl⟩
  · injection hf with hf; subst hf; exact .inl ⟨_, _, rfl, rfl⟩
  · injection hf with hf; subst hf; exact .inl ⟨_, _, rfl, rfl⟩
  · injection hf with hf; subst hf; exact .inl ⟨_, _, rfl, rfl⟩
  · injection hf with hf; subst hf; exact .inl ⟨_, _, rfl, rfl⟩
  · injection hf with hf; subst hf; exact .inl ⟨_, _, rfl, rfl⟩
  · injection hf with hf; subst hf; exact .inl ⟨_, _, rfl, rfl⟩
  · injection hf with hf; subst hf; exact .inl ⟨_, _, rfl, rfl⟩
  · injection hf with hf; subst hf; exact .inl ⟨_, _, rfl, rfl⟩
  · injection hf with hf; subst hf; exact .inl ⟨_, _, rfl, rfl⟩
  · injection hf with hf; subst hf; exact .inl ⟨_, _, rfl, rfl⟩
  · injection hf with hf; subst hf; exact .inl ⟨_, _, rfl, rfl⟩
  · injection hf with hf; subst hf; exact .inl ⟨_, _, rfl, rfl⟩
  · injection hf with hf; subst hf; exact .inl ⟨_, _, rfl, rfl⟩
  · injection hf with hf; subst hf; exact .inl ⟨_, _, rfl, rfl⟩
  · injection hf with hf; subst hf; exact .inl ⟨_, _, rfl, rfl⟩
  · injection hf with hf; subst hf; exact .inl ⟨_, _, rfl, rfl⟩
  · injection hf with hf; subst hf; exact .inl ⟨_, _, rfl, rfl⟩
  · injection hf with hf; subst hf; exact .inl ⟨_, _, rfl, rfl⟩
  · injection hf with hf; subst hf; exact .inl ⟨_, _, rfl, rfl⟩
  · injection hf with hf; subst hf; exact .inl ⟨_, _, rfl, rfl⟩
  · injection hf with hf; subst hf; exact .inl ⟨_, _, rfl, rfl⟩
  · cases hf

theorem own : ownKnob Try.prog.godebug = none := by kernel_rfl
theorem laidOut : laidOutB Try.prog = true := by kernel_rfl

mutual
theorem bulk_eq {H : Type} : ∀ d : DataW H, Rows.uptoBulk d = bulkW d
  | .lit l => by cases l <;> rfl
  | .nil => rfl
  | .ptr d => by simp only [Rows.uptoBulk, bulkW, bulk_eq d]
  | .slice a b => by simp only [Rows.uptoBulk, bulkW, bulk_eqs a, bulk_eqs b]
  | .agg a => by simp only [Rows.uptoBulk, bulkW, bulk_eqs a]
  | .iface _ d => by simp only [Rows.uptoBulk, bulkW, bulk_eq d]
  | .map a => by simp only [Rows.uptoBulk, bulkW, bulk_eqe a]
  | .held _ => rfl
theorem bulk_eqs {H : Type} : ∀ l : List (DataW H), Rows.uptoBulkAll l = bulkWs l
  | [] => rfl
  | d :: r => by simp only [Rows.uptoBulkAll, bulkWs, bulk_eq d, bulk_eqs r]
theorem bulk_eqe {H : Type} : ∀ l : List (Lit × DataW H), Rows.uptoBulkEntries l = bulkWe l
  | [] => rfl
  | d :: r => by simp only [Rows.uptoBulkEntries, bulkWe, bulk_eqx d, bulk_eqe r]
theorem bulk_eqx {H : Type} : ∀ x : Lit × DataW H, Rows.uptoBulkEntry x = bulkWx x
  | (l, d) => by cases l <;> simp only [Rows.uptoBulkEntry, bulkWx, bulk_eq d]
end

theorem bulk_small {H : Type} {l : List (DataW H)} (hk : Rows.uptoSmall H l = true) : bulkWs l ≤ 1048576 := by
  have h : Rows.uptoBulkAll l ≤ 1048576 := of_decide_eq_true hk
  rw [bulk_eqs] at h
  exact h

theorem env_WbvC02 : WbvC02Env EW := ⟨rfl, rfl, rfl, rfl, rfl, rfl, rfl, rfl, rfl, rfl, rfl, rfl, rfl, rfl, rfl, rfl, rfl, rfl, rfl, rfl, rfl, rfl, rfl, rfl, rfl, rfl, rfl⟩

theorem env_WbvC09 : WbvC09Env EW := ⟨rfl, rfl, rfl, rfl, rfl, rfl, rfl, rfl, rfl, rfl, rfl, rfl, rfl, rfl, rfl, rfl, rfl, rfl, rfl, rfl, rfl, rfl, rfl, rfl⟩

end Go.Proofs.Ytlbekhmgpfbgnaa.Wb

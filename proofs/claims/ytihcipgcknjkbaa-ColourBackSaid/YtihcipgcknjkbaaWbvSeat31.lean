/- The functions of this seat's program, as both machines have them: their names, their code, and that it is their code. -/
import Derived.Test.YtihcipgcknjkbaaRows
import Derived.Test.YtihcipgcknjkbaaWbA5
import Derived.JoinedCond
import Derived.Deep.CondSized
import Derived.Test.YtihcipgcknjkbaaWbvC31
set_option maxRecDepth 100000
namespace Go.Proofs.Ytihcipgcknjkbaa.Wb
open Go Go.Wb Go.Wb.Code

def nm : Names := fun f => match f with
  | 3 => some "law31.ColourBack"
  | 13 => some "colour.ParseAll"
  | 14 => some "colour.Print"
  | 15 => some "ref08.SameInts"
  | 16 => some "colour.Check"
  | 17 => some "colour.Parse"
  | 18 => some "colour.Name"
  | 19 => some "law31.live"
  | 48 => some "colour.is"
  | 49 => some "colour.Standard"
  | 50 => some "colour.Of"
  | 51 => some "colour.Worst"
  | 66 => some "point.Prec"
  | _ => none

def tbl : List (Nat × String) := []

def E0 : Env := fun s => match s with
  | "law31.ColourBack" => some (.code [(.tmp 4)] law31_ColourBack_B.erase)
  | "colour.ParseAll" => some (.code [(.tmp 2), (.cell 3 (some 2))] colour_ParseAll_B.erase)
  | "colour.Print" => some (.code [(.tmp 2)] colour_Print_B.erase)
  | "ref08.SameInts" => some (.code [(.tmp 4)] ref08_SameInts_B.erase)
  | "colour.Check" => some (.code [(.cell 2 (some 2))] colour_Check_B.erase)
  | "colour.Parse" => some (.code [(.tmp 2), (.tmp 3)] colour_Parse_B.erase)
  | "colour.Name" => some (.code [(.tmp 2)] colour_Name_B.erase)
  | "law31.live" => some (.code [(.tmp 0)] law31_live_B.erase)
  | "colour.is" => some (.code [(.tmp 2)] colour_is_B.erase)
  | "colour.Standard" => some (.code [(.tmp 0)] colour_Standard_B.erase)
  | "colour.Of" => some (.code [(.tmp 4), (.tmp 5)] colour_Of_B.erase)
  | "colour.Worst" => some (.code [(.tmp 2)] colour_Worst_B.erase)
  | "point.Prec" => some (.code [(.tmp 2)] point_Prec_B.erase)
  | "@dyn" => some (.dyn tbl)
  | _ => none

theorem c_law31_ColourBack : compileFun Try.prog nm Try.f3 = some (.code [(.tmp 4)] law31_ColourBack_B.erase) := by kernel_rfl
theorem c_colour_ParseAll : compileFun Try.prog nm Try.f13 = some (.code [(.tmp 2), (.cell 3 (some 2))] colour_ParseAll_B.erase) := by kernel_rfl
theorem c_colour_Print : compileFun Try.prog nm Try.f14 = some (.code [(.tmp 2)] colour_Print_B.erase) := by kernel_rfl
theorem c_ref08_SameInts : compileFun Try.prog nm Try.f15 = some (.code [(.tmp 4)] ref08_SameInts_B.erase) := by kernel_rfl
theorem c_colour_Check : compileFun Try.prog nm Try.f16 = some (.code [(.cell 2 (some 2))] colour_Check_B.erase) := by kernel_rfl
theorem c_colour_Parse : compileFun Try.prog nm Try.f17 = some (.code [(.tmp 2), (.tmp 3)] colour_Parse_B.erase) := by kernel_rfl
theorem c_colour_Name : compileFun Try.prog nm Try.f18 = some (.code [(.tmp 2)] colour_Name_B.erase) := by kernel_rfl
theorem c_law31_live : compileFun Try.prog nm Try.f19 = some (.code [(.tmp 0)] law31_live_B.erase) := by kernel_rfl
theorem c_colour_is : compileFun Try.prog nm Try.f48 = some (.code [(.tmp 2)] colour_is_B.erase) := by kernel_rfl
theorem c_colour_Standard : compileFun Try.prog nm Try.f49 = some (.code [(.tmp 0)] colour_Standard_B.erase) := by kernel_rfl
theorem c_colour_Of : compileFun Try.prog nm Try.f50 = some (.code [(.tmp 4), (.tmp 5)] colour_Of_B.erase) := by kernel_rfl
theorem c_colour_Worst : compileFun Try.prog nm Try.f51 = some (.code [(.tmp 2)] colour_Worst_B.erase) := by kernel_rfl
theorem c_point_Prec : compileFun Try.prog nm Try.f66 = some (.code [(.tmp 2)] point_Prec_B.erase) := by kernel_rfl

theorem ok0 : EnvOk Try.prog nm E0 := by
  intro f n hf af ha
  unfold nm at hf
  split at hf
  · injection hf with hf
    subst hf
    have e : some _ = some af := ha
    injection e with e
    subst e
    exact .inl ⟨_, Try.func3, c_law31_ColourBack⟩
  · injection hf with hf
    subst hf
    have e : some _ = some af := ha
    injection e with e
    subst e
    exact .inl ⟨_, Try.func13, c_colour_ParseAll⟩
  · injection hf with hf
    subst hf
    have e : some _ = some af := ha
    injection e with e
    subst e
    exact .inl ⟨_, Try.func14, c_colour_Print⟩
  · injection hf with hf
    subst hf
    have e : some _ = some af := ha
    injection e with e
    subst e
    exact .inl ⟨_, Try.func15, c_ref08_SameInts⟩
  · injection hf with hf
    subst hf
    have e : some _ = some af := ha
    injection e with e
    subst e
    exact .inl ⟨_, Try.func16, c_colour_Check⟩
  · injection hf with hf
    subst hf
    have e : some _ = some af := ha
    injection e with e
    subst e
    exact .inl ⟨_, Try.func17, c_colour_Parse⟩
  · injection hf with hf
    subst hf
    have e : some _ = some af := ha
    injection e with e
    subst e
    exact .inl ⟨_, Try.func18, c_colour_Name⟩
  · injection hf with hf
    subst hf
    have e : some _ = some af := ha
    injection e with e
    subst e
    exact .inl ⟨_, Try.func19, c_law31_live⟩
  · injection hf with hf
    subst hf
    have e : some _ = some af := ha
    injection e with e
    subst e
    exact .inl ⟨_, Try.func48, c_colour_is⟩
  · injection hf with hf
    subst hf
    have e : some _ = some af := ha
    injection e with e
    subst e
    exact .inl ⟨_, Try.func49, c_colour_Standard⟩
  · injection hf with hf
    subst hf
    have e : some _ = some af := ha
    injection e with e
    subst e
    exact .inl ⟨_, Try.func50, c_colour_Of⟩
  · injection hf with hf
    subst hf
    have e : some _ = some af := ha
    injection e with e
    subst e
    exact .inl ⟨_, Try.func51, c_colour_Worst⟩
  · injection hf with hf
    subst hf
    have e : some _ = some af := ha
    injection e with e
    subst e
    exact .inl ⟨_, Try.func66, c_point_Prec⟩
  · cases hf

theorem dynT : DynTab Try.prog nm tbl := by
  intro e he
  simp only [tbl, List.mem_cons, List.not_mem_nil, or_false] at he
  try exact he.elim

theorem mixed : Try.prog.follows .mixedOrders = true := Try.checked.mixed

theorem calls0 : CallsOk Try.prog nm (callA E0) := calls_sound mixed ok0 (.inr ⟨_, rfl, dynT⟩)

theorem run_law31_live : aloneE E0 4000 [(.tmp 0)] law31_live_B.erase true = true := by kernel_rfl
theorem alone_law31_live : ∀ args h v h', alone true args h = some (v, h') → CallOk Try.prog 19 args h v h' := by
  obtain ⟨h1, hx⟩ := aloneE_ok (E := E0) (f := "law31.live") rfl run_law31_live
  exact alone_ok (calls0.1 _ _ _ _ _ hx 19 rfl)

/-- The environment: the functions that answer true alone stand for themselves. -/
def E : Env := fun s => match s with
  | "law31.ColourBack" => some (.code [(.tmp 4)] law31_ColourBack_B.erase)
  | "colour.ParseAll" => some (.code [(.tmp 2), (.cell 3 (some 2))] colour_ParseAll_B.erase)
  | "colour.Print" => some (.code [(.tmp 2)] colour_Print_B.erase)
  | "ref08.SameInts" => some (.code [(.tmp 4)] ref08_SameInts_B.erase)
  | "colour.Check" => some (.code [(.cell 2 (some 2))] colour_Check_B.erase)
  | "colour.Parse" => some (.code [(.tmp 2), (.tmp 3)] colour_Parse_B.erase)
  | "colour.Name" => some (.code [(.tmp 2)] colour_Name_B.erase)
  | "law31.live" => some (.prim (alone true))
  | "colour.is" => some (.code [(.tmp 2)] colour_is_B.erase)
  | "colour.Standard" => some (.code [(.tmp 0)] colour_Standard_B.erase)
  | "colour.Of" => some (.code [(.tmp 4), (.tmp 5)] colour_Of_B.erase)
  | "colour.Worst" => some (.code [(.tmp 2)] colour_Worst_B.erase)
  | "point.Prec" => some (.code [(.tmp 2)] point_Prec_B.erase)
  | "@dyn" => some (.dyn tbl)
  | _ => none

theorem ok1 : EnvOk Try.prog nm E := by
  intro f n hf af ha
  unfold nm at hf
  split at hf
  · injection hf with hf
    subst hf
    have e : some _ = some af := ha
    injection e with e
    subst e
    exact .inl ⟨_, Try.func3, c_law31_ColourBack⟩
  · injection hf with hf
    subst hf
    have e : some _ = some af := ha
    injection e with e
    subst e
    exact .inl ⟨_, Try.func13, c_colour_ParseAll⟩
  · injection hf with hf
    subst hf
    have e : some _ = some af := ha
    injection e with e
    subst e
    exact .inl ⟨_, Try.func14, c_colour_Print⟩
  · injection hf with hf
    subst hf
    have e : some _ = some af := ha
    injection e with e
    subst e
    exact .inl ⟨_, Try.func15, c_ref08_SameInts⟩
  · injection hf with hf
    subst hf
    have e : some _ = some af := ha
    injection e with e
    subst e
    exact .inl ⟨_, Try.func16, c_colour_Check⟩
  · injection hf with hf
    subst hf
    have e : some _ = some af := ha
    injection e with e
    subst e
    exact .inl ⟨_, Try.func17, c_colour_Parse⟩
  · injection hf with hf
    subst hf
    have e : some _ = some af := ha
    injection e with e
    subst e
    exact .inl ⟨_, Try.func18, c_colour_Name⟩
  · injection hf with hf
    subst hf
    have e : some (AFun.prim (alone true)) = some af := ha
    injection e with e
    subst e
    exact .inr ⟨_, rfl, alone_law31_live⟩
  · injection hf with hf
    subst hf
    have e : some _ = some af := ha
    injection e with e
    subst e
    exact .inl ⟨_, Try.func48, c_colour_is⟩
  · injection hf with hf
    subst hf
    have e : some _ = some af := ha
    injection e with e
    subst e
    exact .inl ⟨_, Try.func49, c_colour_Standard⟩
  · injection hf with hf
    subst hf
    have e : some _ = some af := ha
    injection e with e
    subst e
    exact .inl ⟨_, Try.func50, c_colour_Of⟩
  · injection hf with hf
    subst hf
    have e : some _ = some af := ha
    injection e with e
    subst e
    exact .inl ⟨_, Try.func51, c_colour_Worst⟩
  · injection hf with hf
    subst hf
    have e : some _ = some af := ha
    injection e with e
    subst e
    exact .inl ⟨_, Try.func66, c_point_Prec⟩
  · cases hf

theorem calls1 : CallsOk Try.prog nm (callA E) := calls_sound mixed ok1 (.inr ⟨_, rfl, dynT⟩)

def EW : EnvW := EnvW.mk (fun s => match s with
    | "law31.ColourBack" => some law31_ColourBack
    | "colour.ParseAll" => some colour_ParseAll
    | "colour.Print" => some colour_Print
    | "ref08.SameInts" => some ref08_SameInts
    | "colour.Check" => some colour_Check
    | "colour.Parse" => some colour_Parse
    | "colour.Name" => some colour_Name
    | "law31.live" => some (.prim aloneT)
    | "colour.is" => some colour_is
    | "colour.Standard" => some colour_Standard
    | "colour.Of" => some colour_Of
    | "colour.Worst" => some colour_Worst
    | "point.Prec" => some point_Prec
    | _ => none) tbl

theorem sim : EnvSim EW E := by
  refine ⟨rfl, fun f wf hf => ?_⟩
  simp only [EW] at hf
  split at hf
  · injection hf with hf; subst hf; exact .inl ⟨_, _, rfl, rfl⟩
  · injection hf with hf; subst hf; exact .inl ⟨_, _, rfl, rfl⟩
  · injection hf with hf; subst hf; exact .inl ⟨_, _, rfl, rfl⟩
  · injection hf with hf; subst hf; exact .inl ⟨_, _, rfl, rfl⟩
  · injection hf with hf; subst hf; exact .inl ⟨_, _, rfl, rfl⟩
  · injection hf with hf; subst hf; exact .inl ⟨_, _, rfl, rfl⟩
  · injection hf with hf; subst hf; exact .inl ⟨_, _, rfl, rfl⟩
  · injection hf with hf; subst hf; exact .inr ⟨_, rfl, alone_sim rfl⟩
  · injection hf with hf; subst hf; exact .inl ⟨_, _, rfl, rfl⟩
  · injection hf with hf; subst hf; exact .inl ⟨_, _, rfl, rfl⟩
  · injection hf with hf; subst hf; exact .inl ⟨_, _, rfl, rfl⟩
  · injection hf with hf; subst hf; exact .inl ⟨_, _, rfl, rfl⟩
  · injection hf with hf; subst hf; exact .inl ⟨_, _, rfl, rfl⟩
  · cases hf

theorem own : ownKnob Try.prog.godebug = none := by kernel_rfl
theorem laidOut : laidOutB Try.prog = true := by kernel_rfl

mutual
theorem bulk_eq {H : Type} : ∀ d : DataW H, Rows.uptoBulk d = bulkW d
  | .lit l => by cases l <;> rfl
  | .nil => rfl
  | .ptr d => by simp only [Rows.uptoBulk, bulkW, bulk_eq d]
  | .slice a b => by simp only [Rows.uptoBulk, bulkW, bulk_eqs a, bulk_eqs b]
  | .agg a => by simp only [Rows.uptoBulk, bulkW, bulk_eqs a]
  | .iface _ d => by simp only [Rows.uptoBulk, bulkW, bulk_eq d]
  | .map a => by simp only [Rows.uptoBulk, bulkW, bulk_eqe a]
  | .held _ => rfl
theorem bulk_eqs {H : Type} : ∀ l : List (DataW H), Rows.uptoBulkAll l = bulkWs l
  | [] => rfl
  | d :: r => by simp only [Rows.uptoBulkAll, bulkWs, bulk_eq d, bulk_eqs r]
theorem bulk_eqe {H : Type} : ∀ l : List (Lit × DataW H), Rows.uptoBulkEntries l = bulkWe l
  | [] => rfl
  | d :: r => by simp only [Rows.uptoBulkEntries, bulkWe, bulk_eqx d, bulk_eqe r]
theorem bulk_eqx {H : Type} : ∀ x : Lit × DataW H, Rows.uptoBulkEntry x = bulkWx x
  | (l, d) => by cases l <;> simp only [Rows.uptoBulkEntry, bulkWx, bulk_eq d]
end

theorem bulk_small {H : Type} {l : List (DataW H)} (hk : Rows.uptoSmall H l = true) : bulkWs l ≤ 1048576 := by
  have h : Rows.uptoBulkAll l ≤ 1048576 := of_decide_eq_true hk
  rw [bulk_eqs] at h
  exact h

theorem env_WbvC31 : WbvC31Env EW := ⟨rfl, rfl, rfl, rfl, rfl, rfl, rfl, rfl, rfl, rfl, rfl, rfl, rfl⟩

end Go.Proofs.Ytihcipgcknjkbaa.Wb

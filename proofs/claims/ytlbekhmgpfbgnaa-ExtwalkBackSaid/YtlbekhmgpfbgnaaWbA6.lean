import Derived.Test.YtlbekhmgpfbgnaaWbA5
import Derived.Test.YtlbekhmgpfbgnaaWbA3
import Derived.Below
import Derived.Laws.BitsAllLaws
set_option linter.all false
namespace Go.Wb
open Go
structure Ent where
 si : Nat
 fw : Nat
 x : Option Nat
 on : Bool
section
variable {E : EnvW} {K : List Fm} {t to : TT} {l : List WOper} {st ct : Nat} {g r : Bool} {L : List Bool} {A : List Ent} {ps : List (Nat × Nat)} {d : Option Tmp} {ann : List (Nat × Nat)} {io : List Nat}
noncomputable def finE (E : EnvW) (l : List WOper) (t : TT) (e : Ent) : Nat × Nat := (e.si, if e.on then e.fw + fwd E.tbl (callV E) l t e.x else e.fw)
noncomputable def exd (E : EnvW) (l : List WOper) (ps : List (Nat × Nat)) (t to : TT) (st : Nat) (g : Bool) (L : List Bool) (ct : Nat) (A : List Ent) (K : List Fm) : Option (AExit × TT) :=
 match drawL E.tbl (callV E) l t to st g with
 | some (t', st', L') => if ps.all (fun p => ((L ++ L').getD p.1 false && decide (p.2 ≤ st')) || fOk ((A.map (finE E l t) ++ fwdL E.tbl (callV E) l t ct).getD p.1 (1, 0)) p.2) then ex E K t' else none
 | none => none
@[simp] theorem ex_drawnP {p : Nat × Nat} : ex E (.c (.drawn l (p :: ps)) :: K) t = exd E l (p :: ps) t t 0 true [] 0 [] K := by
  simp only [ex, runV_drawnP, exd, drawW, List.nil_append, List.map_nil]
  cases drawL E.tbl (callV E) l t t 0 true with
  | none => rfl
  | some x =>
    obtain ⟨t', st', L'⟩ := x
    simp only
    by_cases hc : ((p :: ps).all fun p => (L'.getD p.1 false && decide (p.2 ≤ st')) || fOk ((fwdL E.tbl (callV E) l t 0).getD p.1 (1, 0)) p.2) = true
    ·rw [if_pos hc, if_pos hc]; rfl
    ·rw [if_neg hc, if_neg hc]; rfl
def nth (L : List Bool) (i : Nat) : Bool := L.getD i false
@[simp] theorem nth_zero {b : Bool} {l : List Bool} : nth (b :: l) 0 = b := rfl
@[simp] theorem nth_succ {b : Bool} {l : List Bool} {i : Nat} : nth (b :: l) (i + 1) = nth l i := by simp [nth]
@[simp] theorem nth_lit {b : Bool} {l : List Bool} {i : Nat} [h : NeZero i] : nth (b :: l) i = nth l (i - 1) := by
  obtain ⟨j, hj⟩ := Nat.exists_eq_succ_of_ne_zero h.out
  subst hj
  simp [nth]
def nthA (A : List Ent) (i s : Nat) : Bool := fOk ((A.map fun e => (e.si, e.fw)).getD i (1, 0)) s
@[simp] theorem nthA_zero {si fw s : Nat} {x : Option Nat} {on : Bool} {l : List Ent} : nthA (⟨si, fw, x, on⟩ :: l) 0 s = (decide (si ≤ s) && decide (s ≤ fw)) := rfl
@[simp] theorem nthA_succ {e : Ent} {l : List Ent} {i s : Nat} : nthA (e :: l) (i + 1) s = nthA l i s := by simp [nthA]
@[simp] theorem nthA_lit {e : Ent} {l : List Ent} {i s : Nat} [h : NeZero i] : nthA (e :: l) i s = nthA l (i - 1) s := by
  obtain ⟨j, hj⟩ := Nat.exists_eq_succ_of_ne_zero h.out
  subst hj
  simp [nthA]
@[simp] theorem exd_nil : exd E [] ps t to st g L ct A K = if ps.all (fun p => (nth L p.1 && decide (p.2 ≤ st)) || nthA A p.1 p.2) then ex E K t else none := by
  have : A.map (finE E [] t) = A.map fun e => (e.si, e.fw) := by
   apply List.map_congr_left
   intro e _
   unfold finE
   simp [fwd]
  unfold nth nthA
  simp only [exd, drawL, fwdL, List.append_nil, this]
noncomputable def laterD (E : EnvW) (l : List WOper) (ps : List (Nat × Nat)) (t to : TT) (st : Nat) (g : Bool) (L : List Bool) (ct : Nat) (A : List Ent) (K : List Fm) : Option (AExit × TT) := exd E l ps t to st g L ct A K
theorem laterD_eq : laterD E l ps t to st g L ct A K = exd E l ps t to st g L ct A K := rfl
noncomputable def thenD (E : EnvW) (x : Option (AExit × TT)) (l : List WOper) (ps : List (Nat × Nat)) (to : TT) (st : Nat) (g : Bool) (L : List Bool) (ct : Nat) (A : List Ent) (K : List Fm) : Option (AExit × TT) :=
 match x with
 | some (.normal, t) => exd E l ps t to st g L ct A K
 | _ => none
@[simp] theorem thenD_some : thenD E (some (.normal, t)) l ps to st g L ct A K = exd E l ps t to st g L ct A K := rfl
@[simp] theorem thenD_none : thenD E none l ps to st g L ct A K = none := rfl
def oldX (x : Option (AExit × TT)) (to : TT) (d : Option Tmp) : TT :=
 match x with
 | some (.normal, t) => t
 | _ => putT to d .undef
@[simp] theorem oldX_some : oldX (some (.normal, t)) to d = t := rfl
@[simp] theorem oldX_none : oldX none to d = putT to d .undef := rfl
@[simp] theorem putT_undef {i : Nat} : putT t (some i) .undef = updT t i .undef := rfl
def okX (x : Option (AExit × TT)) : Bool := x.isSome
@[simp] theorem okX_some {x : AExit × TT} : okX (some x) = true := rfl
@[simp] theorem okX_none : okX none = false := rfl
theorem ex_one {o : WOper} (hg : o.guard = none) : ex E [.c (.ops [o])] t = (evalW E.tbl (callV E) o t).map fun x => (.normal, putT x.2 o.dst x.1) := by
 rw [ex_step hg]
 cases evalW E.tbl (callV E) o t with
 | none => rfl
 | some x => obtain ⟨v, t1⟩ := x; simp only [goP, ex_ops0, ex_nil, Option.map_some]
def goodC (f : String) (a : Option Args) : Bool := if f = "@dyn" then false else match a with
 | some a => a.ds.isEmpty && a.hs.isEmpty
 | none => false
theorem goodC_ok {f : String} {a : Args} : goodC f (some a) = if f = "@dyn" then false else (a.ds.isEmpty && a.hs.isEmpty) := rfl
attribute [simp] goodC_ok
def mvA (d : Option Tmp) : List Ent → List Ent
 | [] => []
 | ⟨si, fw, none, on⟩ :: A => ⟨si, fw, none, on⟩ :: mvA d A
 | ⟨si, fw, some x, on⟩ :: A => (if d = some x then ⟨si, fw, some x, false⟩ else ⟨si, fw, some x, on⟩) :: mvA d A
def efA (d : Option Tmp) (good : Bool) (so : Nat → Bool) : List Ent → List Ent
 | [] => []
 | ⟨si, fw, none, true⟩ :: A => ⟨si, fw + 1, none, true⟩ :: efA d good so A
 | ⟨si, fw, some x, true⟩ :: A => (if d = some x then ⟨si, fw, some x, false⟩ else if (good || so x) = true then ⟨si, fw + 1, some x, true⟩ else ⟨si, fw, some x, false⟩) :: efA d good so A
 | ⟨si, fw, x, false⟩ :: A => ⟨si, fw, x, false⟩ :: efA d good so A
@[simp] theorem mvA_nil : mvA d [] = [] := rfl
@[simp] theorem mvA_none {si fw : Nat} {on : Bool} : mvA d (⟨si, fw, none, on⟩ :: A) = ⟨si, fw, none, on⟩ :: mvA d A := rfl
@[simp] theorem mvA_some {si fw x : Nat} {on : Bool} : mvA d (⟨si, fw, some x, on⟩ :: A) = (if d = some x then ⟨si, fw, some x, false⟩ else ⟨si, fw, some x, on⟩) :: mvA d A := rfl
section
variable {good : Bool} {so : Nat → Bool} {si fw x : Nat}
@[simp] theorem efA_nil : efA d good so [] = [] := rfl
@[simp] theorem efA_none : efA d good so (⟨si, fw, none, true⟩ :: A) = ⟨si, fw + 1, none, true⟩ :: efA d good so A := rfl
@[simp] theorem efA_some : efA d good so (⟨si, fw, some x, true⟩ :: A) = (if d = some x then ⟨si, fw, some x, false⟩ else if (good || so x) = true then ⟨si, fw + 1, some x, true⟩ else ⟨si, fw, some x, false⟩) :: efA d good so A := rfl
@[simp] theorem efA_off {x : Option Nat} : efA d good so (⟨si, fw, x, false⟩ :: A) = ⟨si, fw, x, false⟩ :: efA d good so A := by cases x <;> rfl
def stOf (p : Option (Nat × Option Nat × Nat)) (t : TT) (y : Nat) : Bool := stO p y (t y)
@[simp] theorem stOf_at {p : Option (Nat × Option Nat × Nat)} : stOf p t x = stO p x (t x) := rfl
@[simp] theorem stO_ref {k off k' off' : Nat} {c c' : Option Nat} : stO (some (k, c, off)) x (.ref k' c' off') = (k' != k) := rfl
@[simp] theorem stO_box {k off : Nat} {c : Option Nat} {cs : List CV} : stO (some (k, c, off)) x (.box cs) = (x != k) := rfl
@[simp] theorem stO_pf {k off o : Nat} {c : Option Nat} {cs : List PV} : stO (some (k, c, off)) x (.pf cs o) = true := rfl
end
def stE (o : WOper) (t : TT) (e : Ent) : Ent := if e.on then (if presW o t e.x then ⟨e.si, if isE o.op then e.fw + 1 else e.fw, e.x, true⟩ else ⟨e.si, e.fw, e.x, false⟩) else e
def newE (o : WOper) (t : TT) (ct : Nat) : Ent := match adrW o t with
 | some x => ⟨ct, ct, x, true⟩
 | none => ⟨1, 0, none, false⟩
theorem stE_mv {o : WOper} (he : isE o.op = false) : A.map (stE o t) = mvA o.dst A := by
 induction A with
 | nil => rfl
 | cons e A ih =>
   obtain ⟨si, fw, x, on⟩ := e
   rw [List.map_cons, ih]
   cases x with
   | none => cases on <;> simp [stE, presW, he]
   | some x =>
     cases on
     ·simp [stE]
     ·by_cases hd : o.dst = some x
      ·simp [stE, presW, he, hd]
      ·simp [stE, presW, he, hd]
theorem stE_ef {o : WOper} (he : isE o.op = true) {good : Bool} {so : Nat → Bool} (hg : ∀ x, (goodW o t || stOther o t x) = (good || so x)) : A.map (stE o t) = efA o.dst good so A := by
 induction A with
 | nil => rfl
 | cons e A ih =>
   obtain ⟨si, fw, x, on⟩ := e
   rw [List.map_cons, ih]
   cases x with
   | none => cases on <;> simp [stE, presW, he]
   | some x =>
     cases on
     ·simp [stE]
     ·by_cases hd : o.dst = some x
      ·simp [stE, presW, hd]
      ·have := hg x
       simp only [stE, presW, he, if_true, efA_some, hd, if_false, Bool.not_true, Bool.false_or, this]
       cases hgs : (good || so x) <;> simp [hd]
theorem stepW_g {o : WOper} (hg : o.guard = none) : stepW E.tbl (callV E) o t = (evalW E.tbl (callV E) o t).map fun x => putT x.2 o.dst x.1 := by
 unfold stepW
 rw [hg]
 simp only [wantedW]
 cases evalW E.tbl (callV E) o t with
 | none => rfl
 | some x => rfl
theorem exd_s {o : WOper} {t1 : TT} (hs : stepW E.tbl (callV E) o t = some t1) : exd E (o :: l) ps t to st g L ct A K = exd E l ps t1 (oldW o t to) (if isE o.op && (g && goodW o t) then st + 1 else st) (g && (!isE o.op || goodW o t)) (L ++ (loadsW o t to).map (· && g)) (if isE o.op then ct + 1 else ct) (A.map (stE o t) ++ if isLoad o.op then [newE o t ct] else []) K := by
 unfold exd
 simp only [drawL, hs, fwdL]
 have e1 : A.map (finE E (o :: l) t) ++ ((if isLoad o.op = true then [match adrW o t with
  | some x => (ct, ct + fwd E.tbl (callV E) l t1 x)
  | none => (1, 0)] else []) ++ fwdL E.tbl (callV E) l t1 (if isE o.op = true then ct + 1 else ct)) =
  (A.map (stE o t) ++ if isLoad o.op = true then [newE o t ct] else []).map (finE E l t1) ++ fwdL E.tbl (callV E) l t1 (if isE o.op = true then ct + 1 else ct) := by
  rw [← List.append_assoc]
  congr 1
  rw [List.map_append, List.map_map]
  congr 1
  ·apply List.map_congr_left
   intro e _
   obtain ⟨si, fw, x, on⟩ := e
   simp only [finE, stE, fwd, hs, Function.comp]
   cases on with
   | false => simp
   | true =>
     simp only [if_true]
     cases presW o t x with
     | false => simp
     | true => cases isE o.op <;> simp <;> omega
  ·cases isLoad o.op with
   | false => rfl
   | true =>
     simp only [if_true, List.map_cons, List.map_nil, newE, finE]
     cases adrW o t <;> simp
 rw [← e1]
 cases drawL E.tbl (callV E) l t1 (oldW o t to) (if isE o.op && (g && goodW o t) then st + 1 else st) (g && (!isE o.op || goodW o t)) with
 | none => rfl
 | some y =>
   obtain ⟨t2, st2, L2⟩ := y
   simp only [Option.map_some, List.append_assoc]
   rfl
theorem exd_none {o : WOper} (hs : stepW E.tbl (callV E) o t = none) : exd E (o :: l) ps t to st g L ct A K = none := by
 unfold exd
 simp only [drawL, hs]
theorem exd_g {o : WOper} (hg : o.guard = none) : exd E (o :: l) ps t to st g L ct A K = thenD E (ex E [.c (.ops [o])] t) l ps (oldW o t to) (if isE o.op && (g && goodW o t) then st + 1 else st) (g && (!isE o.op || goodW o t)) (L ++ (loadsW o t to).map (· && g)) (if isE o.op then ct + 1 else ct) (A.map (stE o t) ++ if isLoad o.op then [newE o t ct] else []) K := by
 rw [ex_one hg]
 have hst := stepW_g (E := E) (t := t) hg
 cases hev : evalW E.tbl (callV E) o t with
 | none => rw [hev] at hst; rw [exd_none hst]; rfl
 | some x =>
   rw [hev] at hst
   rw [exd_s hst]
   rfl
theorem oldW_E {op : AOp} (he : (isE op || isR op) = true) : oldW ⟨d, r, op, none, ann, io⟩ t to = putT to d .undef := by
 unfold oldW
 simp only [wantedW, he, if_true]
theorem oldW_P {op : AOp} (he : (isE op || isR op) = false) (hc : ∀ f a, op ≠ .call f a) : oldW ⟨d, r, op, none, ann, io⟩ t to = oldX (ex E [.c (.ops [⟨d, r, op, none, ann, io⟩])] to) to d := by
 rw [ex_one rfl]
 have : evalW E.tbl (callV E) ⟨d, r, op, none, ann, io⟩ to = if isBld op then bldW to op else opW r ann op to := by
  unfold evalW
  split
  ·rename_i f a h; exact absurd h (hc f a)
  ·rfl
 rw [this]
 unfold oldW
 simp only [wantedW, he]
 cases (if isBld op then bldW to op else opW r ann op to) with
 | none => rfl
 | some x => rfl
theorem loadsW_P {op : AOp} (hl : isLoad op = false) : loadsW ⟨d, r, op, none, ann, io⟩ t to = [] := by
 unfold loadsW
 cases op <;> first | rfl | (cases hl)
@[simp] theorem exd_call {f : String} {args : List Operand} : exd E (⟨d, r, .call f args, none, ann, io⟩ :: l) ps t to st g L ct A K =
 thenD E (ex E [.c (.ops [⟨d, r, .call f args, none, ann, io⟩])] t) l ps (putT to d .undef) (if (g && goodC f (argsW io t 0 0 args)) = true then st + 1 else st) (g && goodC f (argsW io t 0 0 args)) L (ct + 1) (efA d (goodC f (argsW io t 0 0 args)) (fun _ => false) A) K := by
  have hgw : goodW ⟨d, r, .call f args, none, ann, io⟩ t = goodC f (argsW io t 0 0 args) := by
   unfold goodW goodC
   simp only [wantedW]
   split
   ·rfl
   ·cases argsW io t 0 0 args <;> rfl
  rw [exd_g rfl, oldW_E rfl, loadsW_P rfl, stE_ef (good := goodC f (argsW io t 0 0 args)) (so := fun _ => false) rfl (fun x => by rw [hgw]; rfl)]
  simp only [hgw, isE, isLoad, Bool.true_and, Bool.not_true, Bool.false_or, List.map_nil, List.append_nil, if_true, Bool.false_eq_true, if_false]
@[simp] theorem exd_move {x : Operand} : exd E (⟨d, r, (.move x), none, ann, io⟩ :: l) ps t to st g L ct A K = thenD E (ex E [.c (.ops [⟨d, r, (.move x), none, ann, io⟩])] t) l ps (oldX (ex E [.c (.ops [⟨d, r, (.move x), none, ann, io⟩])] to) to d) st g L ct (mvA d A) K := by
  rw [exd_g rfl, oldW_P (E := E) rfl (by simp), loadsW_P rfl, stE_mv rfl]
  simp only [isE, isLoad, Bool.false_and, Bool.false_eq_true, if_false, Bool.not_false, Bool.true_or, Bool.and_true, List.map_nil, List.append_nil]
@[simp] theorem exd_pick {c a b : Operand} : exd E (⟨d, r, (.pick c a b), none, ann, io⟩ :: l) ps t to st g L ct A K = thenD E (ex E [.c (.ops [⟨d, r, (.pick c a b), none, ann, io⟩])] t) l ps (oldX (ex E [.c (.ops [⟨d, r, (.pick c a b), none, ann, io⟩])] to) to d) st g L ct (mvA d A) K := by
  rw [exd_g rfl, oldW_P (E := E) rfl (by simp), loadsW_P rfl, stE_mv rfl]
  simp only [isE, isLoad, Bool.false_and, Bool.false_eq_true, if_false, Bool.not_false, Bool.true_or, Bool.and_true, List.map_nil, List.append_nil]
@[simp] theorem exd_box {x : Operand} : exd E (⟨d, r, (.box x), none, ann, io⟩ :: l) ps t to st g L ct A K = thenD E (ex E [.c (.ops [⟨d, r, (.box x), none, ann, io⟩])] t) l ps (putT to d .undef) (if g = true then st + 1 else st) g L (ct + 1) (efA d true (fun _ => false) A) K := by
  rw [exd_g rfl, oldW_E rfl, loadsW_P rfl, stE_ef (good := true) (so := (fun _ => false)) rfl (fun x => by simp [goodW, wantedW, stOther])]
  simp [goodW, wantedW, isE, isLoad]
@[simp] theorem exd_alloc {z : List Value} : exd E (⟨d, r, (.alloc z), none, ann, io⟩ :: l) ps t to st g L ct A K = thenD E (ex E [.c (.ops [⟨d, r, (.alloc z), none, ann, io⟩])] t) l ps (putT to d .undef) (if g = true then st + 1 else st) g L (ct + 1) (efA d true (fun _ => false) A) K := by
  rw [exd_g rfl, oldW_E rfl, loadsW_P rfl, stE_ef (good := true) (so := (fun _ => false)) rfl (fun x => by simp [goodW, wantedW, stOther])]
  simp [goodW, wantedW, isE, isLoad]
@[simp] theorem exd_build {z : List Value} {ps0 : List (Nat × Nat × Operand)} : exd E (⟨d, r, (.build z ps0), none, ann, io⟩ :: l) ps t to st g L ct A K = thenD E (ex E [.c (.ops [⟨d, r, (.build z ps0), none, ann, io⟩])] t) l ps (oldX (ex E [.c (.ops [⟨d, r, (.build z ps0), none, ann, io⟩])] to) to d) st g L ct (mvA d A) K := by
  rw [exd_g rfl, oldW_P (E := E) rfl (by simp), loadsW_P rfl, stE_mv rfl]
  simp only [isE, isLoad, Bool.false_and, Bool.false_eq_true, if_false, Bool.not_false, Bool.true_or, Bool.and_true, List.map_nil, List.append_nil]
@[simp] theorem exd_buildSlice {s n : Nat} {z : List Value} {ps0 : List (Nat × Nat × Operand)} : exd E (⟨d, r, (.buildSlice s n z ps0), none, ann, io⟩ :: l) ps t to st g L ct A K = thenD E (ex E [.c (.ops [⟨d, r, (.buildSlice s n z ps0), none, ann, io⟩])] t) l ps (putT to d .undef) (if g = true then st + 1 else st) g L (ct + 1) (efA d true (fun _ => false) A) K := by
  rw [exd_g rfl, oldW_E rfl, loadsW_P rfl, stE_ef (good := true) (so := (fun _ => false)) rfl (fun x => by simp [goodW, wantedW, stOther])]
  simp [goodW, wantedW, isE, isLoad]
@[simp] theorem exd_loadt {n : Option Nat} {x : Nat} : exd E (⟨d, r, (.load n (.tmp x)), none, ann, io⟩ :: l) ps t to st g L ct A K = thenD E (ex E [.c (.ops [⟨d, r, (.load n (.tmp x)), none, ann, io⟩])] t) l ps (oldX (ex E [.c (.ops [⟨d, r, (.load n (.tmp x)), none, ann, io⟩])] to) to d) st g (L ++ [okX (ex E [.c (.ops [⟨d, r, (.load n (.tmp x)), none, ann, io⟩])] to) && g]) ct (mvA d A ++ [(if d = some x then ⟨1, 0, none, false⟩ else ⟨ct, ct, some x, true⟩)]) K := by
  rw [exd_g rfl, oldW_P (E := E) rfl (by simp), stE_mv rfl]
  have : loadsW ⟨d, r, (.load n (.tmp x)), none, ann, io⟩ t to = [okX (ex E [.c (.ops [⟨d, r, (.load n (.tmp x)), none, ann, io⟩])] to)] := by
   rw [ex_one rfl]
   unfold loadsW okX
   simp only [wantedW, evalW, isBld, Bool.false_eq_true, if_false, Option.isSome_map]
  rw [this]
  have hn : newE ⟨d, r, (.load n (.tmp x)), none, ann, io⟩ t ct = (if d = some x then ⟨1, 0, none, false⟩ else ⟨ct, ct, some x, true⟩) := by
   unfold newE adrW
   simp only [wantedW]
   by_cases h : d = some x <;> simp [h]
  rw [hn]
  simp only [isE, isLoad, Bool.false_and, Bool.false_eq_true, if_false, Bool.not_false, Bool.true_or, Bool.and_true, List.map_cons, List.map_nil, if_true]
@[simp] theorem exd_loadc {n : Option Nat} {v : Value} : exd E (⟨d, r, (.load n (.const v)), none, ann, io⟩ :: l) ps t to st g L ct A K = thenD E (ex E [.c (.ops [⟨d, r, (.load n (.const v)), none, ann, io⟩])] t) l ps (oldX (ex E [.c (.ops [⟨d, r, (.load n (.const v)), none, ann, io⟩])] to) to d) st g (L ++ [okX (ex E [.c (.ops [⟨d, r, (.load n (.const v)), none, ann, io⟩])] to) && g]) ct (mvA d A ++ [⟨1, 0, none, false⟩]) K := by
  rw [exd_g rfl, oldW_P (E := E) rfl (by simp), stE_mv rfl]
  have : loadsW ⟨d, r, (.load n (.const v)), none, ann, io⟩ t to = [okX (ex E [.c (.ops [⟨d, r, (.load n (.const v)), none, ann, io⟩])] to)] := by
   rw [ex_one rfl]
   unfold loadsW okX
   simp only [wantedW, evalW, isBld, Bool.false_eq_true, if_false, Option.isSome_map]
  rw [this]
  have hn : newE ⟨d, r, (.load n (.const v)), none, ann, io⟩ t ct = ⟨1, 0, none, false⟩ := by
   unfold newE adrW
   simp only [wantedW]
   skip
  rw [hn]
  simp only [isE, isLoad, Bool.false_and, Bool.false_eq_true, if_false, Bool.not_false, Bool.true_or, Bool.and_true, List.map_cons, List.map_nil, if_true]
@[simp] theorem exd_store {n : Option Nat} {a y : Operand} : exd E (⟨d, r, (.store n a y), none, ann, io⟩ :: l) ps t to st g L ct A K = thenD E (ex E [.c (.ops [⟨d, r, (.store n a y), none, ann, io⟩])] t) l ps (putT to d .undef) st false L (ct + 1) (efA d false (stOf (plc t a) t) A) K := by
  rw [exd_g rfl, oldW_E rfl, loadsW_P rfl, stE_ef (good := false) (so := (stOf (plc t a) t)) rfl (fun x => by simp [goodW, wantedW, stOther])]
  simp [goodW, wantedW, isE, isLoad]
@[simp] theorem exd_nilCheck {x : Operand} : exd E (⟨d, r, (.nilCheck x), none, ann, io⟩ :: l) ps t to st g L ct A K = thenD E (ex E [.c (.ops [⟨d, r, (.nilCheck x), none, ann, io⟩])] t) l ps (oldX (ex E [.c (.ops [⟨d, r, (.nilCheck x), none, ann, io⟩])] to) to d) st g L ct (mvA d A) K := by
  rw [exd_g rfl, oldW_P (E := E) rfl (by simp), loadsW_P rfl, stE_mv rfl]
  simp only [isE, isLoad, Bool.false_and, Bool.false_eq_true, if_false, Bool.not_false, Bool.true_or, Bool.and_true, List.map_nil, List.append_nil]
@[simp] theorem exd_bin {op0 : BinOp} {x y : Operand} : exd E (⟨d, r, (.bin op0 x y), none, ann, io⟩ :: l) ps t to st g L ct A K = thenD E (ex E [.c (.ops [⟨d, r, (.bin op0 x y), none, ann, io⟩])] t) l ps (oldX (ex E [.c (.ops [⟨d, r, (.bin op0 x y), none, ann, io⟩])] to) to d) st g L ct (mvA d A) K := by
  rw [exd_g rfl, oldW_P (E := E) rfl (by simp), loadsW_P rfl, stE_mv rfl]
  simp only [isE, isLoad, Bool.false_and, Bool.false_eq_true, if_false, Bool.not_false, Bool.true_or, Bool.and_true, List.map_nil, List.append_nil]
@[simp] theorem exd_binB {op0 : BinOp} {x y : Operand} : exd E (⟨d, r, (.binB op0 x y), none, ann, io⟩ :: l) ps t to st g L ct A K = thenD E (ex E [.c (.ops [⟨d, r, (.binB op0 x y), none, ann, io⟩])] t) l ps (oldX (ex E [.c (.ops [⟨d, r, (.binB op0 x y), none, ann, io⟩])] to) to d) st g L ct (mvA d A) K := by
  rw [exd_g rfl, oldW_P (E := E) rfl (by simp), loadsW_P rfl, stE_mv rfl]
  simp only [isE, isLoad, Bool.false_and, Bool.false_eq_true, if_false, Bool.not_false, Bool.true_or, Bool.and_true, List.map_nil, List.append_nil]
@[simp] theorem exd_eqv {neg : Bool} {ks : List CK} {x y : Operand} : exd E (⟨d, r, (.eqv neg ks x y), none, ann, io⟩ :: l) ps t to st g L ct A K = thenD E (ex E [.c (.ops [⟨d, r, (.eqv neg ks x y), none, ann, io⟩])] t) l ps (oldX (ex E [.c (.ops [⟨d, r, (.eqv neg ks x y), none, ann, io⟩])] to) to d) st g L ct (mvA d A) K := by
  rw [exd_g rfl, oldW_P (E := E) rfl (by simp), loadsW_P rfl, stE_mv rfl]
  simp only [isE, isLoad, Bool.false_and, Bool.false_eq_true, if_false, Bool.not_false, Bool.true_or, Bool.and_true, List.map_nil, List.append_nil]
@[simp] theorem exd_nilv {neg : Bool} {x : Operand} : exd E (⟨d, r, (.nilv neg x), none, ann, io⟩ :: l) ps t to st g L ct A K = thenD E (ex E [.c (.ops [⟨d, r, (.nilv neg x), none, ann, io⟩])] t) l ps (oldX (ex E [.c (.ops [⟨d, r, (.nilv neg x), none, ann, io⟩])] to) to d) st g L ct (mvA d A) K := by
  rw [exd_g rfl, oldW_P (E := E) rfl (by simp), loadsW_P rfl, stE_mv rfl]
  simp only [isE, isLoad, Bool.false_and, Bool.false_eq_true, if_false, Bool.not_false, Bool.true_or, Bool.and_true, List.map_nil, List.append_nil]
@[simp] theorem exd_un {op0 : UnOp} {x : Operand} : exd E (⟨d, r, (.un op0 x), none, ann, io⟩ :: l) ps t to st g L ct A K = thenD E (ex E [.c (.ops [⟨d, r, (.un op0 x), none, ann, io⟩])] t) l ps (oldX (ex E [.c (.ops [⟨d, r, (.un op0 x), none, ann, io⟩])] to) to d) st g L ct (mvA d A) K := by
  rw [exd_g rfl, oldW_P (E := E) rfl (by simp), loadsW_P rfl, stE_mv rfl]
  simp only [isE, isLoad, Bool.false_and, Bool.false_eq_true, if_false, Bool.not_false, Bool.true_or, Bool.and_true, List.map_nil, List.append_nil]
@[simp] theorem exd_convInt {k : IntKind} {x : Operand} : exd E (⟨d, r, (.convInt k x), none, ann, io⟩ :: l) ps t to st g L ct A K = thenD E (ex E [.c (.ops [⟨d, r, (.convInt k x), none, ann, io⟩])] t) l ps (oldX (ex E [.c (.ops [⟨d, r, (.convInt k x), none, ann, io⟩])] to) to d) st g L ct (mvA d A) K := by
  rw [exd_g rfl, oldW_P (E := E) rfl (by simp), loadsW_P rfl, stE_mv rfl]
  simp only [isE, isLoad, Bool.false_and, Bool.false_eq_true, if_false, Bool.not_false, Bool.true_or, Bool.and_true, List.map_nil, List.append_nil]
@[simp] theorem exd_convStr {x : Operand} : exd E (⟨d, r, (.convStr x), none, ann, io⟩ :: l) ps t to st g L ct A K = thenD E (ex E [.c (.ops [⟨d, r, (.convStr x), none, ann, io⟩])] t) l ps (oldX (ex E [.c (.ops [⟨d, r, (.convStr x), none, ann, io⟩])] to) to d) st g L ct (mvA d A) K := by
  rw [exd_g rfl, oldW_P (E := E) rfl (by simp), loadsW_P rfl, stE_mv rfl]
  simp only [isE, isLoad, Bool.false_and, Bool.false_eq_true, if_false, Bool.not_false, Bool.true_or, Bool.and_true, List.map_nil, List.append_nil]
@[simp] theorem exd_strBytes {x : Operand} : exd E (⟨d, r, (.strBytes x), none, ann, io⟩ :: l) ps t to st g L ct A K = thenD E (ex E [.c (.ops [⟨d, r, (.strBytes x), none, ann, io⟩])] t) l ps (putT to d .undef) (if g = true then st + 1 else st) g L (ct + 1) (efA d true (fun _ => false) A) K := by
  rw [exd_g rfl, oldW_E rfl, loadsW_P rfl, stE_ef (good := true) (so := (fun _ => false)) rfl (fun x => by simp [goodW, wantedW, stOther])]
  simp [goodW, wantedW, isE, isLoad]
@[simp] theorem exd_bytesStr {x : Operand} : exd E (⟨d, r, (.bytesStr x), none, ann, io⟩ :: l) ps t to st g L ct A K = thenD E (ex E [.c (.ops [⟨d, r, (.bytesStr x), none, ann, io⟩])] t) l ps (putT to d .undef) st g L ct (mvA d A) K := by
  rw [exd_g rfl, oldW_E rfl, loadsW_P rfl, stE_mv rfl]
  simp only [isE, isLoad, Bool.false_and, Bool.false_eq_true, if_false, Bool.not_false, Bool.true_or, Bool.and_true, List.map_nil, List.append_nil]
@[simp] theorem exd_func {fn : Fn} {f c : List Operand} : exd E (⟨d, r, (.func fn f c), none, ann, io⟩ :: l) ps t to st g L ct A K = thenD E (ex E [.c (.ops [⟨d, r, (.func fn f c), none, ann, io⟩])] t) l ps (oldX (ex E [.c (.ops [⟨d, r, (.func fn f c), none, ann, io⟩])] to) to d) st g L ct (mvA d A) K := by
  rw [exd_g rfl, oldW_P (E := E) rfl (by simp), loadsW_P rfl, stE_mv rfl]
  simp only [isE, isLoad, Bool.false_and, Bool.false_eq_true, if_false, Bool.not_false, Bool.true_or, Bool.and_true, List.map_nil, List.append_nil]
@[simp] theorem exd_makeSlice {s b : Nat} {z : List Value} {x y : Operand} : exd E (⟨d, r, (.makeSlice s b z x y), none, ann, io⟩ :: l) ps t to st g L ct A K = thenD E (ex E [.c (.ops [⟨d, r, (.makeSlice s b z x y), none, ann, io⟩])] t) l ps (putT to d .undef) (if g = true then st + 1 else st) g L (ct + 1) (efA d true (fun _ => false) A) K := by
  rw [exd_g rfl, oldW_E rfl, loadsW_P rfl, stE_ef (good := true) (so := (fun _ => false)) rfl (fun x => by simp [goodW, wantedW, stOther])]
  simp [goodW, wantedW, isE, isLoad]
@[simp] theorem exd_sliceSl {s : Nat} {x : Operand} {lo hi : Option Operand} : exd E (⟨d, r, (.sliceSl s x lo hi), none, ann, io⟩ :: l) ps t to st g L ct A K = thenD E (ex E [.c (.ops [⟨d, r, (.sliceSl s x lo hi), none, ann, io⟩])] t) l ps (oldX (ex E [.c (.ops [⟨d, r, (.sliceSl s x lo hi), none, ann, io⟩])] to) to d) st g L ct (mvA d A) K := by
  rw [exd_g rfl, oldW_P (E := E) rfl (by simp), loadsW_P rfl, stE_mv rfl]
  simp only [isE, isLoad, Bool.false_and, Bool.false_eq_true, if_false, Bool.not_false, Bool.true_or, Bool.and_true, List.map_nil, List.append_nil]
@[simp] theorem exd_sliceStr {x : Operand} {lo hi : Option Operand} : exd E (⟨d, r, (.sliceStr x lo hi), none, ann, io⟩ :: l) ps t to st g L ct A K = thenD E (ex E [.c (.ops [⟨d, r, (.sliceStr x lo hi), none, ann, io⟩])] t) l ps (oldX (ex E [.c (.ops [⟨d, r, (.sliceStr x lo hi), none, ann, io⟩])] to) to d) st g L ct (mvA d A) K := by
  rw [exd_g rfl, oldW_P (E := E) rfl (by simp), loadsW_P rfl, stE_mv rfl]
  simp only [isE, isLoad, Bool.false_and, Bool.false_eq_true, if_false, Bool.not_false, Bool.true_or, Bool.and_true, List.map_nil, List.append_nil]
@[simp] theorem exd_sliceArr {n s : Nat} {x : Operand} {lo hi : Option Operand} : exd E (⟨d, r, (.sliceArr n s x lo hi), none, ann, io⟩ :: l) ps t to st g L ct A K = thenD E (ex E [.c (.ops [⟨d, r, (.sliceArr n s x lo hi), none, ann, io⟩])] t) l ps (putT to d .undef) st g L ct (mvA d A) K := by
  rw [exd_g rfl, oldW_E rfl, loadsW_P rfl, stE_mv rfl]
  simp only [isE, isLoad, Bool.false_and, Bool.false_eq_true, if_false, Bool.not_false, Bool.true_or, Bool.and_true, List.map_nil, List.append_nil]
@[simp] theorem exd_fieldAddr {off : Nat} {x : Operand} : exd E (⟨d, r, (.fieldAddr off x), none, ann, io⟩ :: l) ps t to st g L ct A K = thenD E (ex E [.c (.ops [⟨d, r, (.fieldAddr off x), none, ann, io⟩])] t) l ps (oldX (ex E [.c (.ops [⟨d, r, (.fieldAddr off x), none, ann, io⟩])] to) to d) st g L ct (mvA d A) K := by
  rw [exd_g rfl, oldW_P (E := E) rfl (by simp), loadsW_P rfl, stE_mv rfl]
  simp only [isE, isLoad, Bool.false_and, Bool.false_eq_true, if_false, Bool.not_false, Bool.true_or, Bool.and_true, List.map_nil, List.append_nil]
@[simp] theorem exd_field {n : Option Nat} {off : Nat} {x : Operand} : exd E (⟨d, r, (.field n off x), none, ann, io⟩ :: l) ps t to st g L ct A K = thenD E (ex E [.c (.ops [⟨d, r, (.field n off x), none, ann, io⟩])] t) l ps (oldX (ex E [.c (.ops [⟨d, r, (.field n off x), none, ann, io⟩])] to) to d) st g L ct (mvA d A) K := by
  rw [exd_g rfl, oldW_P (E := E) rfl (by simp), loadsW_P rfl, stE_mv rfl]
  simp only [isE, isLoad, Bool.false_and, Bool.false_eq_true, if_false, Bool.not_false, Bool.true_or, Bool.and_true, List.map_nil, List.append_nil]
@[simp] theorem exd_idxAddrArr {n s : Nat} {x i : Operand} : exd E (⟨d, r, (.idxAddrArr n s x i), none, ann, io⟩ :: l) ps t to st g L ct A K = thenD E (ex E [.c (.ops [⟨d, r, (.idxAddrArr n s x i), none, ann, io⟩])] t) l ps (oldX (ex E [.c (.ops [⟨d, r, (.idxAddrArr n s x i), none, ann, io⟩])] to) to d) st g L ct (mvA d A) K := by
  rw [exd_g rfl, oldW_P (E := E) rfl (by simp), loadsW_P rfl, stE_mv rfl]
  simp only [isE, isLoad, Bool.false_and, Bool.false_eq_true, if_false, Bool.not_false, Bool.true_or, Bool.and_true, List.map_nil, List.append_nil]
@[simp] theorem exd_idxAddrSl {s : Nat} {x i : Operand} : exd E (⟨d, r, (.idxAddrSl s x i), none, ann, io⟩ :: l) ps t to st g L ct A K = thenD E (ex E [.c (.ops [⟨d, r, (.idxAddrSl s x i), none, ann, io⟩])] t) l ps (oldX (ex E [.c (.ops [⟨d, r, (.idxAddrSl s x i), none, ann, io⟩])] to) to d) st g L ct (mvA d A) K := by
  rw [exd_g rfl, oldW_P (E := E) rfl (by simp), loadsW_P rfl, stE_mv rfl]
  simp only [isE, isLoad, Bool.false_and, Bool.false_eq_true, if_false, Bool.not_false, Bool.true_or, Bool.and_true, List.map_nil, List.append_nil]
@[simp] theorem exd_slArr {n s : Nat} {x : Operand} : exd E (⟨d, r, (.slArr n s x), none, ann, io⟩ :: l) ps t to st g L ct A K = thenD E (ex E [.c (.ops [⟨d, r, (.slArr n s x), none, ann, io⟩])] t) l ps (oldX (ex E [.c (.ops [⟨d, r, (.slArr n s x), none, ann, io⟩])] to) to d) st g L ct (mvA d A) K := by
  rw [exd_g rfl, oldW_P (E := E) rfl (by simp), loadsW_P rfl, stE_mv rfl]
  simp only [isE, isLoad, Bool.false_and, Bool.false_eq_true, if_false, Bool.not_false, Bool.true_or, Bool.and_true, List.map_nil, List.append_nil]
@[simp] theorem exd_idxArr {n s : Nat} {m : Option Nat} {x i : Operand} : exd E (⟨d, r, (.idxArr n s m x i), none, ann, io⟩ :: l) ps t to st g L ct A K = thenD E (ex E [.c (.ops [⟨d, r, (.idxArr n s m x i), none, ann, io⟩])] t) l ps (oldX (ex E [.c (.ops [⟨d, r, (.idxArr n s m x i), none, ann, io⟩])] to) to d) st g L ct (mvA d A) K := by
  rw [exd_g rfl, oldW_P (E := E) rfl (by simp), loadsW_P rfl, stE_mv rfl]
  simp only [isE, isLoad, Bool.false_and, Bool.false_eq_true, if_false, Bool.not_false, Bool.true_or, Bool.and_true, List.map_nil, List.append_nil]
@[simp] theorem exd_idxStr {x i : Operand} : exd E (⟨d, r, (.idxStr x i), none, ann, io⟩ :: l) ps t to st g L ct A K = thenD E (ex E [.c (.ops [⟨d, r, (.idxStr x i), none, ann, io⟩])] t) l ps (oldX (ex E [.c (.ops [⟨d, r, (.idxStr x i), none, ann, io⟩])] to) to d) st g L ct (mvA d A) K := by
  rw [exd_g rfl, oldW_P (E := E) rfl (by simp), loadsW_P rfl, stE_mv rfl]
  simp only [isE, isLoad, Bool.false_and, Bool.false_eq_true, if_false, Bool.not_false, Bool.true_or, Bool.and_true, List.map_nil, List.append_nil]
@[simp] theorem exd_len {x : Operand} : exd E (⟨d, r, (.len x), none, ann, io⟩ :: l) ps t to st g L ct A K = thenD E (ex E [.c (.ops [⟨d, r, (.len x), none, ann, io⟩])] t) l ps (oldX (ex E [.c (.ops [⟨d, r, (.len x), none, ann, io⟩])] to) to d) st g L ct (mvA d A) K := by
  rw [exd_g rfl, oldW_P (E := E) rfl (by simp), loadsW_P rfl, stE_mv rfl]
  simp only [isE, isLoad, Bool.false_and, Bool.false_eq_true, if_false, Bool.not_false, Bool.true_or, Bool.and_true, List.map_nil, List.append_nil]
@[simp] theorem exd_lenStr {x : Operand} : exd E (⟨d, r, (.lenStr x), none, ann, io⟩ :: l) ps t to st g L ct A K = thenD E (ex E [.c (.ops [⟨d, r, (.lenStr x), none, ann, io⟩])] t) l ps (oldX (ex E [.c (.ops [⟨d, r, (.lenStr x), none, ann, io⟩])] to) to d) st g L ct (mvA d A) K := by
  rw [exd_g rfl, oldW_P (E := E) rfl (by simp), loadsW_P rfl, stE_mv rfl]
  simp only [isE, isLoad, Bool.false_and, Bool.false_eq_true, if_false, Bool.not_false, Bool.true_or, Bool.and_true, List.map_nil, List.append_nil]
@[simp] theorem exd_const {v : Value} : exd E (⟨d, r, (.const v), none, ann, io⟩ :: l) ps t to st g L ct A K = thenD E (ex E [.c (.ops [⟨d, r, (.const v), none, ann, io⟩])] t) l ps (oldX (ex E [.c (.ops [⟨d, r, (.const v), none, ann, io⟩])] to) to d) st g L ct (mvA d A) K := by
  rw [exd_g rfl, oldW_P (E := E) rfl (by simp), loadsW_P rfl, stE_mv rfl]
  simp only [isE, isLoad, Bool.false_and, Bool.false_eq_true, if_false, Bool.not_false, Bool.true_or, Bool.and_true, List.map_nil, List.append_nil]
@[simp] theorem exd_append {s b : Nat} {x y : Operand} : exd E (⟨d, r, (.append s b x y), none, ann, io⟩ :: l) ps t to st g L ct A K = thenD E (ex E [.c (.ops [⟨d, r, (.append s b x y), none, ann, io⟩])] t) l ps (putT to d .undef) st false L (ct + 1) (efA d false (fun _ => false) A) K := by
  rw [exd_g rfl, oldW_E rfl, loadsW_P rfl, stE_ef (good := false) (so := (fun _ => false)) rfl (fun x => by simp [goodW, wantedW, stOther])]
  simp [goodW, wantedW, isE, isLoad]
@[simp] theorem exd_copy {s : Nat} {x y : Operand} : exd E (⟨d, r, (.copy s x y), none, ann, io⟩ :: l) ps t to st g L ct A K = thenD E (ex E [.c (.ops [⟨d, r, (.copy s x y), none, ann, io⟩])] t) l ps (putT to d .undef) st false L (ct + 1) (efA d false (fun _ => false) A) K := by
  rw [exd_g rfl, oldW_E rfl, loadsW_P rfl, stE_ef (good := false) (so := (fun _ => false)) rfl (fun x => by simp [goodW, wantedW, stOther])]
  simp [goodW, wantedW, isE, isLoad]
@[simp] theorem exd_max2 {x y : Operand} : exd E (⟨d, r, (.max2 x y), none, ann, io⟩ :: l) ps t to st g L ct A K = thenD E (ex E [.c (.ops [⟨d, r, (.max2 x y), none, ann, io⟩])] t) l ps (oldX (ex E [.c (.ops [⟨d, r, (.max2 x y), none, ann, io⟩])] to) to d) st g L ct (mvA d A) K := by
  rw [exd_g rfl, oldW_P (E := E) rfl (by simp), loadsW_P rfl, stE_mv rfl]
  simp only [isE, isLoad, Bool.false_and, Bool.false_eq_true, if_false, Bool.not_false, Bool.true_or, Bool.and_true, List.map_nil, List.append_nil]
@[simp] theorem exd_min2 {x y : Operand} : exd E (⟨d, r, (.min2 x y), none, ann, io⟩ :: l) ps t to st g L ct A K = thenD E (ex E [.c (.ops [⟨d, r, (.min2 x y), none, ann, io⟩])] t) l ps (oldX (ex E [.c (.ops [⟨d, r, (.min2 x y), none, ann, io⟩])] to) to d) st g L ct (mvA d A) K := by
  rw [exd_g rfl, oldW_P (E := E) rfl (by simp), loadsW_P rfl, stE_mv rfl]
  simp only [isE, isLoad, Bool.false_and, Bool.false_eq_true, if_false, Bool.not_false, Bool.true_or, Bool.and_true, List.map_nil, List.append_nil]
@[simp] theorem exd_extract {x : Operand} {i : Nat} : exd E (⟨d, r, (.extract x i), none, ann, io⟩ :: l) ps t to st g L ct A K = thenD E (ex E [.c (.ops [⟨d, r, (.extract x i), none, ann, io⟩])] t) l ps (oldX (ex E [.c (.ops [⟨d, r, (.extract x i), none, ann, io⟩])] to) to d) st g L ct (mvA d A) K := by
  rw [exd_g rfl, oldW_P (E := E) rfl (by simp), loadsW_P rfl, stE_mv rfl]
  simp only [isE, isLoad, Bool.false_and, Bool.false_eq_true, if_false, Bool.not_false, Bool.true_or, Bool.and_true, List.map_nil, List.append_nil]
noncomputable def guardD (E : EnvW) (v : TV) (w : Bool) (o : WOper) (l : List WOper) (ps : List (Nat × Nat)) (t to : TT) (st : Nat) (g : Bool) (L : List Bool) (ct : Nat) (A : List Ent) (K : List Fm) : Option (AExit × TT) :=
 match v with
 | .val (.sc (.bool b)) => if b = w then exd E (o :: l) ps t to st g L ct A K else exd E l ps (putT t o.dst .skip) (putT to o.dst .skip) (if (isE o.op && g) = true then st + 1 else st) g (L ++ if isLoad o.op = true then [g] else []) (if isE o.op = true then ct + 1 else ct) ((if isE o.op = true then efA o.dst true (fun _ => false) A else mvA o.dst A) ++ if isLoad o.op = true then [⟨ct, ct, none, true⟩] else []) K
 | .skip => exd E l ps (putT t o.dst .skip) (putT to o.dst .skip) (if (isE o.op && g) = true then st + 1 else st) g (L ++ if isLoad o.op = true then [g] else []) (if isE o.op = true then ct + 1 else ct) ((if isE o.op = true then efA o.dst true (fun _ => false) A else mvA o.dst A) ++ if isLoad o.op = true then [⟨ct, ct, none, true⟩] else []) K
 | _ => none
attribute [simp] isLoad isE
section
variable {o : WOper}
@[simp] theorem guardD_tt : guardD E (tb true) true o l ps t to st g L ct A K = exd E (o :: l) ps t to st g L ct A K := rfl
@[simp] theorem guardD_ff : guardD E (tb false) false o l ps t to st g L ct A K = exd E (o :: l) ps t to st g L ct A K := rfl
@[simp] theorem guardD_tf : guardD E (tb true) false o l ps t to st g L ct A K = exd E l ps (putT t o.dst .skip) (putT to o.dst .skip) (if (isE o.op && g) = true then st + 1 else st) g (L ++ if isLoad o.op = true then [g] else []) (if isE o.op = true then ct + 1 else ct) ((if isE o.op = true then efA o.dst true (fun _ => false) A else mvA o.dst A) ++ if isLoad o.op = true then [⟨ct, ct, none, true⟩] else []) K := rfl
@[simp] theorem guardD_ft : guardD E (tb false) true o l ps t to st g L ct A K = exd E l ps (putT t o.dst .skip) (putT to o.dst .skip) (if (isE o.op && g) = true then st + 1 else st) g (L ++ if isLoad o.op = true then [g] else []) (if isE o.op = true then ct + 1 else ct) ((if isE o.op = true then efA o.dst true (fun _ => false) A else mvA o.dst A) ++ if isLoad o.op = true then [⟨ct, ct, none, true⟩] else []) K := rfl
@[simp] theorem guardD_skip {w : Bool} : guardD E .skip w o l ps t to st g L ct A K = exd E l ps (putT t o.dst .skip) (putT to o.dst .skip) (if (isE o.op && g) = true then st + 1 else st) g (L ++ if isLoad o.op = true then [g] else []) (if isE o.op = true then ct + 1 else ct) ((if isE o.op = true then efA o.dst true (fun _ => false) A else mvA o.dst A) ++ if isLoad o.op = true then [⟨ct, ct, none, true⟩] else []) K := rfl
@[simp low] theorem guardD_t {b : Bool} : guardD E (tb b) true o l ps t to st g L ct A K = iteV b (laterD E (o :: l) ps t to st g L ct A K) (laterD E l ps (putT t o.dst .skip) (putT to o.dst .skip) (if (isE o.op && g) = true then st + 1 else st) g (L ++ if isLoad o.op = true then [g] else []) (if isE o.op = true then ct + 1 else ct) ((if isE o.op = true then efA o.dst true (fun _ => false) A else mvA o.dst A) ++ if isLoad o.op = true then [⟨ct, ct, none, true⟩] else []) K) := by cases b <;> rfl
@[simp low] theorem guardD_f {b : Bool} : guardD E (tb b) false o l ps t to st g L ct A K = iteV b (laterD E l ps (putT t o.dst .skip) (putT to o.dst .skip) (if (isE o.op && g) = true then st + 1 else st) g (L ++ if isLoad o.op = true then [g] else []) (if isE o.op = true then ct + 1 else ct) ((if isE o.op = true then efA o.dst true (fun _ => false) A else mvA o.dst A) ++ if isLoad o.op = true then [⟨ct, ct, none, true⟩] else []) K) (laterD E (o :: l) ps t to st g L ct A K) := by cases b <;> rfl
end
theorem exd_skip {o : WOper} (hw : wantedW o.guard t = some false) : exd E (o :: l) ps t to st g L ct A K = exd E l ps (putT t o.dst .skip) (putT to o.dst .skip) (if (isE o.op && g) = true then st + 1 else st) g (L ++ if isLoad o.op = true then [g] else []) (if isE o.op = true then ct + 1 else ct) ((if isE o.op = true then efA o.dst true (fun _ => false) A else mvA o.dst A) ++ if isLoad o.op = true then [⟨ct, ct, none, true⟩] else []) K := by
 have h1 : stepW E.tbl (callV E) o t = some (putT t o.dst .skip) := by
  unfold stepW
  simp only [hw]
 have h2 : oldW o t to = putT to o.dst .skip := by
  unfold oldW
  simp only [hw]
 have h3 : goodW o t = true := by
  unfold goodW
  simp only [hw]
 have h4 : (loadsW o t to).map (· && g) = if isLoad o.op = true then [g] else [] := by
  unfold loadsW
  obtain ⟨d, r, op, gd, ann, io⟩ := o
  cases op <;> simp [hw, isLoad]
 have h5 : A.map (stE o t) = if isE o.op = true then efA o.dst true (fun _ => false) A else mvA o.dst A := by
  split
  ·rename_i he; exact stE_ef he (fun x => by simp [h3])
  ·rename_i he; exact stE_mv (by simpa using he)
 have h6 : (if isLoad o.op = true then [newE o t ct] else []) = if isLoad o.op = true then [⟨ct, ct, none, true⟩] else [] := by
  split
  ·rename_i hl
   have : newE o t ct = ⟨ct, ct, none, true⟩ := by
    unfold newE adrW
    obtain ⟨d, r, op, gd, ann, io⟩ := o
    cases op <;> first | (cases hl; done) | skip
    rename_i n x
    cases x <;> simp [hw]
   rw [this]
  ·rfl
 rw [exd_s h1, h2, h3, h4, h5, h6]
 simp only [Bool.and_true, Bool.or_true]
theorem exd_want {op : AOp} {k : Nat} {w : Bool} (hw : wantedW (some (k, w)) t = some true) : exd E (⟨d, r, op, some (k, w), ann, io⟩ :: l) ps t to st g L ct A K = exd E (⟨d, r, op, none, ann, io⟩ :: l) ps t to st g L ct A K := by
 have h1 : stepW E.tbl (callV E) ⟨d, r, op, some (k, w), ann, io⟩ t = stepW E.tbl (callV E) ⟨d, r, op, none, ann, io⟩ t := by
  unfold stepW
  simp only [hw]
  rfl
 have h2 : oldW ⟨d, r, op, some (k, w), ann, io⟩ t to = oldW ⟨d, r, op, none, ann, io⟩ t to := by
  unfold oldW
  simp only [hw]
  rfl
 have h3 : goodW ⟨d, r, op, some (k, w), ann, io⟩ t = goodW ⟨d, r, op, none, ann, io⟩ t := by
  unfold goodW
  simp only [hw]
  rfl
 have h4 : loadsW ⟨d, r, op, some (k, w), ann, io⟩ t to = loadsW ⟨d, r, op, none, ann, io⟩ t to := by
  unfold loadsW
  simp only [hw]
  rfl
 have h5 : ∀ e, stE ⟨d, r, op, some (k, w), ann, io⟩ t e = stE ⟨d, r, op, none, ann, io⟩ t e := by
  intro e
  unfold stE presW stOther
  cases e.x with
  | none => rfl
  | some x => simp only [h3]
 have h6 : newE ⟨d, r, op, some (k, w), ann, io⟩ t ct = newE ⟨d, r, op, none, ann, io⟩ t ct := by
  unfold newE adrW
  simp only [hw]
  rfl
 cases hs : stepW E.tbl (callV E) ⟨d, r, op, none, ann, io⟩ t with
 | none => rw [exd_none hs, exd_none (h1.trans hs)]
 | some t1 =>
   rw [exd_s hs, exd_s (h1.trans hs)]
   simp only [h2, h3, h4, h6, show stE ⟨d, r, op, some (k, w), ann, io⟩ t = stE ⟨d, r, op, none, ann, io⟩ t from funext h5]
theorem exd_stuck {op : AOp} {k : Nat} {w : Bool} (hw : wantedW (some (k, w)) t = none) : exd E (⟨d, r, op, some (k, w), ann, io⟩ :: l) ps t to st g L ct A K = none := by
 refine exd_none ?_
 unfold stepW
 simp only [hw]
@[simp] theorem exd_guard {op : AOp} {k : Nat} {w : Bool} : exd E (⟨d, r, op, some (k, w), ann, io⟩ :: l) ps t to st g L ct A K = guardD E (t k) w ⟨d, r, op, none, ann, io⟩ l ps t to st g L ct A K := by
  cases ht : t k with
  | val p => cases p with
    | sc v => cases v with
      | bool b =>
        by_cases hb : b = w
        ·subst hb
         rw [exd_want (by simp only [wantedW, ht, beq_self_eq_true])]
         simp only [guardD, if_true]
        ·have : (b == w) = false := by simpa using hb
         rw [exd_skip (by simp only [wantedW, ht, this])]
         simp only [guardD, if_neg hb]
      | _ => exact exd_stuck (by simp only [wantedW, ht])
    | _ => exact exd_stuck (by simp only [wantedW, ht])
  | skip => rw [exd_skip (by simp only [wantedW, ht])]; simp only [guardD]
  | _ => exact exd_stuck (by simp only [wantedW, ht])
end
end Go.Wb
namespace Go.Wb
open Go
section
variable (B : Nat)
mutual
def POk : Ty → List PV → Prop
 | .int k, cs => ∃ n, cs = [.sc (.int k n)] ∧ (Lit.int k n).wf = true
 | .bool, cs => ∃ b, cs = [.sc (.bool b)]
 | .str, cs => ∃ s : ByteArray, cs = [.sc (.string s)] ∧ s.size ≤ reach ∧ s.size ≤ B
 | .arr n e, cs => ∃ rows : List (List PV), rows.length = n ∧ cs = rows.flatten ∧ ∀ r ∈ rows, POk e r
 | .st fs, cs => POks fs cs
 | .sl s bytes e, cs => ∃ rows : List (List PV), cs = [.sl rows.length rows.flatten] ∧ rows.length * bytes ≤ reach ∧ rows.length ≤ B ∧ ∀ r ∈ rows, r.length = s ∧ POk e r
def POks : List Ty → List PV → Prop
 | [], cs => cs = []
 | t :: ts, cs => ∃ a b, cs = a ++ b ∧ POk t a ∧ POks ts b
end
end
abbrev N0 : Nat → Prop := fun _ => False
theorem frs_one {h : Heap} {N : Nat → Prop} {p : PV} {a : Value} (hf : FR h N p a) : FRs h N [p] [a] := ⟨rfl, fun i hi => by
 have : i = 0 := by simpa using hi
 subst this; exact hf⟩
theorem rows_pv {h : Heap} {B : Nat} {e : Ty} {rows : List (List Value)} (ih : ∀ r ∈ rows, ∃ ps, FRs h N0 ps r ∧ POk B e ps) : ∃ ps : List (List PV), ps.length = rows.length ∧ FRs h N0 ps.flatten rows.flatten ∧ ps.map List.length = rows.map List.length ∧ ∀ p ∈ ps, POk B e p := by
 induction rows with
 | nil => exact ⟨[], rfl, ⟨rfl, by simp⟩, rfl, by simp⟩
 | cons r rows ih2 =>
   obtain ⟨p, h1, h2⟩ := ih r (by simp)
   obtain ⟨ps, q1, q2, q3, q4⟩ := ih2 (fun r hr => ih r (by simp [hr]))
   refine ⟨p :: ps, by simp [q1], ?_, by simp [q3, h1.1], fun x hx => ?_⟩
   ·simp only [List.flatten_cons]; exact frs_append h1 q2
   ·cases hx with
    | head => exact h2
    | tail _ hx => exact q4 x hx
mutual
theorem aok_pv {B : Nat} {h : Heap} : ∀ (ty : Ty) (cs : List Value), AOk B ty h cs → ∃ ps, FRs h N0 ps cs ∧ POk B ty ps
 | .int k, cs, hh => by
   simp only [AOk] at hh
   obtain ⟨n, rfl, hw⟩ := hh
   exact ⟨_, frs_one (.sc _ rfl), by simp only [POk]; exact ⟨n, rfl, hw⟩⟩
 | .bool, cs, hh => by
   simp only [AOk] at hh
   obtain ⟨b, rfl⟩ := hh
   exact ⟨_, frs_one (.sc _ rfl), by simp only [POk]; exact ⟨b, rfl⟩⟩
 | .str, cs, hh => by
   simp only [AOk] at hh
   obtain ⟨s, rfl, h1, h2⟩ := hh
   exact ⟨_, frs_one (.sc _ rfl), by simp only [POk]; exact ⟨s, rfl, h1, h2⟩⟩
 | .arr n e, cs, hh => by
   simp only [AOk] at hh
   obtain ⟨rows, h1, rfl, h3⟩ := hh
   obtain ⟨ps, q1, q2, _, q4⟩ := rows_pv (fun r hr => aok_pv e r (h3 r hr))
   exact ⟨_, q2, by simp only [POk]; exact ⟨ps, by omega, rfl, q4⟩⟩
 | .st fs, cs, hh => by
   simp only [AOk] at hh
   obtain ⟨ps, q1, q2⟩ := aoks_pv fs cs hh
   exact ⟨ps, q1, by simp only [POk]; exact q2⟩
 | .sl s bytes e, cs, hh => by
   simp only [AOk] at hh
   rcases hh with rfl | ⟨b, rows, rfl, h1, h2, h3, h4, h5⟩
   ·exact ⟨[.sl 0 []], frs_one .slNil, by simp only [POk]; exact ⟨[], rfl, by simp, by simp, by simp⟩⟩
   ·obtain ⟨ps, q1, q2, q3, q4⟩ := rows_pv (fun r hr => aok_pv e r (h5 r hr).2)
    have hlen : ∀ p ∈ ps, p.length = s := by
     intro p hp
     have : p.length ∈ ps.map List.length := List.mem_map.2 ⟨p, hp, rfl⟩
     rw [q3] at this
     obtain ⟨r, hr, he⟩ := List.mem_map.1 this
     rw [← he, (h5 r hr).1]
    have hfl : ∀ (l : List (List PV)), (∀ p ∈ l, p.length = s) → l.flatten.length = l.length * s := by
     intro l
     induction l with
     | nil => simp
     | cons a l ih => intro hl; rw [List.flatten_cons, List.length_append, ih (fun p hp => hl p (by simp [hp])), hl a (by simp), List.length_cons, Nat.succ_mul]; omega
    refine ⟨[.sl ps.length ps.flatten], frs_one ?_, ?_⟩
    ·rw [← q1]
     exact FR.sl _ s _ b 0 true rows.flatten (fun hf => hf) h2 (hfl ps hlen).symm (by rw [q2.1]; omega) fun i hi => by rw [Nat.zero_add]; exact q2.2 i hi
    ·simp only [POk]
     exact ⟨ps, rfl, by rw [q1]; exact h3, by rw [q1]; exact h4, fun p hp => ⟨hlen p hp, q4 p hp⟩⟩
theorem aoks_pv {B : Nat} {h : Heap} : ∀ (tys : List Ty) (cs : List Value), AOks B tys h cs → ∃ ps, FRs h N0 ps cs ∧ POks B tys ps
 | [], cs, hh => by
   simp only [AOks] at hh
   subst hh
   exact ⟨[], ⟨rfl, by simp⟩, by simp only [POks]⟩
 | t :: ts, cs, hh => by
   simp only [AOks] at hh
   obtain ⟨a, b, rfl, h1, h2⟩ := hh
   obtain ⟨p, q1, q2⟩ := aok_pv t a h1
   obtain ⟨ps, q3, q4⟩ := aoks_pv ts b h2
   exact ⟨p ++ ps, frs_append q1 q3, by simp only [POks]; exact ⟨p, ps, rfl, q2, q4⟩⟩
end
def PVal (B : Nat) (ty : Ty) (p : PV) : Prop := if ty.agg then ∃ cs, p = .agg cs ∧ POk B ty cs else POk B ty [p]
def PArgs (B : Nat) : List Ty → List PV → Prop
 | [], vs => vs = []
 | ty :: tys, vs => ∃ v r, vs = v :: r ∧ PVal B ty v ∧ PArgs B tys r
theorem aval_pv {B : Nat} {h : Heap} {ty : Ty} {v : Value} (hv : AVal B ty h v) : ∃ p, FR h N0 p v ∧ PVal B ty p := by
 unfold AVal at hv
 unfold PVal
 split at hv
 ·rename_i ha
  obtain ⟨cs, rfl, h1⟩ := hv
  obtain ⟨ps, q1, q2⟩ := aok_pv ty _ h1
  exact ⟨.agg ps, by simpa using frs_agg q1, by rw [if_pos ha]; exact ⟨ps, rfl, q2⟩⟩
 ·rename_i ha
  obtain ⟨ps, q1, q2⟩ := aok_pv ty _ hv
  match ps, q1 with
  | [p], q1 => exact ⟨p, by simpa using q1.2 0 (by simp), by rw [if_neg ha]; exact q2⟩
  | [], q1 => have := q1.1; simp at this
  | _ :: _ :: _, q1 => have := q1.1; simp at this
theorem aargs_pv {B : Nat} {h : Heap} : ∀ {tys : List Ty} {avs : List Value}, AArgs B tys h avs → ∃ ps, PArgs B tys ps ∧ ps.length = avs.length ∧ ∀ i, i < ps.length → FR h N0 (ps.getD i default) (avs.getD i Go.undef)
 | [], avs, hh => by
   simp only [AArgs] at hh
   subst hh
   exact ⟨[], by simp only [PArgs], rfl, by simp⟩
 | ty :: tys, avs, hh => by
   simp only [AArgs] at hh
   obtain ⟨v, r, rfl, h1, h2⟩ := hh
   obtain ⟨p, q1, q2⟩ := aval_pv h1
   obtain ⟨ps, q3, q4, q5⟩ := aargs_pv h2
   refine ⟨p :: ps, by simp only [PArgs]; exact ⟨p, ps, rfl, q2, q3⟩, by simp [q4], fun i hi => ?_⟩
   cases i with
   | zero => exact q1
   | succ i => exact q5 i (by simpa using hi)
theorem lawV {EW : EnvW} {EA : Env} (hE : EnvSim EW EA) {name : String} {tys : List Ty} {B : Nat} (hn : tys.length ≤ hidB)
 (hlaw : ∀ ps, PArgs B tys ps → ∃ o ho, callV EW name (ps.map AV.v) [] = some ([.v (.sc (.bool true))], o, ho)) : ∀ avs h, NoOwn h → AArgs B tys h avs → ∃ h', callA EA name avs h = some (.bool true, h') := by
 intro avs h _ ha
 obtain ⟨ps, q1, q2, q3⟩ := aargs_pv ha
 obtain ⟨o, ho, hx⟩ := hlaw ps q1
 have hlen : ∀ {tys : List Ty} {ps : List PV}, PArgs B tys ps → ps.length = tys.length := by
  intro tys
  induction tys with
  | nil => intro ps hp; simp only [PArgs] at hp; subst hp; rfl
  | cons t tys ih => intro ps hp; simp only [PArgs] at hp; obtain ⟨v, r, rfl, _, h2⟩ := hp; simp [ih h2]
 have s0 : SR (fun _ => False) (fun _ _ => none) h (argTT (ps.map AV.v) []) (argT avs) := by
  refine ⟨fun i => ?_, by simp, by simp, by simp⟩
  unfold argTT
  rw [argTT'_at, if_pos (Nat.zero_le _), Nat.sub_zero, List.getElem?_map]
  cases hp : ps[i]? with
  | none =>
    simp only [Option.map_none]
    rw [hidT_at]
    split <;> simp [TR]
  | some p =>
    simp only [Option.map_some, tvA, TR]
    have hi : i < ps.length := (List.getElem?_eq_some_iff.1 hp).1
    have := q3 i hi
    rw [List.getD_eq_getElem?_getD, hp] at this
    exact FR.keep this (Keeps.less (by rintro b (hf | ⟨k, c, hk⟩); exact hf; cases hk))
 obtain ⟨v, h', β', p, X, g1, _, _, _, _, _, _, g8, _⟩ := callV_sim hE name _ _ _ _ _ hx (fun _ => False) (fun _ _ => none) h avs (by simp [q2]) (by rw [List.length_map, hlen q1]; exact hn) s0
 refine ⟨h', ?_⟩
 simp only [ResR, resTV, tvC, isRoot] at g8
 have g9 : FR h' _ (.sc (.bool true)) v := g8.1
 cases g9
 exact g1
theorem alone_sim {EA : Env} {f : String} (hA : EA f = some (.prim (alone true))) : CallSim (fun f' avs hids => if f' = f then aloneT avs hids else none) (callA EA) := by
 intro f' avs hids res outs houts hx M β h argsA hlen _ s
 simp only at hx
 split at hx
 ·rename_i hf
  subst hf
  unfold aloneT at hx
  split at hx
  ·injection hx with hx; injection hx with e1 hx; injection hx with e2 e3
   subst e1 e2 e3
   have : argsA = [] := List.length_eq_zero_iff.1 (by simpa using hlen)
   subst this
   refine ⟨.bool true, h, β, fun _ => none, fun _ => False, by rw [callA_prim hA]; rfl, rfl, .refl, ?_, by simp, by simp, by simp, ⟨.sc _ rfl, trivial⟩, by simp⟩
   have s' := s.set0.part (t' := outTT [] []) (fun i => .inr rfl)
   exact s'
  ·cases hx
 ·cases hx
section
variable {B : Nat} {p : PV}
theorem pv_int {k : IntKind} (hv : PVal B (.int k) p) : ∃ n, p = .sc (.int k n) ∧ (Lit.int k n).wf = true := by
 simp only [PVal, Ty.agg, Bool.false_eq_true, if_false, POk] at hv
 obtain ⟨n, h1, h2⟩ := hv
 exact ⟨n, by simpa using h1, h2⟩
theorem pv_bool (hv : PVal B .bool p) : ∃ b, p = .sc (.bool b) := by
 simp only [PVal, Ty.agg, Bool.false_eq_true, if_false, POk] at hv
 obtain ⟨n, h1⟩ := hv
 exact ⟨n, by simpa using h1⟩
theorem pv_str (hv : PVal B .str p) : ∃ s : ByteArray, p = .sc (.string s) ∧ s.size ≤ reach ∧ s.size ≤ B := by
 simp only [PVal, Ty.agg, Bool.false_eq_true, if_false, POk] at hv
 obtain ⟨n, h1, h2⟩ := hv
 exact ⟨n, by simpa using h1, h2⟩
theorem prows_int {k : IntKind} : ∀ {rows : List (List PV)}, (∀ r ∈ rows, POk B (.int k) r) → ∃ l : List Int, l.length = rows.length ∧ rows.flatten = mp (fun n : Int => PV.sc (.int k n)) l ∧ ∀ x ∈ l, (Lit.int k x).wf = true
 | [], _ => ⟨[], rfl, rfl, by simp⟩
 | r :: rows, hr => by
   have h0 := hr r (by simp)
   simp only [POk] at h0
   obtain ⟨n, rfl, hn⟩ := h0
   obtain ⟨l, h1, h2, h3⟩ := prows_int (rows := rows) (fun r hm => hr r (by simp [hm]))
   refine ⟨n :: l, by simp [h1], by simp [h2, mp_cons], fun x hx => ?_⟩
   cases hx with
   | head => exact hn
   | tail _ hx => exact h3 x hx
theorem pv_arr {k : IntKind} {n : Nat} (hv : PVal B (.arr n (.int k)) p) : ∃ l : List Int, l.length = n ∧ p = .agg (mp (fun n : Int => PV.sc (.int k n)) l) ∧ ∀ x ∈ l, (Lit.int k x).wf = true := by
 simp only [PVal, Ty.agg, if_true] at hv
 obtain ⟨cs, rfl, hv⟩ := hv
 simp only [POk] at hv
 obtain ⟨rows, h1, rfl, h3⟩ := hv
 obtain ⟨l, q1, q2, q3⟩ := prows_int (B := B) (k := k) (rows := rows) (by simpa only [POk] using h3)
 exact ⟨l, by omega, by rw [q2], q3⟩
theorem pv_sl {k : IntKind} {by_ : Nat} (hv : PVal B (.sl 1 by_ (.int k)) p) : ∃ l : List Int, p = .sl l.length (mp (fun n : Int => PV.sc (.int k n)) l) ∧ (∀ x ∈ l, (Lit.int k x).wf = true) ∧ l.length * by_ ≤ reach ∧ l.length ≤ B := by
 simp only [PVal, Ty.agg, Bool.false_eq_true, if_false, POk] at hv
 obtain ⟨rows, h1, h2, h3, h4⟩ := hv
 obtain ⟨l, q1, q2, q3⟩ := prows_int (B := B) (k := k) (rows := rows) (by simpa only [POk] using fun r hr => (h4 r hr).2)
 exact ⟨l, by rw [q1, ← q2]; simpa using h1, q3, by rw [q1]; exact h2, by rw [q1]; exact h3⟩
theorem wf_i64 {n : Int} (h : (Lit.int .i64 n).wf = true) : -9223372036854775808 ≤ n ∧ n < 9223372036854775808 := by
 simp [Lit.wf, IntKind.min, IntKind.max, IntKind.signed, IntKind.bits] at h
 omega
theorem wf_u8 {n : Int} (h : (Lit.int .u8 n).wf = true) : 0 ≤ n ∧ n < 256 := by
 simp [Lit.wf, IntKind.min, IntKind.max, IntKind.signed, IntKind.bits] at h
 omega
theorem wf_u16 {n : Int} (h : (Lit.int .u16 n).wf = true) : 0 ≤ n ∧ n < 65536 := by
 simp [Lit.wf, IntKind.min, IntKind.max, IntKind.signed, IntKind.bits] at h
 omega
theorem wf_u32 {n : Int} (h : (Lit.int .u32 n).wf = true) : 0 ≤ n ∧ n < 4294967296 := by
 simp [Lit.wf, IntKind.min, IntKind.max, IntKind.signed, IntKind.bits] at h
 omega
theorem wf_u64 {n : Int} (h : (Lit.int .u64 n).wf = true) : 0 ≤ n ∧ n < 18446744073709551616 := by
 simp [Lit.wf, IntKind.min, IntKind.max, IntKind.signed, IntKind.bits] at h
 omega
theorem nats_of {l : List Int} {m : Nat} (h : ∀ x ∈ l, 0 ≤ x ∧ x < (m : Int)) : ∃ b : List Nat, l = b.map Int.ofNat ∧ ∀ x ∈ b, x < m := by
 refine ⟨l.map Int.toNat, ?_, ?_⟩
 ·rw [List.map_map]
  have : l.map id = l := List.map_id l
  rw [← this]
  rw [List.map_map]
  apply List.map_congr_left
  intro x hx
  simp only [id, Function.comp]
  have := (h x hx).1
  exact (Int.toNat_of_nonneg this).symm
 ·intro x hx
  obtain ⟨y, hy, rfl⟩ := List.mem_map.1 hx
  have := h y hy
  omega
theorem pv_bytes (hv : PVal B (.sl 1 1 (.int .u8)) p) : ∃ b : List Nat, p = .sl b.length (bp b) ∧ (∀ x ∈ b, x < 256) ∧ b.length ≤ reach ∧ b.length ≤ B := by
 obtain ⟨l, h1, h2, h3, h4⟩ := pv_sl hv
 obtain ⟨b, rfl, q2⟩ := nats_of (l := l) (m := 256) (fun x hx => wf_u8 (h2 x hx))
 refine ⟨b, ?_, q2, by simpa using h3, by simpa using h4⟩
 rw [h1]
 simp [mp, List.map_map, Function.comp_def]
end
end Go.Wb
namespace Go.Wb
open Go
attribute [simp] stN isV eqCell eqCells
attribute [simp] callW argsW arg1 nodupN boxesC boxC afterW backs backHs backH backTV resTV renum rootsOf refRW refA refCs refC hasRef hasRefs dynW capArgs tvA
def room : Nat := 140737488355000
theorem reach_room {n : Nat} (h : n ≤ reach) : n ≤ room := by unfold reach reachBytes at h; unfold room; omega
theorem pv_strR {B : Nat} {p : PV} (hv : PVal B .str p) : ∃ s : ByteArray, p = .sc (.string s) ∧ s.size ≤ room ∧ s.size ≤ B := by
 obtain ⟨s, h1, h2, h3⟩ := pv_str hv
 exact ⟨s, h1, reach_room h2, h3⟩
theorem pv_slR {B : Nat} {p : PV} {k : IntKind} {by_ : Nat} (hv : PVal B (.sl 1 by_ (.int k)) p) : ∃ l : List Int, p = .sl l.length (mp (fun n : Int => PV.sc (.int k n)) l) ∧ (∀ x ∈ l, (Lit.int k x).wf = true) ∧ l.length * by_ ≤ room ∧ l.length ≤ B := by
 obtain ⟨l, h1, h2, h3, h4⟩ := pv_sl hv
 exact ⟨l, h1, h2, reach_room h3, h4⟩
theorem pv_bytesR {B : Nat} {p : PV} (hv : PVal B (.sl 1 1 (.int .u8)) p) : ∃ b : List Nat, p = .sl b.length (bp b) ∧ (∀ x ∈ b, x < 256) ∧ b.length ≤ room ∧ b.length ≤ B := by
 obtain ⟨b, h1, h2, h3, h4⟩ := pv_bytes hv
 exact ⟨b, h1, h2, reach_room h3, h4⟩
def I64 (x : Int) : Prop := -9223372036854775808 ≤ x ∧ x < 9223372036854775808
def U64 (x : Int) : Prop := 0 ≤ x ∧ x < 18446744073709551616
theorem wrap_u32 {x : Int} (h : 0 ≤ x) (h' : x < 4294967296) : IntKind.u32.wrap x = x := by rw [IntKind.wrap_u32]; omega
theorem wwS : (hidB = 100000) ∧ (∀ {x : Int}, -9223372036854775808 ≤ x → x < 9223372036854775808 → IntKind.i64.wrap x = x) ∧ (∀ (n : Int), IntKind.u64.wrap n = n % 18446744073709551616) ∧ (∀ (n : Int), IntKind.u32.wrap n = n % 4294967296) ∧
 (∀ (n : Int), IntKind.u16.wrap n = n % 65536) ∧ (∀ (n : Int), IntKind.u8.wrap n = n % 256) ∧ (∀ {a b : Int}, 0 ≤ a → a < b → a % b = a) ∧ (∀ {a b : Int}, 0 ≤ a → a.tdiv b = a / b) ∧ (∀ {a b : Int}, 0 ≤ a → a.tmod b = a % b) :=
 ⟨rfl, fun h1 h2 => wrap_i64 h1 h2, IntKind.wrap_u64, IntKind.wrap_u32, wrap_u16, IntKind.wrap_u8, fun h1 h2 => Int.emod_eq_of_lt h1 h2, fun h => Int.tdiv_eq_ediv_of_nonneg h, fun h => Int.tmod_eq_emod_of_nonneg h⟩
theorem lnS : (∀ {α : Type} {f : α → PV} {l : List α}, (mp f l).length = l.length) ∧ (∀ n : Nat, n * 1 = n) ∧ (∀ n : Nat, 1 * n = n) ∧ (∀ {α : Type} {i : Nat} {l : List α}, (l.take i).length = min i l.length) ∧ (∀ {α : Type} {i : Nat} {l : List α}, (l.drop i).length = l.length - i) ∧
 (∀ {α : Type} {a b : List α}, (a ++ b).length = a.length + b.length) ∧ (∀ {α : Type} {l : List α} {i : Nat} {a : α}, (l.set i a).length = l.length) ∧ (∀ {α : Type} {a : α} {l : List α}, (a :: l).length = l.length + 1) ∧ (∀ {α : Type}, ([] : List α).length = 0) ∧ (∀ {α : Type} {n : Nat} {a : α}, (List.replicate n a).length = n) :=
 ⟨mp_len, Nat.mul_one, Nat.one_mul, List.length_take, List.length_drop, List.length_append, List.length_set, List.length_cons, rfl, List.length_replicate⟩
abbrev vb (l : List Nat) : AV := .v (.sl l.length (bp l))
abbrev vi (a : Int) : AV := .v (.sc (.int .i64 a))
abbrev vk (k : IntKind) (a : Int) : AV := .v (.sc (.int k a))
abbrev vB (b : Bool) : AV := .v (.sc (.bool b))
abbrev vs (s : ByteArray) : AV := .v (.sc (.string s))
abbrev ri (a : Int) : CV := .v (.sc (.int .i64 a))
abbrev rk (k : IntKind) (a : Int) : CV := .v (.sc (.int k a))
abbrev rB (b : Bool) : CV := .v (.sc (.bool b))
abbrev rs (s : ByteArray) : CV := .v (.sc (.string s))
abbrev ro (l : List Nat) : CV := .o l.length 1 (bp l)
abbrev na : AV := .v (.agg [])
def num (l : List Nat) : Nat := l.foldl (fun n c => n * 256 + c) 0
theorem num_snoc (l : List Nat) (x : Nat) : num (l ++ [x]) = num l * 256 + x := by simp [num]
theorem num_lt_aux : ∀ (l : List Nat) (a : Nat), (∀ x ∈ l, x < 256) → l.foldl (fun n c => n * 256 + c) a < (a + 1) * 256 ^ l.length
 | [], a, _ => by simp
 | c :: l, a, h => by
   have h1 := num_lt_aux l (a * 256 + c) (fun x hx => h x (by simp [hx]))
   have h2 := h c (by simp)
   rw [List.foldl_cons, List.length_cons, Nat.pow_succ, Nat.mul_comm (256 ^ l.length), ← Nat.mul_assoc]
   refine Nat.lt_of_lt_of_le h1 (Nat.mul_le_mul_right _ (by omega))
theorem num_lt (l : List Nat) (h : ∀ x ∈ l, x < 256) : num l < 256 ^ l.length := by
 have := num_lt_aux l 0 h
 simpa [num] using this
theorem take_succ_getD {b : List Nat} {k : Nat} (h : k < b.length) : b.take (k + 1) = b.take k ++ [b.getD k 0] := by
 rw [List.take_add_one, List.getElem?_eq_getElem h]
 simp [List.getD, h]
theorem getD_mem {b : List Nat} {k : Nat} (h : k < b.length) : b.getD k 0 ∈ b := by
 simp [List.getD, h]
theorem getD_sub {b : List Nat} {o n k : Nat} (h : k < n) : ((b.drop o).take n).getD k 0 = b.getD (o + k) 0 := by
 simp [List.getD, h, List.getElem?_drop]
theorem drop_getD {b : List Nat} {k : Nat} (h : k < b.length) : b.drop k = b.getD k 0 :: b.drop (k + 1) := by
 rw [List.drop_eq_getElem_cons h]
 simp [List.getD, h]
theorem or_byte (n c : Nat) (hn : n < 72057594037927936) (hc : c < 256) : bits .or .u64 ((n : Int) * 256) (c : Int) = ((n * 256 + c : Nat) : Int) := by
 have := bits_join .u64 64 (by decide) (fun n h0 h1 => wrap_u64 h0 (by simpa using h1)) 8 ((n * 2 ^ 8 : Nat) : Int) c (by omega) (by omega) (by omega) (by omega) (by omega) (by omega)
 have e : ((n * 2 ^ 8 : Nat) : Int) = (n : Int) * 256 := by omega
 rw [e] at this
 rw [this]
 omega
end Go.Wb
namespace Go.Wb
open Go
def sb (l : List Nat) : ByteArray := ⟨(l.map UInt8.ofNat).toArray⟩
def All256 (l : List Nat) : Prop := ∀ x ∈ l, x < 256
@[simp] theorem sb_size {l : List Nat} : (sb l).size = l.length := by simp [sb, ByteArray.size]
@[simp] theorem sb_list {l : List Nat} : (sb l).data.toList = l.map UInt8.ofNat := by simp [sb]
theorem sb_of (s : ByteArray) : ∃ l : List Nat, s = sb l ∧ All256 l := by
 refine ⟨s.data.toList.map UInt8.toNat, ?_, ?_⟩
 ·obtain ⟨d⟩ := s
  simp only [sb, List.map_map]
  congr 1
  have : (UInt8.ofNat ∘ UInt8.toNat) = id := by funext x; simp
  rw [this, List.map_id]
 ·intro x hx
  rw [List.mem_map] at hx
  obtain ⟨y, _, rfl⟩ := hx
  exact y.toNat_lt
theorem sb_inj {l l' : List Nat} (h : All256 l) (h' : All256 l') : sb l = sb l' ↔ l = l' := by
 constructor
 ·intro e
  have e2 : (sb l).data.toList.map UInt8.toNat = (sb l').data.toList.map UInt8.toNat := by rw [e]
  rw [sb_list, sb_list, List.map_map, List.map_map] at e2
  have f : ∀ m : List Nat, All256 m → m.map (UInt8.toNat ∘ UInt8.ofNat) = m := by
   intro m hm
   rw [← List.map_id m]
   simp only [List.map_map]
   apply List.map_congr_left
   intro x hx
   have := hm x hx
   simp only [Function.comp_apply, id]
   rw [UInt8.toNat_ofNat']
   omega
  rwa [f l h, f l' h'] at e2
 ·intro e; rw [e]
@[simp] theorem bytesOf_bp : ∀ l : List Nat, bytesOf (bp l) = some (l.map UInt8.ofNat)
  | [] => rfl
  | x :: l => by
    have := bytesOf_bp l
    show bytesOf (PV.sc (.int .u8 (x : Int)) :: bp l) = _
    simp only [bytesOf, byteOf, this, Int.toNat_natCast, List.map_cons]
theorem isT_sb {l : List Nat} {k : IntKind} {a : Int} (h : All256 l) (h0 : 0 ≤ a) (h1 : a < l.length) : isT (.val (.sc (.string (sb l)))) (.val (.sc (.int k a))) = some (ti .u8 (l.getD a.toNat 0 : Nat)) := by
 have hl : a.toNat < l.length := by omega
 have hx : l.getD a.toNat 0 < 256 := h _ (getD_mem hl)
 rw [isT_at, if_pos h0, sb_list, List.getElem?_map, List.getElem?_eq_getElem hl]
 simp only [Option.map_some]
 have e : l.getD a.toNat 0 = l[a.toNat] := by simp [List.getD, hl]
 rw [e] at hx ⊢
 rw [UInt8.toNat_ofNat', Nat.mod_eq_of_lt (by omega)]
theorem str_beq {a b : ByteArray} : (a.toList == b.toList) = decide (a = b) := by
 rw [ByteArray.toList_eq, ByteArray.toList_eq, Bool.eq_iff_iff]
 simp only [beq_iff_eq, decide_eq_true_eq]
 constructor
 ·intro h
  obtain ⟨x⟩ := a
  obtain ⟨y⟩ := b
  congr 1
  exact Array.toList_inj.1 h
 ·intro h; rw [h]
end Go.Wb
namespace Go.Wb
open Go
def ws : List Nat → Nat
 | [] => 0
 | [a] => a * 256
 | a :: b :: l => a * 256 + b + ws l
def foldS (n : Int) : Int := if n = 0 then 0 else (n - 1) % 65535 + 1
def sumS (bs : List Nat) : Int := foldS (IntKind.u64.wrap (ws bs))
theorem ws_le : ∀ (l : List Nat), (∀ x ∈ l, x < 256) → ws l ≤ 65535 * l.length
 | [], _ => by simp [ws]
 | [a], h => by
   have := h a (by simp)
   simp only [ws, List.length_cons, List.length_nil]; omega
 | a :: b :: l, h => by
   have h1 := h a (by simp)
   have h2 := h b (by simp)
   have := ws_le l (fun x hx => h x (by simp [hx]))
   simp only [ws, List.length_cons]; omega
theorem sumS_eq {bs : List Nat} (h : ∀ x ∈ bs, x < 256) (hr : bs.length ≤ room) : sumS bs = foldS (ws bs) := by
 have := ws_le bs h
 unfold room at hr
 unfold sumS
 rw [IntKind.wrap_u64, Int.emod_eq_of_lt (by omega) (by omega)]
theorem foldS_range {n : Int} (_h : 0 ≤ n) : 0 ≤ foldS n ∧ foldS n < 65536 := by
 unfold foldS; split <;> omega
def byteV : Value → Option Nat
 | .int .u8 n => if 0 ≤ n ∧ n < 256 then some n.toNat else none
 | _ => none
def bytesV : List Value → Option (List Nat)
 | [] => some []
 | v :: l => match byteV v, bytesV l with
   | some b, some r => some (b :: r)
   | _, _ => none
def byteP : PV → Option Nat
 | .sc v => byteV v
 | _ => none
def bytesP : List PV → Option (List Nat)
 | [] => some []
 | v :: l => match byteP v, bytesP l with
   | some b, some r => some (b :: r)
   | _, _ => none
theorem bytesP_bp : ∀ {l : List Nat}, (∀ x ∈ l, x < 256) → bytesP (bp l) = some l
 | [], _ => rfl
 | a :: l, h => by
   have h1 := h a (by simp)
   have ih := bytesP_bp (l := l) (fun x hx => h x (by simp [hx]))
   show bytesP (u8P a :: bp l) = _
   simp only [bytesP, ih, byteP, byteV]
   rw [if_pos (by omega)]
   simp
theorem byteV_inv {v : Value} {b : Nat} (h : byteV v = some b) : v = .int .u8 b ∧ b < 256 := by
 unfold byteV at h
 split at h
 ·split at h
  ·injection h with h; subst h
   constructor
   ·congr 1; omega
   ·omega
  ·cases h
 ·cases h
theorem bytesV_inv : ∀ {l : List Value} {bs : List Nat}, bytesV l = some bs → l.length = bs.length ∧ (∀ x ∈ bs, x < 256) ∧ ∀ i, i < bs.length → l.getD i Go.undef = .int .u8 (bs.getD i 0)
 | [], bs, h => by
   simp only [bytesV] at h; injection h with h; subst h; simp
 | v :: l, bs, h => by
   simp only [bytesV] at h
   split at h
   ·rename_i b r hb hr
    injection h with h; subst h
    obtain ⟨q1, q2, q3⟩ := bytesV_inv hr
    obtain ⟨q4, q5⟩ := byteV_inv hb
    refine ⟨by simp [q1], fun x hx => ?_, fun i hi => ?_⟩
    ·rcases List.mem_cons.1 hx with rfl | hx
     ·exact q5
     ·exact q2 x hx
    ·cases i with
     | zero => simpa using q4
     | succ i => simpa using q3 i (by simpa using hi)
   ·cases h
def sumA : List Value → Heap → Option (Value × Heap) := fun args h => match args with
 | [.slice none 0 0] => some (.int .u16 (sumS []), h)
 | [.slice (some ⟨b, o, none⟩) n s] => if n = 0 then some (.int .u16 (sumS []), h) else if s = 1 then
  match readN h b o n with
  | some cs => (bytesV cs).map fun bs => (.int .u16 (sumS bs), h)
  | none => none
   else none
 | _ => none
def sumW : List AV → List (List CV) → Option RW := fun avs hids => match avs, hids with
 | [.v (.sl n cs)], [] => match bytesP cs with
   | some bs => if n = bs.length then some ([.v (.sc (.int .u16 (sumS bs)))], [.v (.agg [])], []) else none
   | none => none
 | _, _ => none
theorem sumW_ok {b : List Nat} (h : ∀ x ∈ b, x < 256) : sumW [vb b] [] = some ([rk .u16 (sumS b)], [na], []) := by
 simp only [sumW, bytesP_bp h, if_true]
theorem sumA_ro {args : List Value} {h : Heap} {v : Value} {h' : Heap} (hx : sumA args h = some (v, h')) : RoM h h' := by
 have : h' = h := by
  unfold sumA at hx
  split at hx
  ·injection hx with hx; injection hx with e1 e2; exact e2.symm
  ·split at hx
   ·injection hx with hx; injection hx with e1 e2; exact e2.symm
   ·split at hx
    ·split at hx
     ·rw [Option.map_eq_some_iff] at hx
      obtain ⟨u, _, hx⟩ := hx
      injection hx with e1 e2; exact e2.symm
     ·cases hx
    ·cases hx
  ·cases hx
 rw [this]; exact .refl _
def SlB (w : World) (a : Option Addr) (n c : Nat) (bs : List Nat) : Prop :=
 n = bs.length ∧ n ≤ c ∧ (∀ x ∈ bs, x < 256) ∧ (bs ≠ [] → ∃ B o, a = some ⟨B, o, none⟩ ∧ B < w.heap.size ∧ ∀ i, i < bs.length → w.cell? ⟨B, o + i, none⟩ = some (.int .u8 (bs.getD i 0)))
theorem sum_args {args : List Value} {h h' : Heap} {v : Value} (hx : sumA args h = some (v, h')) {ι : Inj} {w : World} {args' : List Value} (hr : Rel ι h w) (hc : CRel ι h.length args args') :
 ∃ a n c bs, args' = [.slice a n c] ∧ SlB w a n c bs ∧ v = .int .u16 (sumS bs) ∧ h' = h := by
 have one : ∀ x, args = [x] → ∃ x', args' = [x'] ∧ VRel ι h.length x x' := by
  intro x hx
  subst hx
  have hl := hc.1
  match args', hl with
  | [x'], _ => exact ⟨x', rfl, by simpa using hc.2 0⟩
  | [], hl => simp at hl
  | _ :: _ :: _, hl => simp at hl
 unfold sumA at hx
 split at hx
 ·obtain ⟨x', rfl, hv⟩ := one _ rfl
  obtain ⟨_, _, rfl⟩ := hv.nilSlice_inv
  injection hx with hx; injection hx with e1 e2
  exact ⟨none, 0, 0, [], rfl, ⟨rfl, Nat.le_refl _, by simp, fun hne => absurd rfl hne⟩, e1.symm, e2.symm⟩
 ·rename_i b o n s
  obtain ⟨x', rfl, hv⟩ := one _ rfl
  obtain ⟨hb, a, cap, rfl, hcap, hcc⟩ := hv.slice_inv
  split at hx
  ·rename_i hn
   subst hn
   injection hx with hx; injection hx with e1 e2
   exact ⟨some a, 0, cap, [], rfl, ⟨rfl, hcap, by simp, fun hne => absurd rfl hne⟩, e1.symm, e2.symm⟩
  ·rename_i hn
   split at hx
   ·rename_i hs
    subst hs
    split at hx
    ·rename_i cs hcs
     rw [Option.map_eq_some_iff] at hx
     obtain ⟨bs, hbs, hx⟩ := hx
     injection hx with e1 e2
     obtain ⟨q1, q2, q3⟩ := bytesV_inv hbs
     unfold readN at hcs
     split at hcs
     ·rename_i ro ca hca
      split at hcs
      ·rename_i hle
       injection hcs with hcs
       have hlen : cs.length = n := by rw [← hcs, List.length_take, List.length_drop]; omega
       refine ⟨some a, n, cap, bs, rfl, ⟨by omega, hcap, q2, fun _ => ?_⟩, e1.symm, e2.symm⟩
       have hn0 : 0 < n := by omega
       have hc0 : 0 < cap := by omega
       obtain ⟨o', ha, ho', _⟩ := hcc hc0
       have ho' := ho' hn0
       subst ha
       refine ⟨(ι b).blk, o', rfl, hr.inside b ro ca hca (.inr (by rintro rfl; simp at hle; omega)), fun i hi => ?_⟩
       obtain ⟨v', g1, g2, g3⟩ := hr.cell b ro ca hca (o + i) (by omega)
       have hget : ca.getD (o + i) Go.undef = .int .u8 (bs.getD i 0) := by
        rw [← q3 i hi, ← hcs]
        simp only [List.getD_eq_getElem?_getD]
        rw [List.getElem?_take_of_lt (by omega), List.getElem?_drop]
       rw [hget] at g2
       rw [g2.int_inv] at g1
       rw [ho', Nat.add_assoc]
       exact g1
      ·cases hcs
     ·cases hcs
    ·cases hx
   ·cases hx
 ·cases hx
theorem step_below {ι : Inj} {h : Heap} {w w' : World} (hr : Rel ι h w) (hb : RowKit.Below w.heap.size w w') : Step ι h w ι h w' := by
 have hcell : ∀ (a : Addr), a.block < w.heap.size → w'.cell? a = w.cell? a := fun a ha => World.cell?_of_block (hb.block _ ha)
 refine ⟨Nat.le_refl _, fun _ _ => rfl, ⟨?_, ?_, hr.fits, ?_, hr.apart⟩, hb.size, fun B hB _ => hb.block B hB, fun B ho => .inr ho, hb.tape, hb.os, hb.output, fun _ _ hb _ => .inl hb⟩
 ·intro b ro cs hbk i hi
  obtain ⟨v', q1, q2, q3⟩ := hr.cell b ro cs hbk i hi
  refine ⟨v', ?_, q2, q3⟩
  rw [hcell _ (hr.inside b ro cs hbk (.inr (by rintro rfl; simp at hi)))]
  exact q1
 ·intro b ro cs hbk hne
  exact Nat.lt_of_lt_of_le (hr.inside b ro cs hbk hne) hb.size
 ·intro b cs hbk
  obtain ⟨c, e, lo, hi, q1, q2, q3⟩ := hr.own b cs hbk
  exact ⟨c, e, lo, hi, (hb.block _ (own_lt hr ⟨b, cs, hbk, rfl⟩)).trans q1, q2, q3⟩
theorem below_of_step {ι ι' : Inj} {h' : Heap} {w w' : World} (st : Step ι [] w ι' h' w') : RowKit.Below w.heap.size w w' := by
 have hno : ∀ B, ¬ Owned ι ([] : Heap) B := by rintro B ⟨b, cs, hb, _⟩; simp at hb
 exact ⟨st.os, st.tape, st.output, st.size, fun k hk => st.frame k hk (hno k)⟩
theorem bytes_fr {h : Heap} {N : Nat → Prop} : ∀ {cs : List PV} {bs : List Nat} {ca : List Value}, bytesP cs = some bs → ca.length = cs.length → (∀ i, i < cs.length → FR h N (cs.getD i default) (ca.getD i Go.undef)) → bytesV ca = some bs
 | [], bs, ca, hb, hl, _ => by
   simp only [bytesP] at hb
   injection hb with hb; subst hb
   have : ca = [] := List.length_eq_zero_iff.1 (by simpa using hl)
   subst this; rfl
 | p :: cs, bs, ca, hb, hl, hf => by
   simp only [bytesP] at hb
   split at hb
   ·rename_i b r h1 h2
    injection hb with hb; subst hb
    match ca, hl with
    | v :: ca, hl =>
      have ih := bytes_fr (ca := ca) h2 (by simpa using hl) (fun i hi => by simpa using hf (i + 1) (by simpa using hi))
      have h0 : FR h N p v := by simpa using hf 0 (by simp)
      unfold byteP at h1
      split at h1
      ·cases h0
       simp only [bytesV, h1, ih]
      ·cases h1
   ·cases hb
theorem bytesP_len : ∀ {cs : List PV} {bs : List Nat}, bytesP cs = some bs → cs.length = bs.length
 | [], bs, h => by simp only [bytesP] at h; injection h with h; subst h; rfl
 | p :: cs, bs, h => by
   simp only [bytesP] at h
   split at h
   ·rename_i b r h1 h2
    injection h with h; subst h
    simp [bytesP_len h2]
   ·cases h
theorem sum_sim {EA : Env} {f : String} (hA : EA f = some (.prim sumA)) : CallSim (fun f' avs hids => if f' = f then sumW avs hids else none) (callA EA) := by
 intro f' avs hids res outs houts hx M β h argsA hlen hle s
 simp only at hx
 split at hx
 ·rename_i hf
  subst hf
  unfold sumW at hx
  split at hx
  ·rename_i n cs
   split at hx
   ·rename_i bs hbs
    split at hx
    ·rename_i hn
     injection hx with hx; injection hx with e1 hx; injection hx with e2 e3
     subst e1 e2 e3
     match argsA, hlen with
     | [x], _ =>
     have ht := s.tr 0
     have ht : FR h (NF M β) (.sl n cs) x := by
      simpa [argTT, argTT', updT, tvA, TR, argT] using ht
     have hlb := bytesP_len hbs
     have hcall : callA EA f' [x] h = some (.int .u16 (sumS bs), h) := by
      rw [callA_prim hA]
      generalize hp : PV.sl n cs = p at ht
      cases ht with
      | sc v hv => cases hp
      | agg cs a hl hc => cases hp
      | slNil =>
        injection hp with hp1 hp2
        subst hp1 hp2
        simp only [bytesP] at hbs; injection hbs with hbs; subst hbs; rfl
      | slE b o s' =>
        injection hp with hp1 hp2
        subst hp1 hp2
        simp only [bytesP] at hbs; injection hbs with hbs; subst hbs; rfl
      | sl n' s' cs' b o ro ca hnn hb hl hf hc =>
        injection hp with hp1 hp2
        subst hp1 hp2
        simp only [sumA]
        by_cases h0 : n = 0
        ·rw [if_pos h0]
         have : bs = [] := List.length_eq_zero_iff.1 (by omega)
         rw [this]
        ·rw [if_neg h0]
         have hs1 : s' = 1 := by
          have : n * s' = n * 1 := by omega
          exact Nat.eq_of_mul_eq_mul_left (by omega) this
         rw [if_pos hs1]
         have hlen2 : cs.length = n := by omega
         have hrd : readN h b o n = some ((ca.drop o).take n) := by
          unfold readN
          rw [hb]
          simp only
          rw [if_pos (by omega)]
         rw [hrd]
         simp only
         have hb2 : bytesV ((ca.drop o).take n) = some bs := by
          refine bytes_fr (h := h) (N := NF M β) hbs ?_ (fun i hi => ?_)
          ·rw [List.length_take, List.length_drop]; omega
          ·have := hc i hi
           have e : ((ca.drop o).take n).getD i Go.undef = ca.getD (o + i) Go.undef := by
            simp only [List.getD_eq_getElem?_getD]
            rw [List.getElem?_take_of_lt (by omega), List.getElem?_drop]
           rw [e]; exact this
         rw [hb2]; rfl
     refine ⟨.int .u16 (sumS bs), h, β, fun _ => none, fun _ => False, hcall, rfl, .refl, ?_, by simp, by simp, by simp, ⟨.sc _ rfl, trivial⟩, ?_⟩
     ·have s' := s.set0.part (t' := outTT [.v (.agg [])] []) (fun i => .inr (by simp [outTT, outTT', updT, tvO, hidT, botT]))
      simpa using s'
     ·intro j f caps hj
      cases j with
      | zero => simp at hj
      | succ j => simp at hj
    ·cases hx
   ·cases hx
  ·cases hx
 ·cases hx
theorem callA_of_V {EW : EnvW} {EA : Env} (hE : EnvSim EW EA) {name : String} {ps : List PV} {avs : List Value} {h : Heap} (hn : ps.length ≤ hidB) (hl : ps.length = avs.length) (hf : ∀ i, i < ps.length → FR h N0 (ps.getD i default) (avs.getD i Go.undef))
 {r : Value} {o : List AV} {ho : List (List CV)} (hx : callV EW name (ps.map AV.v) [] = some ([.v (.sc r)], o, ho)) : ∃ h', callA EA name avs h = some (r, h') := by
 have s0 : SR (fun _ => False) (fun _ _ => none) h (argTT (ps.map AV.v) []) (argT avs) := by
  refine ⟨fun i => ?_, by simp, by simp, by simp⟩
  unfold argTT
  rw [argTT'_at, if_pos (Nat.zero_le _), Nat.sub_zero, List.getElem?_map]
  cases hp : ps[i]? with
  | none =>
    simp only [Option.map_none]
    rw [hidT_at]
    split <;> simp [TR]
  | some p =>
    simp only [Option.map_some, tvA, TR]
    have hi : i < ps.length := (List.getElem?_eq_some_iff.1 hp).1
    have := hf i hi
    rw [List.getD_eq_getElem?_getD, hp] at this
    exact FR.keep this (Keeps.less (by rintro b (hf | ⟨k, c, hk⟩); exact hf; cases hk))
 obtain ⟨v, h', β', p, X, g1, _, _, _, _, _, _, g8, _⟩ := callV_sim hE name _ _ _ _ _ hx (fun _ => False) (fun _ _ => none) h avs (by simp [hl]) (by rw [List.length_map]; exact hn) s0
 refine ⟨h', ?_⟩
 simp only [ResR, resTV, tvC, isRoot] at g8
 have g9 : FR h' _ (.sc r) v := g8.1
 cases g9
 exact g1
theorem fold_calls {P : Program} {nm : Names} {EW : EnvW} {EA : Env} (hc : CallsOk P nm (callA EA)) (hE : EnvSim EW EA) {name : String} {f : FuncId} (hn : nm f = some name)
 (hlaw : ∀ n : Int, 0 ≤ n → n < 18446744073709551616 → callV EW name [vk .u64 n] [] = some ([rk .u16 (foldS n)], [na], [])) (m : Int) (W : World) (h0 : 0 ≤ m) (h1 : m < 18446744073709551616) :
 Calls P f #[.int .u64 m] W fun e W' => e = .returned (.int .u16 (foldS m)) ∧ RowKit.Below W.heap.size W W' := by
 obtain ⟨h', hx⟩ := callA_of_V hE (ps := [.sc (.int .u64 m)]) (avs := [.int .u64 m]) (h := []) (show 1 ≤ hidB by decide) rfl (fun i hi => by
  have : i = 0 := by simpa using hi
  subst this
  exact .sc _ rfl) (hlaw m h0 h1)
 have hr0 : Rel (fun _ => ⟨0, 0, 0⟩) ([] : Heap) W := ⟨fun b ro cs hb => by simp at hb, fun b ro cs hb => by simp at hb, fun b ro cs hb => by simp at hb, fun b cs hb => by simp at hb, fun b b' cs ro cs' hb => by simp at hb⟩
 refine (hc.1 _ _ _ _ _ hx f hn _ W [.int .u64 m] hr0 ⟨rfl, fun i => ?_⟩).mono fun e w' hh => ?_
 ·cases i with
  | zero => exact .int _ _
  | succ i => exact .undef
 ·obtain ⟨ι', v', he, hs, hv⟩ := hh
  exact ⟨by rw [he, hv.int_inv], below_of_step hs⟩
theorem sum_call {P : Program} {f : FuncId} (hs : ∀ a l c w bs, SlB w a l c bs → Calls P f #[.slice a l c] w fun e W' => e = .returned (.int .u16 (sumS bs)) ∧ RowKit.Below w.heap.size w W') :
 ∀ args h v h', sumA args h = some (v, h') → CallOk P f args h v h' := by
 intro args h v h' hx ι w args' hr hcr
 obtain ⟨a, n, c, bs, rfl, hsl, rfl, rfl⟩ := sum_args hx hr hcr
 refine (hs a n c w bs hsl).mono fun e w' hh => ?_
 obtain ⟨rfl, hb⟩ := hh
 exact ⟨ι, _, rfl, step_below hr hb, .int _ _⟩
end Go.Wb
namespace Go.Wb
open Go
theorem wr_u64 (n : Int) (h0 : 0 ≤ n) (h1 : n < 2 ^ 64) : IntKind.u64.wrap n = n := wrap_u64 h0 (by simpa using h1)
theorem wr_u8 (n : Int) (h0 : 0 ≤ n) (h1 : n < 2 ^ 8) : IntKind.u8.wrap n = n := wrap_u8 h0 (by simpa using h1)
theorem wr_u16 (n : Int) (h0 : 0 ≤ n) (h1 : n < 2 ^ 16) : IntKind.u16.wrap n = n := by rw [wrap_u16]; omega
theorem wr_i64 (n : Int) (h0 : 0 ≤ n) (h1 : n < 2 ^ 63) : IntKind.i64.wrap n = n := wrap_i64 (by omega) (by omega)
theorem i64_low (i : Nat) (hi : i < 63) (x : Int) : bits .and .i64 x (((2 ^ i - 1 : Nat) : Int)) = x % (2 ^ i : Nat) := by
 have hp : 2 ^ i ≤ 2 ^ 62 := Nat.pow_le_pow_right (by decide) (by omega)
 have hpos : 0 < 2 ^ i := Nat.two_pow_pos i
 show IntKind.i64.wrap ((BitVec.ofInt 64 x &&& BitVec.ofInt 64 ((2 ^ i - 1 : Nat) : Int)).toNat : Int) = _
 rw [BitVec.toNat_and, BitVec.ofInt_natCast, BitVec.toNat_ofNat, BitVec.toNat_ofInt, Nat.mod_eq_of_lt (a := 2 ^ i - 1) (by omega), Nat.and_two_pow_sub_one_eq_mod]
 have hlt : (x % ((2 ^ 64 : Nat) : Int)).toNat % 2 ^ i < 2 ^ i := Nat.mod_lt _ hpos
 rw [wrap_i64 (by omega) (by omega)]
 rw [Int.natCast_emod, Int.toNat_of_nonneg (Int.emod_nonneg _ (by decide))]
 rw [Int.emod_emod_of_dvd]
 exact Int.natCast_dvd_natCast.2 (Nat.pow_dvd_pow 2 (by omega))
@[simp] theorem i64_and1 {x : Int} : bits .and .i64 x 1 = x % 2 := i64_low 1 (by decide) x
@[simp] theorem i64_and3 {x : Int} : bits .and .i64 x 3 = x % 4 := i64_low 2 (by decide) x
@[simp] theorem i64_and7 {x : Int} : bits .and .i64 x 7 = x % 8 := i64_low 3 (by decide) x
@[simp] theorem i64_and8191 {x : Int} : bits .and .i64 x 8191 = x % 8192 := i64_low 13 (by decide) x
section
variable {x y : Int}
@[simp] theorem u64_and1 (h0 : 0 ≤ x) (h1 : x < 18446744073709551616) : bits .and .u64 x 1 = x % 2 := bits_mask .u64 64 (by decide) wr_u64 1 (by decide) x h0 (by simpa using h1)
@[simp] theorem u64_and16 (h0 : 0 ≤ x) (h1 : x < 18446744073709551616) : bits .and .u64 x 65535 = x % 65536 := bits_mask .u64 64 (by decide) wr_u64 16 (by decide) x h0 (by simpa using h1)
@[simp] theorem u64_and32 (h0 : 0 ≤ x) (h1 : x < 18446744073709551616) : bits .and .u64 x 4294967295 = x % 4294967296 := bits_mask .u64 64 (by decide) wr_u64 32 (by decide) x h0 (by simpa using h1)
@[simp] theorem u8_and3 (h0 : 0 ≤ x) (h1 : x < 256) : bits .and .u8 x 3 = x % 4 := bits_mask .u8 8 (by decide) wr_u8 2 (by decide) x h0 (by simpa using h1)
@[simp] theorem u8_and7' (h0 : 0 ≤ x) (h1 : x < 256) : bits .and .u8 x 7 = x % 8 := bits_mask .u8 8 (by decide) wr_u8 3 (by decide) x h0 (by simpa using h1)
@[simp] theorem u8_and15' (h0 : 0 ≤ x) (h1 : x < 256) : bits .and .u8 x 15 = x % 16 := bits_mask .u8 8 (by decide) wr_u8 4 (by decide) x h0 (by simpa using h1)
@[simp] theorem u8_and63' (h0 : 0 ≤ x) (h1 : x < 256) : bits .and .u8 x 63 = x % 64 := bits_mask .u8 8 (by decide) wr_u8 6 (by decide) x h0 (by simpa using h1)
@[simp] theorem u16_and1 (h0 : 0 ≤ x) (h1 : x < 65536) : bits .and .u16 x 1 = x % 2 := bits_mask .u16 16 (by decide) wr_u16 1 (by decide) x h0 (by simpa using h1)
@[simp] theorem u16_not (h0 : 0 ≤ x) (h1 : x < 65536) : bits .xor .u16 65535 x = 65535 - x := by
  obtain ⟨a, rfl⟩ := Int.eq_ofNat_of_zero_le h0
  have ha : a < 65536 := by omega
  have h2 : (65535 : Nat) ^^^ a = 65535 - a := by
   apply Nat.eq_of_testBit_eq
   intro i
   rw [Nat.testBit_xor]
   have := Nat.testBit_two_pow_sub_succ (x := a) (n := 16) (by omega) i
   rw [show 2 ^ 16 - (a + 1) = 65535 - a by omega] at this
   rw [this, show (65535 : Nat) = 2 ^ 16 - 1 from rfl, Nat.testBit_two_pow_sub_one]
   by_cases hi : i < 16
   ·simp [hi]
   ·have : a.testBit i = false := Nat.testBit_lt_two_pow (Nat.lt_of_lt_of_le ha (by
     have : 2 ^ 16 ≤ 2 ^ i := Nat.pow_le_pow_right (by decide) (by omega)
     omega))
    simp [hi, this]
  have := u16_xor_nat 65535 a (by decide) ha
  rw [h2] at this
  rw [show ((65535 : Nat) : Int) = 65535 from rfl] at this
  rw [this]
  omega
theorem or_u8 (i : Nat) (hx0 : 0 ≤ x) (hx : x % 2 ^ i = 0) (hx1 : x < 256) (hy0 : 0 ≤ y) (hy : y < 2 ^ i) (hy1 : y < 256) : bits .or .u8 x y = x + y := bits_join .u8 8 (by decide) wr_u8 i x y hx0 hx (by simpa using hx1) hy0 hy (by simpa using hy1)
theorem or_u16 (i : Nat) (hx0 : 0 ≤ x) (hx : x % 2 ^ i = 0) (hx1 : x < 65536) (hy0 : 0 ≤ y) (hy : y < 2 ^ i) (hy1 : y < 65536) : bits .or .u16 x y = x + y := bits_join .u16 16 (by decide) wr_u16 i x y hx0 hx (by simpa using hx1) hy0 hy (by simpa using hy1)
theorem or_u64 (i : Nat) (hx0 : 0 ≤ x) (hx : x % 2 ^ i = 0) (hx1 : x < 18446744073709551616) (hy0 : 0 ≤ y) (hy : y < 2 ^ i) (hy1 : y < 18446744073709551616) : bits .or .u64 x y = x + y := bits_join .u64 64 (by decide) wr_u64 i x y hx0 hx (by simpa using hx1) hy0 hy (by simpa using hy1)
theorem or_i64 (i : Nat) (hx0 : 0 ≤ x) (hx : x % 2 ^ i = 0) (hx1 : x < 9223372036854775808) (hy0 : 0 ≤ y) (hy : y < 2 ^ i) (hy1 : y < 9223372036854775808) : bits .or .i64 x y = x + y := bits_join .i64 63 (by decide) wr_i64 i x y hx0 hx (by simpa using hx1) hy0 hy (by simpa using hy1)
@[simp] theorem max_u16 : IntKind.u16.max = 65535 := by decide
@[simp] theorem max_u8 : IntKind.u8.max = 255 := by decide
@[simp] theorem max_u64 : IntKind.u64.max = 18446744073709551615 := by decide
@[simp] theorem signed_u16 : IntKind.u16.signed = false := by decide
@[simp] theorem signed_u8 : IntKind.u8.signed = false := by decide
@[simp] theorem signed_u64 : IntKind.u64.signed = false := by decide
@[simp] theorem signed_i64 : IntKind.i64.signed = true := by decide
@[simp high] theorem binT_shr_ok {k k' : IntKind} {a b : Int} (h : 0 ≤ b) : binT .shr (ti k a) (ti k' b) = some (ti k (a / (2 ^ (min b.toNat k.bits)))) := by
  rw [binT_shr, if_neg (by omega)]
@[simp high] theorem binT_shl_ok {k k' : IntKind} {a b : Int} (h : 0 ≤ b) : binT .shl (ti k a) (ti k' b) = some (ti k (k.wrap (a * 2 ^ (min b.toNat k.bits)))) := by
  rw [binT_shl, if_neg (by omega)]
end
section
variable {t : TT} {x y : Operand}
def wrQ (t : TT) (k : Nat) (c : Option Nat) (off m s : Nat) (new : List PV) : TV → Option TT
 | .own n s' cs => match c with
   | none => if s' = s ∧ off + m * s ≤ cs.length ∧ new.length ≤ m * s then some (updT t k (.own n s (cs.take off ++ new ++ cs.drop (off + new.length)))) else none
   | some _ => none
 | .box cs => match c with
   | none => if off + m * s ≤ cs.length ∧ new.length ≤ m * s ∧ cs.all isV then some (updT t k (.box (cs.take off ++ new.map .v ++ cs.drop (off + new.length)))) else none
   | some _ => none
 | _ => none
theorem wrSlc_Q {k : Nat} {c : Option Nat} {off m s : Nat} {new : List PV} : wrSlc t k c off m s new = wrQ t k c off m s new (t k) := by
 unfold wrSlc wrQ
 cases c <;> cases t k <;> rfl
def cpQ (s : Nat) (t : TT) : Option (Nat × Option Nat × Nat × Nat × Nat) → Option (Nat × List PV) → Option (TV × TT)
 | some (k, c, off, n, s'), some (m, new) => if s' = s then (wrQ t k c off n s (new.take (Nat.min m n * s)) (t k)).map fun t' => (.val (.sc (.int .i64 (Nat.min m n : Nat))), t') else none
 | _, _ => none
@[simp] theorem copyW_Q {s : Nat} : copyW s t x y = cpQ s t (plcS t x) (srcP s t y) := by
  unfold copyW cpQ
  cases plcS t x with
  | none => rfl
  | some p =>
    obtain ⟨k, c, off, n, s'⟩ := p
    cases srcP s t y with
    | none => rfl
    | some q =>
      obtain ⟨m, new⟩ := q
      simp only
      by_cases h : s' = s
      ·rw [if_pos h, if_pos h, wrSlc_Q, h]
      ·rw [if_neg h, if_neg h]
@[simp] theorem cpQ_ok {s k off n m : Nat} {c : Option Nat} {new : List PV} : cpQ s t (some (k, c, off, n, s)) (some (m, new)) = (wrQ t k c off n s (new.take (Nat.min m n * s)) (t k)).map fun t' => (.val (.sc (.int .i64 (Nat.min m n : Nat))), t') := by
  simp only [cpQ, if_true]
@[simp] theorem wrQ_own {k off m s n : Nat} {new cs : List PV} (h1 : off + m * s ≤ cs.length) (h2 : new.length ≤ m * s) : wrQ t k none off m s new (.own n s cs) = some (updT t k (.own n s (cs.take off ++ new ++ cs.drop (off + new.length)))) := by
  simp only [wrQ]; rw [if_pos ⟨trivial, h1, h2⟩]
@[simp] theorem natMin (a b : Nat) : Nat.min a b = min a b := rfl
end
section
variable {t : TT} {r : Bool} {ann : List (Nat × Nat)} {i n s : Nat} {v : TV} {lo hi : Option TV}
@[simp] theorem mvV_undef : mvV r ann t i .undef = none := rfl
@[simp] theorem binT_undefL {op : BinOp} : binT op .undef v = none := by cases v <;> rfl
@[simp] theorem binT_undefR {op : BinOp} : binT op v .undef = none := by
  unfold binT; cases v <;> first | rfl | (rename_i p; cases p <;> rfl)
@[simp] theorem bbT_undefL {op : BinOp} : bbT op .undef v = none := by
  unfold bbT; simp only [scV]; cases op <;> rfl
@[simp] theorem bbT_undefR {op : BinOp} : bbT op v .undef = none := by
  unfold bbT
  have : ∀ w, aBinB op w Go.undef = none := by intro w; cases op <;> cases w <;> rfl
  simp only [scV, this]
@[simp] theorem unT_undef {op : UnOp} : unT op .undef = none := by unfold unT; simp only [scV]; cases op <;> rfl
@[simp] theorem cvT_undef {k : IntKind} : cvT k .undef = none := rfl
@[simp] theorem csT_undef : csT .undef = none := rfl
@[simp] theorem lsT_undef : lsT .undef = none := rfl
@[simp] theorem isT_undef : isT .undef v = none := rfl
@[simp] theorem pkT_undef {w : TV} : pkT .undef v w = none := rfl
@[simp] theorem slLen_undef : slLen .undef = none := rfl
@[simp] theorem ldT_undef : ldT t i .undef = none := rfl
@[simp] theorem shT_undef : shT i n .undef = none := rfl
@[simp] theorem ixT_undefL : ixT s i .undef v = none := by unfold ixT; cases v <;> first | rfl | (rename_i p; cases p <;> first | rfl | (rename_i u; cases u <;> rfl))
@[simp] theorem ixT_undefR : ixT s i v .undef = none := rfl
@[simp] theorem plcV_undef : plcV i .undef = none := rfl
@[simp] theorem plcSV_undef : plcSV i .undef = none := rfl
@[simp] theorem slvV_undef : slvV t .undef = none := rfl
@[simp] theorem srcT_undef : srcT s t .undef = none := rfl
@[simp] theorem roQ_undef {x : Operand} : roQ t x .undef = match plcS t x with
 | some (k, c, _, _, _) => (slv t x).map fun y => (.sl y.1 y.2, some (k, c))
 | none => none := rfl
@[simp] theorem ssT_undef : ssT .undef lo hi = none := rfl
end
@[simp] theorem take_drop_len {α : Type} {l : List α} {m : Nat} : (l.drop m).take (l.length - m) = l.drop m := by
  rw [List.take_of_length_le (by rw [List.length_drop]; exact Nat.le_refl _)]
theorem bp_consI {l : List Nat} {b : Int} (h : 0 ≤ b) : PV.sc (.int .u8 b) :: bp l = bp (b.toNat :: l) := by
 show _ = PV.sc (.int .u8 ((b.toNat : Nat) : Int)) :: bp l
 rw [Int.toNat_of_nonneg h]
theorem or16 {x y : Int} (h0 : 0 ≤ x) (h1 : x < 256) (h2 : 0 ≤ y) (h3 : y < 256) : bits .or .u16 (x * 256) y = x * 256 + y := or_u16 8 (by omega) (by omega) (by omega) h2 (by omega) (by omega)
end Go.Wb
namespace Go.Wb
open Go
def zl (n : Nat) (v : Value) : List Value := List.replicate n v
def zi (n : Nat) (b : Int) : List Int := List.replicate n b
@[simp] theorem zi_len {n : Nat} {b : Int} : (zi n b).length = n := by simp [zi]
theorem zi_get {n i : Nat} : (zi n 0).getD i 0 = 0 := by
 unfold zi
 rw [List.getD_eq_getElem?_getD, List.getElem?_replicate]
 split <;> rfl
abbrev kc (k : IntKind) (l : List Int) : List CV := List.map CV.v (kp k l)
section
variable {k : IntKind} {l : List Int} {n i j : Nat} {b : Int} {ann : List (Nat × Nat)}
theorem zcv_rep : ∀ {n j : Nat}, zcv ann j (List.replicate n (.int k b)) = some (List.map CV.v (mp (fun b : Int => PV.sc (.int k b)) (List.replicate n b)))
 | 0, j => rfl
 | n + 1, j => by
   have ih := zcv_rep (n := n) (j := j + 1)
   rw [List.replicate_succ, List.replicate_succ, mp_cons, List.map_cons]
   simp only [zcv, isNilS, ih, pvC, scalar, if_true]
   rfl
@[simp] theorem zcv_zl : zcv ann j (zl n (.int k b)) = some (kc k (zi n b)) := zcv_rep
theorem pvCs_rep : ∀ {n : Nat}, pvCs (List.replicate n (.int k b)) = some (mp (fun b : Int => PV.sc (.int k b)) (List.replicate n b))
 | 0 => rfl
 | n + 1 => by
   have ih := pvCs_rep (n := n)
   rw [List.replicate_succ, List.replicate_succ, mp_cons]
   simp only [pvCs, ih, pvC, scalar, if_true]
@[simp] theorem pvCs_zl : pvCs (zl n (.int k b)) = some (kp k (zi n b)) := pvCs_rep
@[simp] theorem cellC_kc (h : i < l.length) : cellC (kc k l) i = some (.v (.sc (.int k (l.getD i 0)))) := by
  have := cellP_kp (k := k) h
  simp only [cellC, cellP] at *
  rw [List.getElem?_map, this]; rfl
@[simp] theorem kc_set : (kc k l).set n (.v (.sc (.int k b))) = kc k (l.set n b) := by
  unfold kc
  rw [← kp_set, List.map_set]
@[simp] theorem kc_len : (kc k l).length = l.length := by simp [mp]
theorem kc_allV : (kc k l).all isV = true := by
 simp [isV, List.all_eq_true]
@[simp] theorem kc_take (h : l.length ≤ n) : (kc k l).take n = kc k l := List.take_of_length_le (by simpa using h)
@[simp] theorem kc_set_all : (kc k l).any refC = false := by
  have : ∀ c ∈ kc k l, refC c = false := by
   intro c hc
   obtain ⟨p, hp, rfl⟩ := List.mem_map.1 hc
   obtain ⟨a, _, rfl⟩ := List.mem_map.1 hp
   rfl
  simpa using this
@[simp] theorem map_frzV {l : List PV} : List.map (frz ∘ CV.v) l = List.map CV.v l := by
  apply List.map_congr_left
  intro a _
  rfl
@[simp] theorem kc_drop (h : l.length ≤ n) : (kc k l).drop n = [] := List.drop_of_length_le (by simpa using h)
end
end Go.Wb

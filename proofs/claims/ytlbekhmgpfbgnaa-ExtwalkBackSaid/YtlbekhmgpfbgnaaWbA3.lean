import Derived.Test.YtlbekhmgpfbgnaaWbA2
import Derived.Scope
import Derived.OpenShut
import Derived.SizedLaws
import Derived.WalkKit
import Derived.ProofKit
import Derived.ShutString
import Derived.ChangeOld
import Derived.Below
import Derived.Carry
set_option linter.all false
namespace Go.Wb
open Go
def compileCode (P : Program) (nm : Names) (nt : Nat) : Code → Option ACode
 | .skip => some .skip
 | .label _ => some .skip
 | .region _ ops draw => match compileOps P nm nt ops ops.toList with
   | some l => if draw then (drawOk ops.toList l).map (ACode.drawn l) else some (.ops l)
   | none => none
 | .seq a b => match compileCode P nm nt a, compileCode P nm nt b with
   | some x, some y => some (.seq x y)
   | _, _ => none
 | .cond c x y => match compileCode P nm nt x, compileCode P nm nt y with
   | some x, some y => if operOk c then some (.cond c x y) else none
   | _, _ => none
 | .block id b => (compileCode P nm nt b).map (.block id)
 | .loop b => (compileCode P nm nt b).map .loop
 | .scope b => (compileCode P nm nt b).map fun x => .seq x .skip
 | .exit id => some (.exit id)
 | .ret => some .ret
 | _ => none
def compileRes (P : Program) : List ResultVar → Option (List ARes)
 | [] => some []
 | .tmp t :: l => (compileRes P l).map (.tmp t :: ·)
 | .cell a e :: l => match aggN P e, compileRes P l with
   | some n, some r => some (.cell a n :: r)
   | _, _ => none
def compileFun (P : Program) (nm : Names) (fn : Func) : Option AFun :=
 match fn.body with
 | some c => match compileCode P nm fn.ntmps c, compileRes P fn.results.toList with
   | some b, some r => some (.code r b)
   | _, _ => none
 | none => none
def exitOf : AExit → Exit
 | .normal => .normal
 | .exit id => .exit id
 | .ret => .ret
def keepNm (nm : Names) : Names := fun f => if f = keepId then some "@keep" else nm f
def KeepOf (nm : Names) (E : Env) (nm2 : Names) : Prop := nm2 = nm ∨ (nm2 = keepNm nm ∧ E "@keep" = none)
theorem KeepOf.calls {P : Program} {nm nm2 : Names} {E : Env} (hk : KeepOf nm E nm2) {n : Nat} (hc : CallsOk P nm (callN E n)) : CallsOk P nm2 (callN E n) := by
 rcases hk with rfl | ⟨rfl, he⟩
 ·exact hc
 ·refine ⟨fun nn args h v h' hx f hf => ?_, hc.2⟩
  unfold keepNm at hf
  split at hf
  ·injection hf with hf
   subst hf
   cases n with
   | zero => simp only [callN] at hx; cases hx
   | succ n => simp only [callN, he] at hx; cases hx
  ·exact hc.1 nn args h v h' hx f hf
def EnvOk (P : Program) (nm : Names) (E : Env) : Prop :=
 ∀ f n, nm f = some n → ∀ af, E n = some af → (∃ fn, P.funcs[f]? = some fn ∧ ∃ nm2, KeepOf nm E nm2 ∧ compileFun P nm2 fn = some af) ∨ (∃ g, af = .prim g ∧ ∀ args h v h', g args h = some (v, h') → CallOk P f args h v h')
def DynTab (P : Program) (nm : Names) (tbl : List (Nat × String)) : Prop :=
 ∀ e ∈ tbl, nm e.1 = some e.2 ∧ ∃ fn, P.funcs[e.1]? = some fn ∧ fn.body.isSome = true ∧ fn.name ≠ "runtime.NumGoroutine"
def DynOk (P : Program) (nm : Names) (E : Env) : Prop := E "@dyn" = none ∨ ∃ tbl, E "@dyn" = some (.dyn tbl) ∧ DynTab P nm tbl
section
variable {P : Program} {nm : Names} {nt : Nat} {call : CallF} {E : Env}
theorem ops_sound {ops : Array Oper} {Q : Exit → Act → World → Prop} (hcalls : CallsOk P nm call) : ∀ (os : List Oper) (l : List AOper) (k : Nat) (ι : Inj) (h h' : Heap) (t t' : T) (a : Act) (w : World), ops.toList.drop k = os → compileOps P nm nt ops os = some l → execOps call l t h = some (t', h') → SRel nt ι h t a w →
 (∀ ι' a' w', SRel nt ι' h' t' a' w' → Step ι h w ι' h' w' → Q .normal a' w') → wpOps P ops Q ((List.range' k os.length)) a w
 | [], l, k, ι, h, h', t, t', a, w, _, hc, hx, hs, hQ => by
   simp only [compileOps] at hc
   injection hc with hc
   subst hc
   simp only [execOps] at hx
   injection hx with hx
   injection hx with e1 e2
   subst e1 e2
   exact hQ ι a w hs (.refl hs.rel)
 | o :: os, l, k, ι, h, h', t, t', a, w, hd, hc, hx, hs, hQ => by
   simp only [compileOps] at hc
   split at hc
   ·rename_i ao r h1 h2
    injection hc with hc
    subst hc
    simp only [execOps] at hx
    split at hx
    ·rename_i t1 h1' hst
     have ho : ops[k]? = some o := by
      have := congrArg (fun l => l[0]?) hd
      simpa using this
     obtain ⟨s1, s2⟩ := oper_sound (P := P) (nm := nm) (nt := nt) (Q := Q) hcalls hs h1 hst
     have hrest : ops.toList.drop (k + 1) = os := by
      have := congrArg (List.drop 1) hd
      simpa [List.drop_drop, Nat.add_comm] using this
     rw [List.length_cons, List.range'_succ]
     simp only [wpOps, ho]
     split
     ·rename_i hw
      left
      refine Oper.wp_mono ?_ (s1 hw)
      rintro a' w' ⟨ι', g1, g2⟩
      exact ops_sound hcalls os r (k + 1) ι' _ h' _ t' a' w' hrest h2 hx g1 (fun ι2 a2 w2 q1 q2 => hQ ι2 a2 w2 q1 (g2.trans q2))
     ·rename_i hw
      obtain ⟨g1, g2⟩ := s2 (by simpa using hw)
      refine ops_sound hcalls os r (k + 1) ι _ h' _ t' _ w hrest h2 hx g1 (fun ι2 a2 w2 q1 q2 => hQ ι2 a2 w2 q1 ?_)
      rw [g2] at q2
      exact q2
    ·cases hx
   ·cases hc
theorem exists_least {p : Nat → Prop} (h : ∃ n, p n) : ∃ n, p n ∧ ∀ m, m < n → ¬ p m := by
 obtain ⟨n, hn⟩ := h
 induction n using Nat.strongRecOn with
 | _ n ih =>
   by_cases hm : ∃ m, m < n ∧ p m
   ·obtain ⟨m, h1, h2⟩ := hm
    exact ih m h1 h2
   ·exact ⟨n, hn, fun m h1 h2 => hm ⟨m, h1, h2⟩⟩
open Classical in
noncomputable def least (p : Nat → Prop) : Nat := if h : ∃ n, p n then Classical.choose (exists_least h) else 0
theorem least_spec {p : Nat → Prop} (h : ∃ n, p n) : p (least p) := by
 unfold least
 rw [dif_pos h]
 exact (Classical.choose_spec (exists_least h)).1
theorem least_le {p : Nat → Prop} {n : Nat} (h : p n) : least p ≤ n := by
 unfold least
 rw [dif_pos ⟨n, h⟩]
 rcases Nat.lt_or_ge n (Classical.choose (exists_least ⟨n, h⟩)) with h1 | h1
 ·exact absurd h ((Classical.choose_spec (exists_least ⟨n, h⟩)).2 n h1)
 ·exact h1
theorem loadVar_sound {ι : Inj} {h : Heap} {w : World} {x x' v : Value} {n : Option Nat} {e : TypeId} (hr : Rel ι h w) (ha : aggN P e = some n) (hv : readV h n x = some v) (hxr : VRel ι h.length x x') :
 ∃ A v', x' = .pointer (some A) ∧ (loadVar e A).run P w = .ok v' w ∧ VRel ι h.length v v' := by
 unfold readV at hv
 split at hv
 ·rename_i b o
  obtain ⟨hb, hp⟩ := hxr.ptr_inv
  unfold read1 at hv
  split at hv
  ·rename_i ro cs hcs
   obtain ⟨v', c1, c2, c3⟩ := rel_read hr hcs hv
   obtain ⟨i, u, hi, hu, hag⟩ := aggN_none ha
   refine ⟨_, v', hp, ?_, c2⟩
   simp only [loadVar, Sem.run_bind, run_isAgg hu, hag, Result.andThen_ok, Bool.false_eq_true, if_false]
   rw [run_load, c1]
  ·cases hv
 ·rename_i b o m
  obtain ⟨hb, hp⟩ := hxr.ptr_inv
  rw [Option.map_eq_some_iff] at hv
  obtain ⟨cs, hcs, hv⟩ := hv
  subst hv
  obtain ⟨i, u, hi, hu, hag, hsz⟩ := aggN_some ha
  obtain ⟨hl, vs', hrun, hrel, hone⟩ := rel_readN (P := P) hr hcs
  refine ⟨_, .agg vs'.toArray, hp, ?_, agg_crel hrel hone⟩
  simp only [loadVar, Sem.run_bind, run_isAgg hu, hag, Result.andThen_ok, if_true, run_size hi, hsz, hrun, Sem.run_pure]
 ·cases hv
theorem run_results {fn : Func} {rs : List ARes} {ι : Inj} {h : Heap} {t : T} {a : Act} {w : World} {v : Value} (hs : SRel nt ι h t a w) (hc : compileRes P fn.results.toList = some rs) (hv : resVal t h rs = some v) :
 ∃ v', (results fn a.tmps).run P w = .ok v' w ∧ VRel ι h.length v v' := by
 have key : ∀ (l : List ResultVar) (rs : List ARes) (vs : List Value), compileRes P l = some rs → resVals t h rs = some vs →
  ∃ vs', (l.mapM (fun | .tmp t => Pure.pure (a.tmps.getD t undef) | .cell c e => do loadVar e (← asAddr (a.tmps.getD c undef)) : ResultVar → Sem Value)).run P w = .ok vs' w ∧ CRel ι h.length vs vs' := by
  intro l
  induction l with
  | nil =>
    intro rs vs hc hv
    simp only [compileRes] at hc
    injection hc with hc
    subst hc
    simp only [resVals] at hv
    injection hv with hv
    subst hv
    exact ⟨[], by simp, rfl, fun _ => .undef⟩
  | cons r l ih =>
    intro rs vs hc hv
    cases r with
    | tmp i =>
      simp only [compileRes, Option.map_eq_some_iff] at hc
      obtain ⟨rs', hc', rfl⟩ := hc
      simp only [resVals] at hv
      split at hv
      ·rename_i vs1 hv1
       injection hv with hv
       subst hv
       obtain ⟨vs', h1, h2⟩ := ih rs' vs1 hc' hv1
       refine ⟨a.tmps.getD i undef :: vs', ?_, ?_⟩
       ·simp only [List.mapM_cons, pure_bind, Sem.run_bind, h1, Result.andThen_ok, Sem.run_pure]
       ·refine ⟨by simp [h2.1], fun j => ?_⟩
        cases j with
        | zero => simpa using hs.tmps i
        | succ j => simpa using h2.2 j
      ·cases hv
    | cell c e =>
      simp only [compileRes] at hc
      split at hc
      ·rename_i n rs' hn hc'
       injection hc with hc
       subst hc
       simp only [resVals] at hv
       split at hv
       ·rename_i v1 vs1 hr1 hv1
        injection hv with hv
        subst hv
        obtain ⟨vs', h1, h2⟩ := ih rs' vs1 hc' hv1
        obtain ⟨A, v', hA, hrun, hvr⟩ := loadVar_sound hs.rel hn hr1 (hs.tmps c)
        refine ⟨v' :: vs', ?_, ?_⟩
        ·have has : asAddr (.pointer (some A)) = Pure.pure A := rfl
         simp only [List.mapM_cons, Sem.run_bind, hA, has, Sem.run_pure, hrun, h1, Result.andThen_ok]
        ·refine ⟨by simp [h2.1], fun j => ?_⟩
         cases j with
         | zero => simpa using hvr
         | succ j => simpa using h2.2 j
       ·cases hv
      ·cases hc
 unfold resVal at hv
 unfold results
 rw [Array.mapM_eq_mapM_toList]
 simp only [Sem.run_bind, Sem.run_map]
 split at hv
 ·rename_i v1 hrs
  injection hv with hv
  subst hv
  obtain ⟨vs', h1, h2⟩ := key _ _ _ hc hrs
  match vs', h2 with
  | [u], h2 =>
    refine ⟨u, ?_, by simpa using h2.2 0⟩
    erw [h1]
    simp
  | [], h2 => have := h2.1; simp at this
  | _ :: _ :: _, h2 => have := h2.1; simp at this
 ·rename_i vs hne hrs
  injection hv with hv
  subst hv
  obtain ⟨vs', h1, h2⟩ := key _ _ _ hc hrs
  refine ⟨.tuple vs'.toArray, ?_, ?_⟩
  ·erw [h1]
   have hl : vs'.length ≠ 1 := by
    intro hl
    rw [← h2.1] at hl
    obtain ⟨u, hu⟩ := List.length_eq_one_iff.1 hl
    exact hne u hu
   simp [hl]
  ·refine .tuple _ _ (by simpa using h2.1) fun i => ?_
   have := h2.2 i
   simpa [Array.getD_eq_getD_getElem?, List.getD] using this
 ·cases hv
theorem run_sound (hm : P.follows .mixedOrders = true) (hE : EnvOk P nm E) (hD : DynOk P nm E) (hR : EnvRo E) : ∀ (n : Nat),
 (CallsOk P nm (callN E n)) ∧
 (∀ (nm2 : Names), KeepOf nm E nm2 → ∀ (nt : Nat) (c : Code) (ac : ACode) (t : T) (h : Heap) (e : AExit) (t' : T) (h' : Heap), compileCode P nm2 nt c = some ac → runN E n ac t h = some (e, t', h') → ∀ (ι : Inj) (a : Act) (w : World), SRel nt ι h t a w →
  c.wp P (fun ex a' w' => ex = exitOf e ∧ ∃ ι', SRel nt ι' h' t' a' w' ∧ Step ι h w ι' h' w') a w) := by
 intro n
 induction n with
 | zero =>
   refine ⟨⟨fun nn args h v h' hx => ?_, fun fv args h v h' hx => ?_⟩, fun nm2 hkp nt c ac t h e t' h' _ hx => ?_⟩
   ·simp only [callN] at hx; cases hx
   ·simp only [callN] at hx; cases hx
   ·simp only [runN] at hx; cases hx
 | succ n ih =>
   obtain ⟨ihc, ihr⟩ := ih
   constructor
   ·constructor
    rotate_left
    ·intro fv args h v h' hx
     simp only [callN] at hx
     rcases hD with hD | ⟨tbl, hD, hT⟩
     ·rw [hD] at hx; cases hx
     ·rw [hD] at hx
      simp only at hx
      split at hx
      ·rename_i f first caps rest he
       injection he with he1 he2
       subst he1 he2
       split at hx
       ·rename_i e hfind
        have hmem := List.mem_of_find?_eq_some hfind
        have hef : e.1 = f := by simpa using List.find?_some hfind
        obtain ⟨hnm, fn, q1, q2, q3⟩ := hT e hmem
        rw [hef] at hnm q1
        exact ⟨f, first, caps, fn, rfl, q1, q2, q3, ihc.1 _ _ _ _ _ hx f hnm⟩
       ·cases hx
      ·cases hx
    intro name args h v h' hx f hf
    simp only [callN] at hx
    split at hx
    ·cases hx
    ·rename_i g hg
     rcases hE f name hf _ hg with ⟨fn, hfn, nm2, hkp, hcf⟩ | ⟨g', hgg, hok⟩
     ·exfalso
      unfold compileFun at hcf
      split at hcf
      ·split at hcf
       ·injection hcf with hcf; cases hcf
       ·cases hcf
      ·cases hcf
     ·injection hgg with hgg
      subst hgg
      exact hok args h v h' hx
    ·rename_i tbl hb
     rcases hE f name hf _ hb with ⟨fn, hfn, nm2, hkp, hcf⟩ | ⟨g', hgg, _⟩
     ·exfalso
      unfold compileFun at hcf
      split at hcf
      ·split at hcf
       ·injection hcf with hcf; cases hcf
       ·cases hcf
      ·cases hcf
     ·cases hgg
    ·rename_i rs body hb
     rcases hE f name hf _ hb with ⟨fn, hfn, nm2, hkp, hcf⟩ | ⟨g', hgg, _⟩
     ·unfold compileFun at hcf
      split at hcf
      ·rename_i c hbody
       split at hcf
       ·rename_i b r hcb hcr
        injection hcf with hcf
        injection hcf with e1 e2
        subst e1 e2
        have fin : ∀ (ex : AExit) (t1 : T) (h1 : Heap), runN E n b (argT args) h = some (ex, t1, h1) → (ex = .ret ∨ ex = .normal) → (resVal t1 h1 r).map (fun v => (v, h1)) = some (v, h') → CallOk P f args h v h' := by
         intro ex t1 h1 hrun hex hres ι w args' hrel hargs
         rw [Option.map_eq_some_iff] at hres
         obtain ⟨v1, hv1, hres⟩ := hres
         injection hres with e1 e2
         subst e1 e2
         have hs0 : SRel fn.ntmps ι h (argT args) { tmps := args'.toArray ++ Array.replicate (fn.ntmps - args'.toArray.size) undef, defers := [] } w := by
          refine ⟨hrel, fun i => ?_, rfl, by simp; omega⟩
          have h1 := hargs.2 i
          simp only [argT]
          rcases Nat.lt_or_ge i args'.length with hi | hi
          ·have e : (args'.toArray ++ Array.replicate (fn.ntmps - args'.toArray.size) undef).getD i undef = args'.getD i undef := by
            simp [Array.getD_eq_getD_getElem?, Array.getElem?_append, hi, List.getD]
           rw [e]; exact h1
          ·have e : (args'.toArray ++ Array.replicate (fn.ntmps - args'.toArray.size) undef).getD i undef = undef := by
            rw [Array.getD_eq_getD_getElem?, Array.getElem?_append]
            simp only [List.size_toArray]
            rw [if_neg (by omega), Array.getElem?_replicate]
            split <;> rfl
           rw [e]
           have e2 : args'.getD i undef = undef := by simp [List.getD, List.getElem?_eq_none hi]
           rw [e2] at h1
           exact h1
         refine calls_of_wp hfn hbody (wp_mono (ihr nm2 hkp fn.ntmps c b _ _ _ _ _ hcb hrun ι _ w hs0) ?_)
         rintro ex' a' w' ⟨rfl, ι', hs', hst⟩
         obtain ⟨v', hr1, hr2⟩ := run_results (P := P) (fn := fn) hs' hcr hv1
         have hfin : a'.defers = [] ∧ ∃ v, (results fn a'.tmps).run P w' = .ok v w' ∧ ∃ ι'' v'', Ending.returned v = .returned v'' ∧ Step ι h w ι'' h1 w' ∧ VRel ι'' h1.length v1 v'' :=
          ⟨hs'.defers, v', hr1, ι', v', rfl, hst, hr2⟩
         rcases hex with rfl | rfl
         ·exact hfin
         ·exact hfin
        split at hx
        ·rename_i t1 h1 hrun
         exact fin _ t1 h1 hrun (.inl rfl) hx
        ·rename_i t1 h1 hrun
         exact fin _ t1 h1 hrun (.inr rfl) hx
        ·cases hx
       ·cases hcf
      ·cases hcf
     ·cases hgg
   ·intro nm2 hkp nt c ac t h e t' h' hc hx ι a w hs
    have ihc2 := hkp.calls ihc
    replace ihr := ihr nm2 hkp
    cases c with
    | skip =>
      simp only [compileCode] at hc
      injection hc with hc; subst hc
      simp only [runN] at hx
      injection hx with hx; injection hx with e1 hx; injection hx with e2 e3
      subst e1 e2 e3
      exact wp_skip ⟨rfl, ι, hs, .refl hs.rel⟩
    | label l =>
      simp only [compileCode] at hc
      injection hc with hc; subst hc
      simp only [runN] at hx
      injection hx with hx; injection hx with e1 hx; injection hx with e2 e3
      subst e1 e2 e3
      exact wp_label ⟨rfl, ι, hs, .refl hs.rel⟩
    | region id ops draw =>
      simp only [compileCode] at hc
      split at hc
      ·rename_i l hl
       split at hc
       ·rename_i hd
        subst hd
        rw [Option.map_eq_some_iff] at hc
        obtain ⟨ps, hps, hc⟩ := hc
        subst hc
        simp only [runN, Option.map_eq_some_iff] at hx
        obtain ⟨⟨t1, h1⟩, hx1, hx⟩ := hx
        injection hx with e1 hx; injection hx with e2 e3
        subst e1 e2 e3
        exact drawn_sound hm hl hps ihc2 hs hx1 (fun ι' a' w' q1 q2 => ⟨rfl, ι', q1, q2⟩)
       ·rename_i hd
        have hd : draw = false := by simpa using hd
        subst hd
        injection hc with hc; subst hc
        simp only [runN, Option.map_eq_some_iff] at hx
        obtain ⟨⟨t1, h1⟩, hx1, hx⟩ := hx
        injection hx with e1 hx; injection hx with e2 e3
        subst e1 e2 e3
        refine wp_region ?_
        have := ops_sound (P := P) (nm := nm2) (nt := nt) (ops := ops) (Q := fun ex a' w' => ex = exitOf .normal ∧ ∃ ι', SRel nt ι' h1 t1 a' w' ∧ Step ι h w ι' h1 w') ihc2 ops.toList l 0 ι h h1 t t1 a w rfl hl hx1 hs (fun ι' a' w' q1 q2 => ⟨rfl, ι', q1, q2⟩)
        rw [List.range_eq_range']
        simpa using this
      ·cases hc
    | seq x y =>
      simp only [compileCode] at hc
      split at hc
      ·rename_i ax ay hcx hcy
       injection hc with hc; subst hc
       simp only [runN] at hx
       refine wp_seq ?_
       split at hx
       ·rename_i t1 h1 hr1
        refine wp_mono (ihr nt x ax t h .normal t1 h1 hcx hr1 ι a w hs) ?_
        rintro ex a' w' ⟨rfl, ι', hs', hst⟩
        simp only [exitOf, Exit.then]
        refine wp_mono (ihr nt y ay t1 h1 e t' h' hcy hx ι' a' w' hs') ?_
        rintro ex2 a2 w2 ⟨rfl, ι2, hs2, hst2⟩
        exact ⟨rfl, ι2, hs2, hst.trans hst2⟩
       ·rename_i hne
        refine wp_mono (ihr nt x ax t h e t' h' hcx hx ι a w hs) ?_
        rintro ex a' w' ⟨rfl, ι', hs', hst⟩
        have hen : e ≠ .normal := fun he => hne t' h' (by rw [he] at hx; exact hx)
        cases e with
        | normal => exact absurd rfl hen
        | exit i => exact ⟨rfl, ι', hs', hst⟩
        | ret => exact ⟨rfl, ι', hs', hst⟩
      ·cases hc
    | cond cnd x y =>
      simp only [compileCode] at hc
      split at hc
      ·rename_i ax ay hcx hcy
       split at hc
       ·rename_i hok
        injection hc with hc; subst hc
        simp only [runN] at hx
        have hv := hs.erel cnd hok
        split at hx
        ·rename_i hb
         rw [hb] at hv
         exact wp_cond_true hv.bool_inv (ihr nt x ax t h e t' h' hcx hx ι a w hs)
        ·rename_i hb
         rw [hb] at hv
         exact wp_cond_false hv.bool_inv (ihr nt y ay t h e t' h' hcy hx ι a w hs)
        ·cases hx
       ·cases hc
      ·cases hc
    | block id b =>
      simp only [compileCode, Option.map_eq_some_iff] at hc
      obtain ⟨ab, hcb, hc⟩ := hc
      subst hc
      simp only [runN] at hx
      refine wp_block ?_
      split at hx
      ·rename_i i t1 h1 hr1
       refine wp_mono (ihr nt b ab t h (.exit i) t1 h1 hcb hr1 ι a w hs) ?_
       rintro ex a' w' ⟨rfl, ι', hs', hst⟩
       simp only [exitOf, Exit.inBlock]
       split at hx
       ·rename_i hi
        injection hx with hx; injection hx with e1 hx; injection hx with e2 e3
        subst e1 e2 e3
        rw [if_pos hi]
        exact ⟨rfl, ι', hs', hst⟩
       ·rename_i hi
        injection hx with hx; injection hx with e1 hx; injection hx with e2 e3
        subst e1 e2 e3
        rw [if_neg hi]
        exact ⟨rfl, ι', hs', hst⟩
      ·rename_i hne
       refine wp_mono (ihr nt b ab t h e t' h' hcb hx ι a w hs) ?_
       rintro ex a' w' ⟨rfl, ι', hs', hst⟩
       cases e with
       | normal => exact ⟨rfl, ι', hs', hst⟩
       | exit i => exact (hne i t' h' hx).elim
       | ret => exact ⟨rfl, ι', hs', hst⟩
    | loop b =>
      simp only [compileCode, Option.map_eq_some_iff] at hc
      obtain ⟨ab, hcb, hc⟩ := hc
      subst hc
      let J : Nat → Act → World → Prop := fun k a' w' => k ≤ n + 1 ∧ ∃ t1 h1 ι1, runN E k (.loop ab) t1 h1 = some (e, t', h') ∧ SRel nt ι1 h1 t1 a' w' ∧ Step ι h w ι1 h1 w'
      refine wp_loop (fun a' w' => ∃ k, J k a' w') (fun a' w' => least fun k => J k a' w') ⟨n + 1, Nat.le_refl _, t, h, ι, hx, hs, .refl hs.rel⟩ ?_
      intro a1 w1 hI
      have hJ := least_spec hI
      generalize hk : least (fun k => J k a1 w1) = k at hJ
      obtain ⟨hkn, t1, h1, ι1, hr1, hs1, hst1⟩ := hJ
      cases k with
      | zero => simp only [runN] at hr1; cases hr1
      | succ k =>
        simp only [runN] at hr1
        have hbody : ∀ e2 t2 h2, runN E k ab t1 h1 = some (e2, t2, h2) → b.wp P (fun ex a' w' => ex = exitOf e2 ∧ ∃ ι', SRel nt ι' h2 t2 a' w' ∧ Step ι1 h1 w1 ι' h2 w') a1 w1 := by
         intro e2 t2 h2 hr2
         exact ihr nt b ab t1 h1 e2 t2 h2 hcb (runN_le (by omega) hr2) ι1 a1 w1 hs1
        split at hr1
        ·rename_i t2 h2 hr2
         refine wp_mono (hbody .normal t2 h2 hr2) ?_
         rintro ex a' w' ⟨rfl, ι', hs', hst'⟩
         simp only [exitOf, Exit.then]
         have hJ' : J k a' w' := ⟨by omega, t2, h2, ι', hr1, hs', hst1.trans hst'⟩
         exact ⟨⟨k, hJ'⟩, Nat.lt_of_le_of_lt (least_le hJ') (by omega)⟩
        ·rename_i hne
         refine wp_mono (hbody e t' h' hr1) ?_
         rintro ex a' w' ⟨rfl, ι', hs', hst'⟩
         cases e with
         | normal => exact (hne t' h' hr1).elim
         | exit i => exact ⟨rfl, ι', hs', hst1.trans hst'⟩
         | ret => exact ⟨rfl, ι', hs', hst1.trans hst'⟩
    | exit id =>
      simp only [compileCode] at hc
      injection hc with hc; subst hc
      simp only [runN] at hx
      injection hx with hx; injection hx with e1 hx; injection hx with e2 e3
      subst e1 e2 e3
      exact wp_exit ⟨rfl, ι, hs, .refl hs.rel⟩
    | ret =>
      simp only [compileCode] at hc
      injection hc with hc; subst hc
      simp only [runN] at hx
      injection hx with hx; injection hx with e1 hx; injection hx with e2 e3
      subst e1 e2 e3
      exact wp_ret ⟨rfl, ι, hs, .refl hs.rel⟩
    | rangeFunc f ps as b => simp only [compileCode] at hc; cases hc
    | scope b =>
      simp only [compileCode, Option.map_eq_some_iff] at hc
      obtain ⟨ab, hcb, hc⟩ := hc
      subst hc
      simp only [runN] at hx
      refine wp_scope_straight ?_
      split at hx
      ·rename_i t1 h1 hr1
       refine wp_mono (ihr nt b ab t h .normal t1 h1 hcb hr1 ι a w hs) ?_
       rintro ex a' w' ⟨rfl, ι', hs', hst⟩
       cases n with
       | zero => simp only [runN] at hx; cases hx
       | succ n =>
         simp only [runN] at hx
         injection hx with hx; injection hx with e1 hx; injection hx with e2 e3
         subst e1 e2 e3
         exact ⟨rfl, ι', hs', hst⟩
      ·rename_i hne
       refine wp_mono (ihr nt b ab t h e t' h' hcb hx ι a w hs) ?_
       rintro ex a' w' ⟨rfl, ι', hs', hst⟩
       cases e with
       | normal => exact (hne t' h' hx).elim
       | exit i => exact ⟨rfl, ι', hs', hst⟩
       | ret => exact ⟨rfl, ι', hs', hst⟩
    | goto l => simp only [compileCode] at hc; cases hc
    | refuse why => simp only [compileCode] at hc; cases hc
end
end Go.Wb
namespace Go.Wb
open Go
open Classical in
noncomputable def callA (E : Env) : CallF := fun f args h => if hx : ∃ n r, callN E n f args h = some r then some (Classical.choose (Classical.choose_spec hx)) else none
open Classical in
noncomputable def runA (E : Env) (c : ACode) (t : T) (h : Heap) : Option (AExit × T × Heap) := if hx : ∃ n r, runN E n c t h = some r then some (Classical.choose (Classical.choose_spec hx)) else none
section
variable {E : Env}
theorem callA_iff {f : String} {args : List Value} {h : Heap} {r : Value × Heap} : callA E f args h = some r ↔ ∃ n, callN E n f args h = some r := by
 unfold callA
 constructor
 ·intro hx
  split at hx
  ·rename_i hex
   have := Classical.choose_spec (Classical.choose_spec hex)
   injection hx with hx
   rw [hx] at this
   exact ⟨_, this⟩
  ·cases hx
 ·rintro ⟨n, hn⟩
  have hex : ∃ n r, callN E n f args h = some r := ⟨n, r, hn⟩
  rw [dif_pos hex]
  have h1 := Classical.choose_spec (Classical.choose_spec hex)
  have h2 := callN_le (Nat.le_max_left n (Classical.choose hex)) hn
  have h3 := callN_le (Nat.le_max_right n (Classical.choose hex)) h1
  rw [h2] at h3
  injection h3 with h3
  rw [← h3]
theorem runA_iff {c : ACode} {t : T} {h : Heap} {r : AExit × T × Heap} : runA E c t h = some r ↔ ∃ n, runN E n c t h = some r := by
 unfold runA
 constructor
 ·intro hx
  split at hx
  ·rename_i hex
   have := Classical.choose_spec (Classical.choose_spec hex)
   injection hx with hx
   rw [hx] at this
   exact ⟨_, this⟩
  ·cases hx
 ·rintro ⟨n, hn⟩
  have hex : ∃ n r, runN E n c t h = some r := ⟨n, r, hn⟩
  rw [dif_pos hex]
  have h1 := Classical.choose_spec (Classical.choose_spec hex)
  have h2 := runN_le (Nat.le_max_left n (Classical.choose hex)) hn
  have h3 := runN_le (Nat.le_max_right n (Classical.choose hex)) h1
  rw [h2] at h3
  injection h3 with h3
  rw [← h3]
theorem callN_A (n : Nat) : LeC (callN E n) (callA E) := fun _ _ _ _ hx => callA_iff.2 ⟨n, hx⟩
theorem opt_ext {α : Type} {x y : Option α} (h : ∀ r, x = some r ↔ y = some r) : x = y := by
 cases x with
 | none => cases y with
   | none => rfl
   | some b => exact absurd ((h b).2 rfl) (by simp)
 | some a => exact ((h a).1 rfl).symm
theorem evalA_fin {o : AOp} {t : T} {h : Heap} {r : Value × Heap} (hx : evalA (callA E) o t h = some r) : ∃ n, evalA (callN E n) o t h = some r := by
 cases o <;> first | exact ⟨0, hx⟩ | exact callA_iff.1 hx
theorem stepA_fin {o : AOper} {t : T} {h : Heap} {r : T × Heap} (hx : stepA (callA E) o t h = some r) : ∃ n, stepA (callN E n) o t h = some r := by
 unfold stepA at hx
 split at hx
 ·rename_i hw
  split at hx
  ·rename_i v h1 hev
   obtain ⟨n, hn⟩ := evalA_fin hev
   exact ⟨n, by unfold stepA; rw [if_pos hw, hn]; exact hx⟩
  ·cases hx
 ·rename_i hw
  exact ⟨0, by unfold stepA; rw [if_neg hw]; exact hx⟩
theorem execOps_fin : ∀ {l : List AOper} {t : T} {h : Heap} {r : T × Heap}, execOps (callA E) l t h = some r → ∃ n, execOps (callN E n) l t h = some r
 | [], _, _, _, hx => ⟨0, hx⟩
 | o :: l, t, h, r, hx => by
   simp only [execOps] at hx
   split at hx
   ·rename_i t1 h1 hst
    obtain ⟨n, hn⟩ := stepA_fin hst
    obtain ⟨m, hm⟩ := execOps_fin hx
    refine ⟨max n m, ?_⟩
    simp only [execOps]
    rw [stepA_mono (callN_leC (Nat.le_max_left n m)) hn]
    exact execOps_mono (callN_leC (Nat.le_max_right n m)) hm
   ·cases hx
theorem execLog_fin : ∀ {l : List AOper} {t : T} {h : Heap} {r : T × Heap × List Heap × List LoadRec}, execLog (callA E) l t h = some r → ∃ n, execLog (callN E n) l t h = some r
 | [], _, _, _, hx => ⟨0, hx⟩
 | o :: l, t, h, r, hx => by
   simp only [execLog] at hx
   split at hx
   ·rename_i t1 h1 hst
    split at hx
    ·rename_i t2 h2 G L hr
     obtain ⟨n, hn⟩ := stepA_fin hst
     obtain ⟨m, hm⟩ := execLog_fin hr
     refine ⟨max n m, ?_⟩
     simp only [execLog]
     rw [stepA_mono (callN_leC (Nat.le_max_left n m)) hn]
     simp only
     rw [execLog_mono (callN_leC (Nat.le_max_right n m)) hm]
     exact hx
    ·cases hx
   ·cases hx
theorem execDrawn_fin {l : List AOper} {ps : List (Nat × Nat)} {t : T} {h : Heap} {r : T × Heap} (hx : execDrawn (callA E) l ps t h = some r) : ∃ n, execDrawn (callN E n) l ps t h = some r := by
 unfold execDrawn at hx
 split at hx
 ·rename_i t1 h1 G L hr
  obtain ⟨n, hn⟩ := execLog_fin hr
  exact ⟨n, by unfold execDrawn; rw [hn]; exact hx⟩
 ·cases hx
theorem runA_ops {l : List AOper} {t : T} {h : Heap} : runA E (.ops l) t h = (execOps (callA E) l t h).map fun x => (.normal, x.1, x.2) := by
 apply opt_ext
 intro r
 rw [runA_iff]
 constructor
 ·rintro ⟨n, hn⟩
  cases n with
  | zero => simp only [runN] at hn; cases hn
  | succ n =>
    rw [runN_ops, Option.map_eq_some_iff] at hn
    obtain ⟨x, hx, hn⟩ := hn
    rw [execOps_mono (callN_A n) hx]
    simp [hn]
 ·intro hx
  rw [Option.map_eq_some_iff] at hx
  obtain ⟨x, hx, hr⟩ := hx
  obtain ⟨n, hn⟩ := execOps_fin hx
  exact ⟨n + 1, by rw [runN_ops, hn]; simp [hr]⟩
theorem runA_drawn {l : List AOper} {ps : List (Nat × Nat)} {t : T} {h : Heap} : runA E (.drawn l ps) t h = (execDrawn (callA E) l ps t h).map fun x => (.normal, x.1, x.2) := by
 apply opt_ext
 intro r
 rw [runA_iff]
 constructor
 ·rintro ⟨n, hn⟩
  cases n with
  | zero => simp only [runN] at hn; cases hn
  | succ n =>
    rw [runN_drawn, Option.map_eq_some_iff] at hn
    obtain ⟨x, hx, hn⟩ := hn
    rw [execDrawn_mono (callN_A n) hx]
    simp [hn]
 ·intro hx
  rw [Option.map_eq_some_iff] at hx
  obtain ⟨x, hx, hr⟩ := hx
  obtain ⟨n, hn⟩ := execDrawn_fin hx
  exact ⟨n + 1, by rw [runN_drawn, hn]; simp [hr]⟩
theorem runA_skip {t : T} {h : Heap} : runA E .skip t h = some (.normal, t, h) := runA_iff.2 ⟨1, by rw [runN_skip]⟩
theorem runA_exit {id : Nat} {t : T} {h : Heap} : runA E (.exit id) t h = some (.exit id, t, h) := runA_iff.2 ⟨1, by rw [runN_exit]⟩
theorem runA_ret {t : T} {h : Heap} : runA E .ret t h = some (.ret, t, h) := runA_iff.2 ⟨1, by rw [runN_ret]⟩
theorem runA_seq {a b : ACode} {t : T} {h : Heap} : runA E (.seq a b) t h = match runA E a t h with
 | some (.normal, t', h') => runA E b t' h'
 | r => r := by
 apply opt_ext
 intro r
 rw [runA_iff]
 constructor
 ·rintro ⟨n, hn⟩
  cases n with
  | zero => simp only [runN] at hn; cases hn
  | succ n =>
    rw [runN_seq] at hn
    split at hn
    ·rename_i t1 h1 h2
     rw [runA_iff.2 ⟨n, h2⟩]
     exact runA_iff.2 ⟨n, hn⟩
    ·rename_i hne
     rw [runA_iff.2 ⟨n, hn⟩]
     split
     ·rename_i t1 h1 he
      exact (hne t1 h1 (by rw [hn]; exact he)).elim
     ·rfl
 ·intro hx
  split at hx
  ·rename_i t1 h1 h2
   obtain ⟨n, hn⟩ := runA_iff.1 h2
   obtain ⟨m, hm⟩ := runA_iff.1 hx
   refine ⟨max n m + 1, ?_⟩
   rw [runN_seq, runN_le (Nat.le_max_left n m) hn]
   exact runN_le (Nat.le_max_right n m) hm
  ·rename_i hne
   obtain ⟨n, hn⟩ := runA_iff.1 hx
   refine ⟨n + 1, ?_⟩
   rw [runN_seq, hn]
   split
   ·rename_i t1 h1 he
    injection he with he
    exact (hne t1 h1 (by rw [hx, he])).elim
   ·rfl
theorem runA_cond {c : Operand} {x y : ACode} {t : T} {h : Heap} : runA E (.cond c x y) t h = match Ev t c with
 | .bool true => runA E x t h
 | .bool false => runA E y t h
 | _ => none := by
 apply opt_ext
 intro r
 rw [runA_iff]
 constructor
 ·rintro ⟨n, hn⟩
  cases n with
  | zero => simp only [runN] at hn; cases hn
  | succ n =>
    rw [runN_cond] at hn
    split at hn
    ·rename_i hb
     (try rw [hb])
     exact runA_iff.2 ⟨n, hn⟩
    ·rename_i hb
     (try rw [hb])
     exact runA_iff.2 ⟨n, hn⟩
    ·cases hn
 ·intro hx
  split at hx
  ·rename_i hb
   obtain ⟨n, hn⟩ := runA_iff.1 hx
   exact ⟨n + 1, by rw [runN_cond, hb]; exact hn⟩
  ·rename_i hb
   obtain ⟨n, hn⟩ := runA_iff.1 hx
   exact ⟨n + 1, by rw [runN_cond, hb]; exact hn⟩
  ·cases hx
theorem runA_block {id : Nat} {b : ACode} {t : T} {h : Heap} : runA E (.block id b) t h = match runA E b t h with
 | some (.exit i, t', h') => if i = id then some (.normal, t', h') else some (.exit i, t', h')
 | r => r := by
 apply opt_ext
 intro r
 rw [runA_iff]
 constructor
 ·rintro ⟨n, hn⟩
  cases n with
  | zero => simp only [runN] at hn; cases hn
  | succ n =>
    rw [runN_block] at hn
    split at hn
    ·rename_i i t1 h1 h2
     rw [runA_iff.2 ⟨n, h2⟩]
     exact hn
    ·rename_i hne
     rw [runA_iff.2 ⟨n, hn⟩]
     split
     ·rename_i i t1 h1 he
      exact (hne i t1 h1 (by rw [hn]; exact he)).elim
     ·rfl
 ·intro hx
  split at hx
  ·rename_i i t1 h1 h2
   obtain ⟨n, hn⟩ := runA_iff.1 h2
   exact ⟨n + 1, by rw [runN_block, hn]; exact hx⟩
  ·rename_i hne
   obtain ⟨n, hn⟩ := runA_iff.1 hx
   refine ⟨n + 1, ?_⟩
   rw [runN_block, hn]
   split
   ·rename_i i t1 h1 he
    injection he with he
    exact (hne i t1 h1 (by rw [hx, he])).elim
   ·rfl
theorem runA_loop {b : ACode} {t : T} {h : Heap} : runA E (.loop b) t h = match runA E b t h with
 | some (.normal, t', h') => runA E (.loop b) t' h'
 | r => r := by
 apply opt_ext
 intro r
 rw [runA_iff]
 constructor
 ·rintro ⟨n, hn⟩
  cases n with
  | zero => simp only [runN] at hn; cases hn
  | succ n =>
    rw [runN_loop] at hn
    split at hn
    ·rename_i t1 h1 h2
     rw [runA_iff.2 ⟨n, h2⟩]
     exact runA_iff.2 ⟨n, hn⟩
    ·rename_i hne
     rw [runA_iff.2 ⟨n, hn⟩]
     split
     ·rename_i t1 h1 he
      exact (hne t1 h1 (by rw [hn]; exact he)).elim
     ·rfl
 ·intro hx
  split at hx
  ·rename_i t1 h1 h2
   obtain ⟨n, hn⟩ := runA_iff.1 h2
   obtain ⟨m, hm⟩ := runA_iff.1 hx
   refine ⟨max n m + 1, ?_⟩
   rw [runN_loop, runN_le (Nat.le_max_left n m) hn]
   exact runN_le (Nat.le_max_right n m) hm
  ·rename_i hne
   obtain ⟨n, hn⟩ := runA_iff.1 hx
   refine ⟨n + 1, ?_⟩
   rw [runN_loop, hn]
   split
   ·rename_i t1 h1 he
    injection he with he
    exact (hne t1 h1 (by rw [hx, he])).elim
   ·rfl
def leave (res : List ARes) : Option (AExit × T × Heap) → Option (Value × Heap)
 | some (.ret, t, h) => (resVal t h res).map fun v => (v, h)
 | some (.normal, t, h) => (resVal t h res).map fun v => (v, h)
 | _ => none
theorem callA_code {f : String} {res : List ARes} {body : ACode} {args : List Value} {h : Heap} (hE : E f = some (.code res body)) : callA E f args h = leave res (runA E body (argT args) h) := by
 apply opt_ext
 intro r
 rw [callA_iff]
 constructor
 ·rintro ⟨n, hn⟩
  cases n with
  | zero => simp only [callN] at hn; cases hn
  | succ n =>
    simp only [callN, hE] at hn
    split at hn
    ·rename_i t1 h1 h2
     rw [runA_iff.2 ⟨n, h2⟩]
     exact hn
    ·rename_i t1 h1 h2
     rw [runA_iff.2 ⟨n, h2⟩]
     exact hn
    ·cases hn
 ·intro hx
  unfold leave at hx
  split at hx
  ·rename_i t1 h1 h2
   obtain ⟨n, hn⟩ := runA_iff.1 h2
   exact ⟨n + 1, by simp only [callN, hE, hn]; exact hx⟩
  ·rename_i t1 h1 h2
   obtain ⟨n, hn⟩ := runA_iff.1 h2
   exact ⟨n + 1, by simp only [callN, hE, hn]; exact hx⟩
  ·cases hx
theorem callA_prim {f : String} {g : List Value → Heap → Option (Value × Heap)} {args : List Value} {h : Heap} (hE : E f = some (.prim g)) : callA E f args h = g args h := by
 apply opt_ext
 intro r
 rw [callA_iff]
 constructor
 ·rintro ⟨n, hn⟩
  cases n with
  | zero => simp only [callN] at hn; cases hn
  | succ n => simp only [callN, hE] at hn; exact hn
 ·intro hx
  exact ⟨1, by simp only [callN, hE]; exact hx⟩
theorem callA_dyn {tbl : List (Nat × String)} {f : Nat} {first caps : Array Value} {rest : List Value} {h : Heap} {e : Nat × String} (hE : E "@dyn" = some (.dyn tbl)) (he : tbl.find? (fun e => e.1 == f) = some e) :
 callA E "@dyn" (.func (.func f) first caps :: rest) h = callA E e.2 (first.toList ++ rest ++ caps.toList) h := by
 apply opt_ext
 intro r
 rw [callA_iff, callA_iff]
 constructor
 ·rintro ⟨n, hn⟩
  cases n with
  | zero => simp only [callN] at hn; cases hn
  | succ n =>
    simp only [callN, hE, he] at hn
    exact ⟨n, hn⟩
 ·rintro ⟨n, hn⟩
  exact ⟨n + 1, by simp only [callN, hE, he]; exact hn⟩
theorem calls_sound {P : Program} {nm : Names} (hm : P.follows .mixedOrders = true) (hE : EnvOk P nm E) (hD : DynOk P nm E) (hR : EnvRo E) : CallsOk P nm (callA E) := by
 refine ⟨?_, fun fv args h v h' hx => by
  obtain ⟨k, hk⟩ := callA_iff.1 hx
  exact (run_sound hm hE hD hR k).1.2 fv args h v h' hk⟩
 intro n args h v h' hx f hf
 obtain ⟨k, hk⟩ := callA_iff.1 hx
 exact (run_sound hm hE hD hR k).1.1 n args h v h' hk f hf
end
end Go.Wb
namespace Go.Wb
open Go
inductive Ty where
 | int (k : IntKind)
 | bool
 | str
 | arr (n : Nat) (e : Ty)
 | st (fs : List Ty)
 | sl (size bytes : Nat) (e : Ty)
def fieldsTy (P : Program) (rec : TypeId → Option Ty) : Nat → List Field → Option (List Ty)
 | _, [] => some []
 | off, f :: fs =>
   if f.offset = off then
    match rec f.type, fieldsTy P rec (off + P.cellsOf f.type) fs with
    | some ty, some l => some (ty :: l)
    | _, _ => none
   else none
def fieldsEnd (P : Program) : Nat → List Field → Nat
 | off, [] => off
 | off, f :: fs => fieldsEnd P (off + P.cellsOf f.type) fs
def tyOf (P : Program) : Nat → TypeId → Option Ty
 | 0, _ => none
 | d + 1, t =>
   match P.underlying t with
   | some .bool => some .bool
   | some (.int k) => some (.int k)
   | some .string => some .str
   | some (.struct fs) => if fieldsEnd P 0 fs.toList = P.cellsOf t then (fieldsTy P (tyOf P d) 0 fs.toList).map .st else none
   | some (.array n e) => if P.cellsOf t = n * P.cellsOf e then (tyOf P d e).map (.arr n) else none
   | some (.slice e) => if 1 ≤ P.cellsOf e then (tyOf P d e).map (.sl (P.cellsOf e) (P.bytesOf e)) else none
   | _ => none
def reach : Nat := reachBytes
mutual
def bulkW {H : Type} : DataW H → Nat
 | .lit (.string bytes) => bytes.length + 1
 | .lit _ => 1
 | .nil => 1
 | .ptr d => bulkW d + 1
 | .slice elems spare => bulkWs elems + bulkWs spare + 1
 | .agg parts => bulkWs parts + 1
 | .iface _ d => bulkW d + 1
 | .map entries => bulkWe entries + 1
 | .held _ => 1
def bulkWs {H : Type} : List (DataW H) → Nat
 | [] => 0
 | d :: r => bulkW d + bulkWs r
def bulkWe {H : Type} : List (Lit × DataW H) → Nat
 | [] => 0
 | x :: r => bulkWx x + bulkWe r
def bulkWx {H : Type} : Lit × DataW H → Nat
 | (.string bytes, d) => bytes.length + bulkW d + 1
 | (_, d) => bulkW d + 1
end
theorem bulk_pos {H : Type} (d : DataW H) : 1 ≤ bulkW d := by
 cases d with
 | lit l => cases l <;> simp [bulkW]
 | _ => simp [bulkW]
theorem bulk_len {H : Type} : ∀ (l : List (DataW H)), l.length ≤ bulkWs l
 | [] => by simp [bulkWs]
 | d :: l => by
   have h1 := bulk_pos d
   have h2 := bulk_len l
   simp only [bulkWs, List.length_cons]
   omega
theorem bulk_part {H : Type} {d : DataW H} : ∀ {l : List (DataW H)}, d ∈ l → bulkW d ≤ bulkWs l
 | x :: l, h => by
   simp only [bulkWs]
   cases h with
   | head => omega
   | tail _ h => have := bulk_part h; omega
section
variable (B : Nat)
mutual
def AOk : Ty → Heap → List Value → Prop
 | .int k, _, cs => ∃ n, cs = [.int k n] ∧ (Lit.int k n).wf = true
 | .bool, _, cs => ∃ b, cs = [.bool b]
 | .str, _, cs => ∃ s : ByteArray, cs = [.string s] ∧ s.size ≤ reach ∧ s.size ≤ B
 | .arr n e, h, cs => ∃ rows : List (List Value), rows.length = n ∧ cs = rows.flatten ∧ ∀ r ∈ rows, AOk e h r
 | .st fs, h, cs => AOks fs h cs
 | .sl s bytes e, h, cs => cs = [.slice none 0 0] ∨ ∃ (b : Nat) (rows : List (List Value)), cs = [.slice (some ⟨b, 0, none⟩) rows.length s] ∧ 1 ≤ s ∧ h[b]? = some (Blk.mem true rows.flatten) ∧ rows.length * bytes ≤ reach ∧ rows.length ≤ B ∧ ∀ r ∈ rows, r.length = s ∧ AOk e h r
def AOks : List Ty → Heap → List Value → Prop
 | [], _, cs => cs = []
 | t :: ts, h, cs => ∃ a b, cs = a ++ b ∧ AOk t h a ∧ AOks ts h b
end
end
theorem get_append {h x : Heap} {b : Nat} {y : Blk} (hb : h[b]? = some y) : (h ++ x)[b]? = some y := by
 rw [List.getElem?_append_left (get_lt hb)]
 exact hb
mutual
theorem AOk.mono {B : Nat} {h x : Heap} : ∀ {ty : Ty} {cs : List Value}, AOk B ty h cs → AOk B ty (h ++ x) cs
 | .int k, _, hh => by simpa only [AOk] using hh
 | .bool, _, hh => by simpa only [AOk] using hh
 | .str, _, hh => by simpa only [AOk] using hh
 | .arr n e, _, hh => by
   simp only [AOk] at hh ⊢
   obtain ⟨rows, h1, h2, h3⟩ := hh
   exact ⟨rows, h1, h2, fun r hr => (h3 r hr).mono⟩
 | .st fs, _, hh => by
   simp only [AOk] at hh ⊢
   exact AOks.mono hh
 | .sl s bytes e, _, hh => by
   simp only [AOk] at hh ⊢
   rcases hh with hh | ⟨b, rows, h1, h2, h3, h4, h4', h5⟩
   ·exact .inl hh
   ·exact .inr ⟨b, rows, h1, h2, get_append h3, h4, h4', fun r hr => ⟨(h5 r hr).1, (h5 r hr).2.mono⟩⟩
theorem AOks.mono {B : Nat} {h x : Heap} : ∀ {ts : List Ty} {cs : List Value}, AOks B ts h cs → AOks B ts (h ++ x) cs
 | [], _, hh => by simpa only [AOks] using hh
 | t :: ts, _, hh => by
   simp only [AOks] at hh ⊢
   obtain ⟨a, b, h1, h2, h3⟩ := hh
   exact ⟨a, b, h1, h2.mono, AOks.mono h3⟩
end
structure RO (w : World) (ι : Inj) (h : Heap) (ι' : Inj) (h' : Heap) : Prop where
 ext : ∃ x, h' = h ++ x
 agree : ∀ b, b < h.length → ι' b = ι b
 rel : Rel ι' h' w
 ro : ∀ (b : Nat) (cs : List Value), h'[b]? = some (Blk.mem false cs) → h[b]? = some (Blk.mem false cs)
theorem RO.refl {w : World} {ι : Inj} {h : Heap} (hr : Rel ι h w) : RO w ι h ι h := ⟨⟨[], by simp⟩, fun _ _ => rfl, hr, fun _ _ hb => hb⟩
theorem RO.trans {w : World} {ι ι1 ι2 : Inj} {h h1 h2 : Heap} (a : RO w ι h ι1 h1) (b : RO w ι1 h1 ι2 h2) : RO w ι h ι2 h2 := by
 obtain ⟨x, rfl⟩ := a.ext
 obtain ⟨y, rfl⟩ := b.ext
 refine ⟨⟨x ++ y, by simp⟩, fun c hc => ?_, b.rel, fun c cs hc => a.ro c cs (b.ro c cs hc)⟩
 rw [b.agree c (by simp; omega), a.agree c hc]
theorem RO.len {w : World} {ι ι1 : Inj} {h h1 : Heap} (a : RO w ι h ι1 h1) : h.length ≤ h1.length := by
 obtain ⟨x, rfl⟩ := a.ext
 simp
theorem RO.crel {w : World} {ι ι1 : Inj} {h h1 : Heap} (a : RO w ι h ι1 h1) {l l' : List Value} (hc : CRel ι h.length l l') : CRel ι1 h1.length l l' :=
 hc.mono a.agree a.len
theorem ro_block {w : World} {ι : Inj} {h : Heap} (hr : Rel ι h w) (cs cs' : List Value) (B off size : Nat) (hc : CRel ι h.length cs cs') (h1 : ∀ v ∈ cs', v.oneCell' = true) (hcell : ∀ i, i < cs.length → w.cell? ⟨B, off + i, none⟩ = some (cs'.getD i undef))
 (hs : off + cs.length ≤ size) (hne : ∀ (b : Nat) (cs0 : List Value), h[b]? = some (Blk.mem false cs0) → (ι b).blk ≠ B) : RO w ι h (ι.set h.length ⟨B, off, size⟩) (h ++ [Blk.mem true cs]) := by
 have hold : ∀ b, b < h.length → ι.set h.length ⟨B, off, size⟩ b = ι b := fun b hb => Inj.set_other (by omega)
 have look : ∀ (b : Nat) (ro : Bool) (c : List Value), (h ++ [Blk.mem true cs])[b]? = some (Blk.mem ro c) → (b < h.length ∧ h[b]? = some (Blk.mem ro c)) ∨ (b = h.length ∧ ro = true ∧ c = cs) := by
  intro b ro c hb
  rw [List.getElem?_append] at hb
  split at hb
  ·rename_i hlt
   exact .inl ⟨hlt, hb⟩
  ·rename_i hge
   rcases Nat.eq_or_lt_of_le (Nat.le_of_not_lt hge) with heq | hgt
   ·rw [← heq] at hb
    simp only [Nat.sub_self, List.getElem?_cons_zero] at hb
    injection hb with hb
    injection hb with e1 e2
    exact .inr ⟨heq.symm, e1.symm, e2.symm⟩
   ·rw [List.getElem?_eq_none (by simp; omega)] at hb
    cases hb
 refine ⟨⟨_, rfl⟩, hold, ⟨?_, ?_, ?_, ?_, ?_⟩, ?_⟩
 ·intro b ro c hb i hi
  rcases look b ro c hb with ⟨hlt, hb'⟩ | ⟨heq, _, hc'⟩
  ·obtain ⟨v', q1, q2, q3⟩ := hr.cell b ro c hb' i hi
   refine ⟨v', by rw [hold b hlt]; exact q1, q2.mono (fun x hx => hold x hx) (by simp), q3⟩
  ·subst heq hc'
   rw [Inj.set_same]
   refine ⟨_, hcell i hi, (hc.2 i).mono (fun x hx => hold x hx) (by simp), ?_⟩
   have hi' : i < cs'.length := by rw [← hc.1]; exact hi
   rw [getD_eq (List.getElem?_eq_getElem hi')]
   exact h1 _ (List.getElem_mem hi')
 ·intro b ro c hb hz
  rcases look b ro c hb with ⟨hlt, hb'⟩ | ⟨heq, hro, hc'⟩
  ·rw [hold b hlt]; exact hr.inside b ro c hb' hz
  ·subst heq hc' hro
   rw [Inj.set_same]
   have hz : c ≠ [] := by simpa using hz
   have := hcell 0 (List.length_pos_iff.2 hz)
   exact World.block_lt_of_cell? w _ this
 ·intro b ro c hb
  rcases look b ro c hb with ⟨hlt, hb'⟩ | ⟨heq, _, hc'⟩
  ·rw [hold b hlt]; exact hr.fits b ro c hb'
  ·subst heq hc'
   rw [Inj.set_same]
   exact hs
 ·intro b c hb
  rcases look b false c hb with ⟨hlt, hb'⟩ | ⟨_, hro, _⟩
  ·rw [hold b hlt]; exact hr.own b c hb'
  ·cases hro
 ·intro b b' c ro c' hb hb' hn hz
  rcases look b false c hb with ⟨hlt, hb1⟩ | ⟨_, hro, _⟩
  ·rcases look b' ro c' hb' with ⟨hlt', hb1'⟩ | ⟨heq, _, _⟩
   ·rw [hold b hlt, hold b' hlt']
    exact hr.apart b b' c ro c' hb1 hb1' hn hz
   ·subst heq
    rw [hold b hlt, Inj.set_same]
    exact hne b c hb1
  ·cases hro
 ·intro b c hb
  rcases look b false c hb with ⟨_, hb'⟩ | ⟨_, hro, _⟩
  ·exact hb'
  ·cases hro
def Opens (B : Nat) (w : World) (ty : Ty) (cs : List Value) : Prop :=
 ∀ ι h, Rel ι h w → (∀ (b : Nat) (c : List Value), h[b]? = some (Blk.mem false c) → False) → ∃ (ι' : Inj) (h' : Heap) (acs : List Value), RO w ι h ι' h' ∧ CRel ι' h'.length acs cs ∧ AOk B ty h' acs ∧ ∀ v ∈ cs, v.oneCell' = true
theorem opens_rows {B : Nat} {w : World} {ty : Ty} : ∀ (css : List (List Value)), (∀ cs ∈ css, Opens B w ty cs) → ∀ ι h, Rel ι h w → (∀ (b : Nat) (c : List Value), h[b]? = some (Blk.mem false c) → False) →
 ∃ (ι' : Inj) (h' : Heap) (rows : List (List Value)), RO w ι h ι' h' ∧ rows.map List.length = css.map List.length ∧ CRel ι' h'.length rows.flatten css.flatten ∧ (∀ r ∈ rows, AOk B ty h' r) ∧ ∀ cs ∈ css, ∀ v ∈ cs, v.oneCell' = true
 | [], _, ι, h, hr, _ => ⟨ι, h, [], .refl hr, rfl, ⟨rfl, fun _ => .undef⟩, by simp, by simp⟩
 | cs :: css, hall, ι, h, hr, hno => by
   obtain ⟨ι1, h1, acs, r1, c1, a1, o1⟩ := hall cs (by simp) ι h hr hno
   obtain ⟨ι2, h2, rows, r2, e2, c2, a2, o2⟩ := opens_rows css (fun c hc => hall c (by simp [hc])) ι1 h1 r1.rel (fun b c hb => hno b c (r1.ro b c hb))
   refine ⟨ι2, h2, acs :: rows, r1.trans r2, by simp [e2, c1.1], ?_, ?_, ?_⟩
   ·rw [List.flatten_cons, List.flatten_cons]
    exact crel_append (r2.crel c1) c2
   ·intro r hr
    obtain ⟨x, hx⟩ := r2.ext
    cases hr with
    | head => rw [hx]; exact a1.mono
    | tail _ hr => exact a2 r hr
   ·intro c hc
    cases hc with
    | head => exact o1
    | tail _ hc => exact o2 c hc
theorem take_drop_flatten (n s : Nat) : ∀ (cs : List Value), cs.length = n * s → cs = ((List.range n).map fun i => (cs.drop (i * s)).take s).flatten := by
 induction n with
 | zero => intro cs h; simp at h; simp [h]
 | succ n ih =>
   intro cs h
   rw [List.range_succ_eq_map, List.map_cons, List.flatten_cons]
   have h1 : (cs.drop s).length = n * s := by rw [List.length_drop, h, Nat.succ_mul]; omega
   have h2 := ih (cs.drop s) h1
   conv => lhs; rw [← List.take_append_drop s cs]
   simp only [Nat.zero_mul, List.drop_zero]
   congr 1
   rw [h2]
   congr 1
   rw [List.map_map]
   apply List.map_congr_left
   intro i _
   simp only [Function.comp, List.drop_drop]
   congr 2
   rw [Nat.succ_mul]; omega
section
variable {H : Type} {enc : TypeId × Value → H} {P : Program} {w : World} {spare : Nat → Bool} {held : Bool}
theorem weights_all {e : TypeId} : ∀ {l : List (DataW H)} {d : DataW H}, d ∈ l → ∀ q ∈ d.weights P e, q ∈ DataW.weightsAll P e l
 | d' :: l, d, hm, q, hq => by
   simp only [DataW.weightsAll, List.mem_append]
   cases hm with
   | head => exact .inl hq
   | tail _ hm => exact .inr (weights_all hm q hq)
theorem weights_each : ∀ {ts : List TypeId} {l : List (DataW H)} {j : Nat} {t : TypeId} {d : DataW H}, ts[j]? = some t → l[j]? = some d → ∀ q ∈ d.weights P t, q ∈ DataW.weightsEach P ts l
 | [], _, j, t, d, ht, _, _, _ => by simp at ht
 | _ :: _, [], j, t, d, _, hd, _, _ => by simp at hd
 | t' :: ts, d' :: l, 0, t, d, ht, hd, q, hq => by
   simp only [List.getElem?_cons_zero, Option.some.injEq] at ht hd
   subst ht hd
   simp only [DataW.weightsEach, List.mem_append]
   exact .inl hq
 | t' :: ts, d' :: l, j + 1, t, d, ht, hd, q, hq => by
   simp only [DataW.weightsEach, List.mem_append]
   exact .inr (weights_each (j := j) (by simpa using ht) (by simpa using hd) q hq)
theorem cells?_len {a : Addr} {n : Nat} {l : List Value} (hc : w.cells? 0 a n = some l) : l.length = n ∧ ∀ i, i < n → w.cell? (a.add i) = some (l.getD i undef) := by
 unfold World.cells? at hc
 rw [if_pos (Nat.zero_le _)] at hc
 have hlen := mapM_some_length hc
 refine ⟨by simpa using hlen, fun i hi => ?_⟩
 have := mapM_some_get hc i i (by simp [hi])
 rw [this, List.getD, List.getElem?_eq_getElem (by simp at hlen; omega)]
 rfl
theorem flatten_getD {s : Nat} : ∀ (css : List (List Value)), (∀ c ∈ css, c.length = s) → ∀ j, j < css.length * s → css.flatten.getD j undef = (css.getD (j / s) []).getD (j % s) undef
 | [], _, j, hj => by simp at hj
 | c :: css, hall, j, hj => by
   have hc : c.length = s := hall c (by simp)
   have hs : 0 < s := by
    rcases Nat.eq_zero_or_pos s with h0 | h0
    ·subst h0; simp at hj
    ·exact h0
   rw [List.flatten_cons]
   rcases Nat.lt_or_ge j s with h1 | h1
   ·rw [Nat.div_eq_of_lt h1, Nat.mod_eq_of_lt h1]
    simp only [List.getD_eq_getElem?_getD, List.getElem?_cons_zero, Option.getD_some]
    rw [List.getElem?_append_left (by omega)]
   ·have h2 := flatten_getD css (fun c hc => hall c (by simp [hc])) (j - s) (by simp only [List.length_cons, Nat.succ_mul] at hj; omega)
    have e1 : j / s = (j - s) / s + 1 := by rw [Nat.div_eq_sub_div hs h1]
    have e2 : j % s = (j - s) % s := by rw [Nat.mod_eq_sub_mod h1]
    rw [e1, e2]
    simp only [List.getD_eq_getElem?_getD, List.getElem?_cons_succ] at h2 ⊢
    rw [List.getElem?_append_right (by omega), hc, h2]
theorem flatten_len {s : Nat} : ∀ (css : List (List Value)), (∀ c ∈ css, c.length = s) → css.flatten.length = css.length * s
 | [], _ => by simp
 | c :: css, hall => by
   rw [List.flatten_cons, List.length_append, flatten_len css (fun c hc => hall c (by simp [hc])), hall c (by simp), List.length_cons, Nat.succ_mul]
   omega
def OpensS (B : Nat) (w : World) (tys : List Ty) (cs : List Value) : Prop :=
 ∀ ι h, Rel ι h w → (∀ (b : Nat) (c : List Value), h[b]? = some (Blk.mem false c) → False) → ∃ (ι' : Inj) (h' : Heap) (acs : List Value), RO w ι h ι' h' ∧ CRel ι' h'.length acs cs ∧ AOks B tys h' acs ∧ ∀ v ∈ cs, v.oneCell' = true
theorem OpensS.nil {B : Nat} : OpensS B w [] [] := fun ι h hr _ => ⟨ι, h, [], .refl hr, ⟨rfl, fun _ => .undef⟩, by simp only [AOks], by simp⟩
theorem OpensS.cons {B : Nat} {ty : Ty} {tys : List Ty} {a b : List Value} (h1 : Opens B w ty a) (h2 : OpensS B w tys b) : OpensS B w (ty :: tys) (a ++ b) := by
 intro ι h hr hno
 obtain ⟨ι1, g1, acs, r1, c1, a1, o1⟩ := h1 ι h hr hno
 obtain ⟨ι2, g2, bcs, r2, c2, a2, o2⟩ := h2 ι1 g1 r1.rel (fun b c hb => hno b c (r1.ro b c hb))
 refine ⟨ι2, g2, acs ++ bcs, r1.trans r2, crel_append (r2.crel c1) c2, ?_, ?_⟩
 ·obtain ⟨x, hx⟩ := r2.ext
  simp only [AOks]
  exact ⟨acs, bcs, rfl, by rw [hx]; exact a1.mono, a2⟩
 ·intro v hv
  rcases List.mem_append.1 hv with hv | hv
  ·exact o1 v hv
  ·exact o2 v hv
theorem fields_open {B n d : Nat} {cs : List Value}
 (ih : ∀ t cs x ty, DataW.trod enc P w 0 (fun _ => true) held n t cs = some x → tyOf P d t = some ty → (∀ q ∈ x.1.weights P t, q ≤ reach) → bulkW x.1 ≤ B → Opens B w ty cs) :
 ∀ (fs : List Field) (xs : List (DataW H × List MemPlace)) (off : Nat) (tys : List Ty), fieldsTy P (tyOf P d) off fs = some tys → cs.length = fieldsEnd P off fs → xs.length = fs.length →
   (∀ (i : Nat) (f : Field), fs[i]? = some f → DataW.trod enc P w 0 (fun _ => true) held n f.type ((cs.drop f.offset).take (P.cellsOf f.type)) = xs[i]?) →
   (∀ q ∈ DataW.weightsEach P (fs.map (·.type)) (xs.map (·.1)), q ≤ reach) → bulkWs (xs.map (·.1)) ≤ B → OpensS B w tys (cs.drop off)
 | [], xs, off, tys, hf, hl, _, _, _, _ => by
   simp only [fieldsTy, Option.some.injEq] at hf
   subst hf
   simp only [fieldsEnd] at hl
   rw [List.drop_eq_nil_of_le (by omega)]
   exact .nil
 | f :: fs, xs, off, tys, hf, hl, hxl, hx, hw, hB => by
   simp only [fieldsTy] at hf
   split at hf
   ·rename_i hoff
    split at hf
    ·rename_i ty l h1 h2
     injection hf with hf
     subst hf
     cases xs with
     | nil => simp at hxl
     | cons x xs =>
       have h0 := hx 0 f (by simp)
       rw [hoff] at h0
       simp only [List.getElem?_cons_zero] at h0
       simp only [List.map_cons, DataW.weightsEach, List.mem_append] at hw
       simp only [List.map_cons, bulkWs] at hB
       have a := ih f.type _ x ty h0 h1 (fun q hq => hw q (.inl hq)) (by omega)
       have b := fields_open ih fs xs (off + P.cellsOf f.type) l h2 hl (by simpa using hxl) (fun i g hg => by simpa using hx (i + 1) g (by simpa using hg)) (fun q hq => hw q (.inr hq)) (by omega)
       rw [← List.take_append_drop (P.cellsOf f.type) (cs.drop off), List.drop_drop]
       exact OpensS.cons a b
    ·cases hf
   ·cases hf
theorem opens_one {B : Nat} {v : Value} {ty : Ty} (h1 : v.oneCell' = true) (hv : ∀ ι n, VRel ι n v v) (ha : ∀ h, AOk B ty h [v]) : Opens B w ty [v] := fun ι h hr _ =>
 ⟨ι, h, [v], .refl hr, crel_of rfl (fun i a _ => by have : i = 0 := by simpa using a
                                                    subst this; exact hv _ _), ha h, by simpa using h1⟩
theorem open_cells {B : Nat} : ∀ (d : Nat) (fuel : Nat) (t : TypeId) (cs : List Value) (x : DataW H × List MemPlace) (ty : Ty),
 DataW.trod enc P w 0 (fun _ => true) held fuel t cs = some x → tyOf P d t = some ty → (∀ q ∈ x.1.weights P t, q ≤ reach) → bulkW x.1 ≤ B → Opens B w ty cs
 | 0, _, _, _, _, _, _, hty, _, _ => by simp [tyOf] at hty
 | d + 1, fuel, t, cs, x, ty, hx, hty, hw, hB => by
   simp only [tyOf] at hty
   split at hty
   ·rename_i ht
    injection hty with hty
    subst hty
    obtain ⟨b, rfl, rfl⟩ := DataW.trod_bool ht hx
    exact opens_one rfl (fun _ _ => .bool b) (fun h => by simp only [AOk]; exact ⟨b, rfl⟩)
   ·rename_i k ht
    injection hty with hty
    subst hty
    obtain ⟨n, rfl, rfl, hwf⟩ := DataW.trod_int ht hx
    exact opens_one rfl (fun _ _ => .int k n) (fun h => by simp only [AOk]; exact ⟨n, rfl, hwf⟩)
   ·rename_i ht
    injection hty with hty
    subst hty
    obtain ⟨s, rfl, rfl, hs⟩ := DataW.trod_string ht hx
    refine opens_one rfl (fun _ _ => .string s) (fun h => ?_)
    simp only [AOk]
    have := hw s.data.toList.length (by simp only [DataW.weights, List.mem_singleton])
    simp only [bulkW] at hB
    rw [Array.length_toList] at this hB
    exact ⟨s, rfl, this, by show s.data.size ≤ B; omega⟩
   ·rename_i fs ht
    split at hty
    ·rename_i hend
     rw [Option.map_eq_some_iff] at hty
     obtain ⟨tys, h1, rfl⟩ := hty
     obtain ⟨xs, n, rfl, rfl, hl, hxl, hall⟩ := DataW.trod_struct ht hx
     have := fields_open (B := B) (cs := cs) (fun t cs x ty a b c e => open_cells d n t cs x ty a b c e) fs.toList xs 0 tys h1 (by rw [hl, hend]) (by simpa using hxl) (fun i f hf => hall i f (by simpa using hf))
      (fun q hq => hw q (by simp only [DataW.weights, ht]; exact hq)) (by simp only [bulkW] at hB; omega)
     intro ι h hr hno
     obtain ⟨ι', h', acs, r, c, a, o⟩ := this ι h hr hno
     exact ⟨ι', h', acs, r, c, by simpa only [AOk] using a, o⟩
    ·cases hty
   ·rename_i n e ht
    split at hty
    ·rename_i hce
     rw [Option.map_eq_some_iff] at hty
     obtain ⟨ty', h1, rfl⟩ := hty
     obtain ⟨xs, m, rfl, rfl, hl, hxl, hall⟩ := DataW.trod_array ht hx
     have hrows : ∀ cs' ∈ ((List.range n).map fun i => (cs.drop (i * P.cellsOf e)).take (P.cellsOf e)), Opens B w ty' cs' := by
      intro cs' hm
      obtain ⟨i, hi, rfl⟩ := List.mem_map.1 hm
      have hi' : i < n := List.mem_range.1 hi
      have h2 := hall i hi'
      rw [List.getElem?_eq_getElem (by omega : i < xs.length)] at h2
      refine open_cells d m e _ _ ty' h2 h1 (fun q hq => hw q ?_) (by
       have := bulk_part (d := xs[i].1) (List.mem_map.2 ⟨xs[i], List.getElem_mem _, rfl⟩ : xs[i].1 ∈ xs.map (·.1))
       simp only [bulkW] at hB
       omega)
      simp only [DataW.weights, ht]
      exact weights_all (d := xs[i].1) (List.mem_map.2 ⟨xs[i], List.getElem_mem _, rfl⟩) q hq
     intro ι h hr hno
     obtain ⟨ι', h', rows, r, e1, c, a, o⟩ := opens_rows _ hrows ι h hr hno
     have hcs := take_drop_flatten n (P.cellsOf e) cs (by rw [hl, hce])
     rw [← hcs] at c
     refine ⟨ι', h', rows.flatten, r, c, ?_, ?_⟩
     ·simp only [AOk]
      refine ⟨rows, ?_, rfl, a⟩
      have := congrArg List.length e1
      simpa using this
     ·intro v hv
      rw [hcs] at hv
      obtain ⟨l, hl1, hl2⟩ := List.mem_flatten.1 hv
      exact o l hl1 v hl2
    ·cases hty
   ·rename_i e ht
    split at hty
    ·rename_i hs1
     rw [Option.map_eq_some_iff] at hty
     obtain ⟨ty', h1, rfl⟩ := hty
     rcases DataW.trod_slice ht hx with ⟨rfl, rfl⟩ | ⟨a, len, cap, elems, rest, n, rfl, rfl, rfl, _, hlc, _, hel, he, hrest, _⟩
     ·exact opens_one rfl (fun _ _ => .nilSlice) (fun h => by simp only [AOk]; exact .inl trivial)
     ·obtain ⟨hrl, hrest⟩ := hrest rfl
      generalize hsz : P.cellsOf e = s at *
      let css : List (List Value) := (List.range len).map fun i => (w.cells? 0 (a.add (i * s)) s).getD []
      have hget : ∀ i, i < len → ∃ l y, w.cells? 0 (a.add (i * s)) s = some l ∧ css[i]? = some l ∧ DataW.trod enc P w 0 (fun _ => true) held n e l = some y ∧ elems[i]? = some y := by
       intro i hi
       have h2 := he i hi
       rw [List.getElem?_eq_getElem (by omega : i < elems.length)] at h2
       obtain ⟨l, h3, h4⟩ := Option.bind_eq_some_iff.1 h2
       refine ⟨l, _, h3, ?_, h4, List.getElem?_eq_getElem _⟩
       simp [css, hi, h3]
      have hwx : ∀ q, q = (elems.length + rest.length) * P.bytesOf e ∨ q ∈ DataW.weightsAll P e (elems.map (·.1)) → q ≤ reach := by
       intro q hq
       refine hw q ?_
       simp only [DataW.weights, ht, List.mem_cons, List.mem_append, List.length_map]
       rcases hq with h | h
       ·exact .inl h
       ·exact .inr (.inl h)
      have hopen : ∀ l ∈ css, Opens B w ty' l := by
       intro l hm
       obtain ⟨i, hi, rfl⟩ := List.mem_map.1 hm
       obtain ⟨l, y, q1, q2, q3, q4⟩ := hget i (List.mem_range.1 hi)
       rw [q1]
       refine open_cells d n e _ y ty' q3 h1 (fun q hq => hwx q (.inr ?_)) (by
        have := bulk_part (List.mem_map.2 ⟨y, List.mem_of_getElem? q4, rfl⟩ : y.1 ∈ elems.map (·.1))
        simp only [bulkW] at hB
        omega)
       exact weights_all (d := y.1) (List.mem_map.2 ⟨y, List.mem_of_getElem? q4, rfl⟩) q hq
      have hlen : ∀ l ∈ css, l.length = s := by
       intro l hm
       obtain ⟨i, hi, rfl⟩ := List.mem_map.1 hm
       obtain ⟨l, y, q1, q2, q3, q4⟩ := hget i (List.mem_range.1 hi)
       rw [q1]
       exact (cells?_len q1).1
      have hcl : css.length = len := by simp [css]
      have hspot : 0 < cap → a = ⟨a.block, a.off, none⟩ := by
       intro hc
       have hz : ∃ l, w.cells? 0 (a.add 0) s = some l := by
        rcases Nat.eq_zero_or_pos len with h0 | h0
        ·have h2 := hrest 0 (by omega)
         rw [List.getElem?_eq_getElem (by omega : 0 < rest.length)] at h2
         obtain ⟨l, h3, h4⟩ := Option.bind_eq_some_iff.1 h2
         exact ⟨l, by simpa [h0] using h3⟩
        ·obtain ⟨l, y, q1, _⟩ := hget 0 h0
         exact ⟨l, by simpa using q1⟩
       obtain ⟨l, hl⟩ := hz
       have h5 := (cells?_len hl).2 0 (by omega)
       simp only [Addr.add, if_true] at h5
       obtain ⟨ab, ao, asp⟩ := a
       cases asp with
       | none => rfl
       | some z =>
         exfalso
         simp only [World.cell?] at h5
         split at h5 <;> simp at h5
      intro ι h hr hno
      obtain ⟨ι1, g1, rows, r1, e1, c1, a1, o1⟩ := opens_rows css hopen ι h hr hno
      have hrlen : rows.length = len := by
       have := congrArg List.length e1
       simpa [hcl] using this
      have hrs : ∀ r ∈ rows, r.length = s := by
       intro r hm
       have : r.length ∈ rows.map List.length := List.mem_map.2 ⟨r, hm, rfl⟩
       rw [e1] at this
       obtain ⟨l, hl, heq⟩ := List.mem_map.1 this
       rw [← heq, hlen l hl]
      have hfl : rows.flatten.length = len * s := by rw [flatten_len rows hrs, hrlen]
      have hno1 : ∀ (b : Nat) (c : List Value), g1[b]? = some (Blk.mem false c) → False := fun b c hb => hno b c (r1.ro b c hb)
      have hls : len * s ≤ cap * s := Nat.mul_le_mul_right s hlc
      have r2 := ro_block r1.rel rows.flatten css.flatten a.block a.off (a.off + cap * s) c1
       (fun v hv => by obtain ⟨l, hl1, hl2⟩ := List.mem_flatten.1 hv; exact o1 l hl1 v hl2)
       (fun i hi => by
        rw [hfl] at hi
        have hs0 : 0 < s := by omega
        have hi1 : i / s < len := by rw [Nat.div_lt_iff_lt_mul hs0]; exact hi
        obtain ⟨l, y, q1, q2, q3, q4⟩ := hget (i / s) hi1
        have h5 := (cells?_len q1).2 (i % s) (Nat.mod_lt _ hs0)
        have hcap : 0 < cap := by
         rcases Nat.eq_zero_or_pos cap with h0 | h0
         ·subst h0; omega
         ·exact h0
        rw [hspot hcap, Addr.add_lit, Addr.add_lit] at h5
        rw [flatten_getD css hlen i (by rw [hcl]; exact hi), List.getD_eq_getElem?_getD (l := css), q2, Option.getD_some, ← h5]
        congr 2
        have := Nat.div_add_mod i s
        rw [Nat.mul_comm] at this
        omega)
       (by rw [hfl]; omega) (fun b c hb => (hno1 b c hb).elim)
      refine ⟨_, _, [.slice (some ⟨g1.length, 0, none⟩) len s], r1.trans r2, ?_, ?_, by simp [Value.oneCell']⟩
      ·refine crel_of rfl fun i hi _ => ?_
       have : i = 0 := by simpa using hi
       subst this
       refine .slice _ _ _ _ _ _ (by simp) hlc fun hc => ⟨a.off, ?_, fun _ => ?_, ?_⟩
       ·rw [Inj.set_same]; exact hspot hc
       ·rw [Inj.set_same]; rfl
       ·rw [Inj.set_same]; exact Nat.le_refl _
      ·simp only [AOk]
       refine .inr ⟨g1.length, rows, by rw [hrlen], hs1, by simp, ?_, ?_, fun r hm => ⟨hrs r hm, (a1 r hm).mono⟩⟩
       have := hwx _ (.inl rfl)
       rw [hel, hrl] at this
       rw [hrlen]
       refine Nat.le_trans ?_ this
       exact Nat.mul_le_mul_right _ (by omega)
       have h1 := bulk_len (elems.map (·.1))
       simp only [bulkW, List.length_map] at hB h1
       omega
    ·cases hty
   ·cases hty
end
end Go.Wb
namespace Go.Wb
open Go Go.ChangeShapes Go.RowKit
def Ty.agg : Ty → Bool
 | .arr .. | .st .. => true
 | _ => false
def AVal (B : Nat) (ty : Ty) (h : Heap) (v : Value) : Prop := if ty.agg then ∃ cs, v = .agg cs ∧ AOk B ty h cs.toList else AOk B ty h [v]
def AArgs (B : Nat) : List Ty → Heap → List Value → Prop
 | [], _, vs => vs = []
 | ty :: tys, h, vs => ∃ v r, vs = v :: r ∧ AVal B ty h v ∧ AArgs B tys h r
theorem AVal.mono {B : Nat} {h x : Heap} {ty : Ty} {v : Value} (hv : AVal B ty h v) : AVal B ty (h ++ x) v := by
 unfold AVal at *
 split
 ·rename_i ha
  rw [if_pos ha] at hv
  obtain ⟨cs, h1, h2⟩ := hv
  exact ⟨cs, h1, h2.mono⟩
 ·rename_i ha
  rw [if_neg ha] at hv
  exact hv.mono
def tysOf (P : Program) : List TypeId → Option (List Ty)
 | [] => some []
 | t :: ts => match tyOf P 12 t, tysOf P ts with
   | some ty, some tys => some (ty :: tys)
   | _, _ => none
def NoOwn (h : Heap) : Prop := ∀ (b : Nat) (c : List Value), h[b]? = some (Blk.mem false c) → False
section
variable {H : Type} {enc : TypeId × Value → H} {P : Program} {w : World} {held : Bool} {base : Nat}
theorem tyOf_agg {d : Nat} {t : TypeId} {ty : Ty} (h : tyOf P d t = some ty) {v : Value} (hv : Value.okWide P w .any base t v) : if ty.agg then ∃ cs, v = .agg cs else v.cells.toList = [v] := by
 cases d with
 | zero => simp [tyOf] at h
 | succ d =>
   simp only [tyOf] at h
   unfold Value.okWide at hv
   split at h
   ·rename_i ht; rw [ht] at hv
    injection h with h; subst h
    unfold Cell.okWide Cell.ok at hv; rw [ht] at hv
    cases v <;> first | exact hv.elim | rfl
   ·rename_i ht; rw [ht] at hv
    injection h with h; subst h
    unfold Cell.okWide Cell.ok at hv; rw [ht] at hv
    cases v <;> first | exact hv.elim | rfl
   ·rename_i ht; rw [ht] at hv
    injection h with h; subst h
    unfold Cell.okWide Cell.ok at hv; rw [ht] at hv
    cases v <;> first | exact hv.elim | rfl
   ·rename_i ht; rw [ht] at hv
    split at h
    ·rw [Option.map_eq_some_iff] at h; obtain ⟨_, _, rfl⟩ := h
     obtain ⟨cs, h1, _⟩ := hv
     exact ⟨cs, h1⟩
    ·cases h
   ·rename_i ht; rw [ht] at hv
    split at h
    ·rw [Option.map_eq_some_iff] at h; obtain ⟨_, _, rfl⟩ := h
     obtain ⟨cs, h1, _⟩ := hv
     exact ⟨cs, h1⟩
    ·cases h
   ·rename_i ht; rw [ht] at hv
    split at h
    ·rw [Option.map_eq_some_iff] at h; obtain ⟨_, _, rfl⟩ := h
     unfold Cell.okWide Cell.ok at hv; rw [ht] at hv
     cases v <;> first | exact hv.elim | rfl
    ·cases h
   ·cases h
theorem open_args {B : Nat} : ∀ (ts : List TypeId) (tys : List Ty) (vs : List Value) (ds : List (DataW H)) (p : List MemPlace), tysOf P ts = some tys →
 (∀ (j : Nat) t v, ts[j]? = some t → vs[j]? = some v → Value.okWide P w .any base t v) → DataW.TrodAll enc P w 0 (fun _ => true) held ts vs ds p → (∀ q ∈ DataW.weightsEach P ts ds, q ≤ reach) → bulkWs ds ≤ B →
 ∀ ι h, Rel ι h w → NoOwn h → ∃ (ι' : Inj) (h' : Heap) (avs : List Value), RO w ι h ι' h' ∧ CRel ι' h'.length avs vs ∧ AArgs B tys h' avs
 | [], tys, vs, ds, p, hty, _, hA, _, _, ι, h, hr, _ => by
   simp only [tysOf, Option.some.injEq] at hty
   subst hty
   obtain ⟨rfl, _, _⟩ := trodAll_nil hA
   exact ⟨ι, h, [], .refl hr, ⟨rfl, fun _ => .undef⟩, by simp only [AArgs]⟩
 | t :: ts, tys, vs, ds, p, hty, hval, hA, hsz, hB, ι, h, hr, hno => by
   simp only [tysOf] at hty
   split at hty
   ·rename_i ty tys' h1 h2
    injection hty with hty
    subst hty
    obtain ⟨v, vs', d, ds', p1, q1, rfl, rfl, rfl, ⟨fuel, hT⟩, hR⟩ := trodAll_cons hA
    simp only [DataW.weightsEach, List.mem_append] at hsz
    simp only [bulkWs] at hB
    obtain ⟨ι1, g1, acs, r1, c1, a1, o1⟩ := open_cells (B := B) 12 fuel t _ (d, p1) ty hT h1 (fun q hq => hsz q (.inl hq)) (by show bulkW d ≤ B; omega) ι h hr hno
    obtain ⟨ι2, g2, avs, r2, c2, a2⟩ := open_args (B := B) ts tys' vs' ds' q1 h2 (fun j t v a b => hval (j + 1) t v (by simpa using a) (by simpa using b)) hR (fun q hq => hsz q (.inr hq)) (by omega) ι1 g1 r1.rel (fun b c hb => hno b c (r1.ro b c hb))
    have hag := tyOf_agg h1 (hval 0 t v rfl rfl)
    obtain ⟨x, hx⟩ := r2.ext
    have key : ∃ av, VRel ι2 g2.length av v ∧ AVal B ty g2 av := by
     cases hb : ty.agg with
     | true =>
       rw [hb, if_pos rfl] at hag
       obtain ⟨cs, rfl⟩ := hag
       refine ⟨.agg acs.toArray, ?_, ?_⟩
       ·have := agg_crel (r2.crel c1) (fun v hv => o1 v hv)
        simpa [Value.cells] using this
       ·unfold AVal
        rw [hb, if_pos rfl]
        exact ⟨_, rfl, by rw [hx]; exact a1.mono⟩
     | false =>
       rw [hb] at hag
       simp only [Bool.false_eq_true, if_false] at hag
       rw [hag] at c1
       have hl : acs.length = 1 := c1.1
       match acs, hl with
       | [av], _ =>
         refine ⟨av, ?_, ?_⟩
         ·have := (r2.crel c1).2 0
          simpa using this
         ·unfold AVal
          rw [hb]
          simp only [Bool.false_eq_true, if_false]
          rw [hx]; exact a1.mono
    obtain ⟨av, k1, k2⟩ := key
    refine ⟨ι2, g2, av :: avs, r1.trans r2, ?_, ?_⟩
    ·have : CRel ι2 g2.length [av] [v] := crel_of rfl fun i hi _ => by
      have : i = 0 := by simpa using hi
      subst this; exact k1
     exact crel_append this c2
    ·simp only [AArgs]
     exact ⟨av, avs, rfl, k2, a2⟩
   ·cases hty
theorem rel_nil {w : World} : Rel (fun _ => ⟨0, 0, 0⟩) [] w := ⟨fun b ro cs hb => by simp at hb, fun b ro cs hb => by simp at hb, fun b ro cs hb => by simp at hb, fun b cs hb => by simp at hb, fun b b' cs ro cs' hb => by simp at hb⟩
theorem law_calls {nm : Names} {E : Env} (hcalls : CallsOk P nm (callA E)) {f : FuncId} {name : String} (hnm : nm f = some name) {ts : List TypeId} {tys : List Ty} (hty : tysOf P ts = some tys)
 {args : Array Value} {ds : List (DataW H)} {p : List MemPlace} (hval : ∀ (j : Nat) t v, ts[j]? = some t → args.toList[j]? = some v → Value.okWide P w .any base t v)
 (hA : DataW.TrodAll enc P w 0 (fun _ => true) held ts args.toList ds p) (hsz : ∀ q ∈ DataW.weightsEach P ts ds, q ≤ reach)
 (B : Nat) (hB : bulkWs ds ≤ B) (hlaw : ∀ avs h, NoOwn h → AArgs B tys h avs → ∃ h', callA E name avs h = some (.bool true, h')) :
 Calls P f args w fun e w' => e = .returned (.bool true) ∧ Below w.heap.size w w' := by
 obtain ⟨ι, h, avs, r, c, a⟩ := open_args (B := B) ts tys args.toList ds p hty hval hA hsz hB _ [] rel_nil (fun b c hb => by simp at hb)
 have hno : NoOwn h := fun b c hb => by have := r.ro b c hb; simp at this
 obtain ⟨h', hx⟩ := hlaw avs h hno a
 have := hcalls.1 name avs h _ h' hx f hnm ι w args.toList r.rel c
 rw [Array.toArray_toList] at this
 refine this.mono fun e w' hh => ?_
 obtain ⟨ι', v', he, hs, hv⟩ := hh
 rw [hv.bool_inv] at he
 refine ⟨he, ⟨hs.os, hs.tape, hs.output, hs.size, fun k hk => hs.frame k hk ?_⟩⟩
 rintro ⟨b, cs, hb, _⟩
 exact hno b cs hb
def rowed (P : Program) (ts : List TypeId) : Bool := ts.all fun t => P.readableRec t && decide (t < P.types.size)
theorem trodAll_below (hl : laidOutB P = true) {w' : World} (hb : Below w.heap.size w w') : ∀ (ts : List TypeId) (vs : List Value) (ds : List (DataW H)) (p : List MemPlace), rowed P ts = true →
 DataW.TrodAll enc P w 0 (fun _ => true) true ts vs ds p → DataW.TrodAll enc P w' 0 (fun b => decide (b < w.heap.size)) true ts vs ds p
 | [], vs, ds, p, _, hA => by
   obtain ⟨rfl, rfl, rfl⟩ := trodAll_nil hA
   exact rfl
 | t :: ts, vs, ds, p, hr, hA => by
   simp only [rowed, List.all_cons, Bool.and_eq_true, decide_eq_true_eq] at hr
   obtain ⟨v, vs', d, ds', p1, q1, rfl, rfl, rfl, hT, hR⟩ := trodAll_cons hA
   obtain ⟨fuel, hF⟩ := hT
   exact trodAll_cons_mk (Below.trod hl hr.1.1 hr.1.2 ⟨fuel, hF⟩ hb (DataW.trod_lt fuel t _ _ hF)) (trodAll_below hl hb ts vs' ds' q1 hr.2 hR)
theorem trodAll_length : ∀ (ts : List TypeId) (vs : List Value) (ds : List (DataW H)) (p : List MemPlace) {sp : Nat → Bool}, DataW.TrodAll enc P w 0 sp held ts vs ds p → ds.length = ts.length
 | [], vs, ds, p, _, hA => by
   obtain ⟨_, rfl, _⟩ := trodAll_nil hA
   rfl
 | t :: ts, vs, ds, p, _, hA => by
   obtain ⟨v, vs', d, ds', p1, q1, rfl, rfl, rfl, _, hR⟩ := trodAll_cons hA
   simp [trodAll_length ts vs' ds' q1 hR]
theorem law_contract {nm : Names} {E : Env} (hcalls : CallsOk P nm (callA E)) (hlaid : laidOutB P = true) {f : FuncId} {fn : Func} {name : String} (hnm : nm f = some name) {tys : List Ty} {tb : TypeId} {s : ChangeSpec}
 (hty : tysOf P fn.params.toList = some tys) (hrow : rowed P fn.params.toList = true) (hrt : fn.resultTypes = #[tb]) (htb : P.underlying tb = some .bool) (hvars : s.vars = [])
 (hs : ∀ ds : List (DataW H), ds.length = fn.params.toList.length → s.fn H ds = { results := [.lit (.bool true)], args := ds })
 (B : Nat) (hlaw : ∀ avs h, NoOwn h → AArgs B tys h avs → ∃ h', callA E name avs h = some (.bool true, h'))
 {args : Array Value} {ds gs : List (DataW H)} {before : List MemPlace} (hval : ∀ (j : Nat) t v, fn.params[j]? = some t → args[j]? = some v → Value.okWide P w .any base t v)
 (hW : DataW.Whole enc P fn.params.toList s.vars false w args.toList ds gs before)
 (hsz : (DataW.weightsEach P (fn.params.toList ++ s.plain.varTypes P) (ds ++ gs)).all (· ≤ reachBytes) = true) (hB : bulkWs (ds ++ gs) ≤ B) :
 Calls P f args w fun e w' => ∃ v, e = .returned v ∧ s.post enc P fn false true false false w args v w' := by
 have hW' := hW
 obtain ⟨p, q, hA, hV, rfl, hfz, hnd⟩ := hW
 have hA' := hA
 rw [hvars] at hV
 obtain ⟨rfl, rfl⟩ := trodVars_none hV
 have hlen := trodAll_length _ _ _ _ hA
 have hsz' : ∀ q ∈ DataW.weightsEach P fn.params.toList ds, q ≤ reach := by
  intro q hq
  have hsub : ∀ (ts us : List TypeId) (l : List (DataW H)), q ∈ DataW.weightsEach P ts l → q ∈ DataW.weightsEach P (ts ++ us) l := by
   intro ts
   induction ts with
   | nil => intro us l hm; simp [DataW.weightsEach] at hm
   | cons t ts ih =>
     intro us l hm
     cases l with
     | nil => simp [DataW.weightsEach] at hm
     | cons d l =>
       simp only [DataW.weightsEach, List.mem_append, List.cons_append] at hm ⊢
       rcases hm with hm | hm
       ·exact .inl hm
       ·exact .inr (ih us l hm)
  rw [List.append_nil] at hsz
  have := List.all_eq_true.1 hsz q (hsub _ _ _ hq)
  simpa [reach] using this
 refine (law_calls hcalls hnm hty (fun j t v a b => hval j t v (by simpa using a) (by simpa using b)) hA hsz' B (by rw [List.append_nil] at hB; exact hB) hlaw).mono fun e w' hh => ?_
 obtain ⟨rfl, bel⟩ := hh
 refine ⟨_, rfl, ds, [], p ++ [], [], p, [], hW', ?_, ?_, ?_, bel.frame _, fun h => by cases h⟩
 ·rw [List.append_nil, hs ds hlen, hrt]
  exact trodAll_mk1 (shut_bool htb true)
 ·rw [List.append_nil, hs ds hlen]
  exact trodAll_below hlaid bel _ _ _ _ hrow hA'
 ·rw [List.append_nil, hs ds hlen, hvars]
  rfl
end
end Go.Wb
namespace Go.Wb
open Go
def sameV1 : Value → Value → Bool
 | .bool a, .bool b => a == b
 | .int k a, .int k' b => decide (k = k') && decide (a = b)
 | .string a, .string b => decide (a = b)
 | .pointer a, .pointer b => decide (a = b)
 | .slice a n m, .slice b n' m' => decide (a = b) && decide (n = n') && decide (m = m')
 | _, _ => false
theorem sameV1_eq {a b : Value} (h : sameV1 a b = true) : a = b := by
 cases a <;> cases b <;> simp_all [sameV1]
def sameL : List Value → List Value → Bool
 | [], [] => true
 | a :: l, b :: m => sameV1 a b && sameL l m
 | _, _ => false
theorem sameL_eq : ∀ {l m : List Value}, sameL l m = true → l = m
 | [], [], _ => rfl
 | a :: l, b :: m, h => by
   simp only [sameL, Bool.and_eq_true] at h
   rw [sameV1_eq h.1, sameL_eq h.2]
 | [], _ :: _, h => by simp [sameL] at h
 | _ :: _, [], h => by simp [sameL] at h
def sameV (a b : Value) : Bool :=
 match a, b with
 | .agg x, .agg y => sameL x.toList y.toList
 | a, b => sameV1 a b
theorem sameV_eq {a b : Value} (h : sameV a b = true) : a = b := by
 unfold sameV at h
 split at h
 ·have := sameL_eq h
  rename_i x y
  have : x = y := by cases x; cases y; simpa using this
  rw [this]
 ·exact sameV1_eq h
def sameAtB (G : List Heap) (L : List LoadRec) (p : Nat × Nat) : Bool :=
 match L[p.1]?, G[p.2]? with
 | some (some (n, a, v)), some h => match readV h n a with
   | some u => sameV u v
   | none => false
 | some none, some _ => true
 | _, _ => false
def checkPairsB (G : List Heap) (L : List LoadRec) : List (Nat × Nat) → Bool
 | [] => true
 | p :: ps => sameAtB G L p && checkPairsB G L ps
theorem checkPairsB_ok {G : List Heap} {L : List LoadRec} : ∀ {ps : List (Nat × Nat)}, checkPairsB G L ps = true → checkPairs G L ps
 | [], _ => trivial
 | p :: ps, h => by
   simp only [checkPairsB, Bool.and_eq_true] at h
   refine ⟨?_, checkPairsB_ok h.2⟩
   have h1 := h.1
   unfold sameAtB at h1
   unfold sameAt
   split at h1
   ·rename_i n a v h0 e1 e2
    split at h1
    ·rename_i u hu
     rw [e1, e2]
     show readV h0 n a = some v
     rw [hu, sameV_eq h1]
    ·cases h1
   ·rename_i e1 e2
    rw [e1, e2]
    trivial
   ·cases h1
def drawnE (call : CallF) (l : List AOper) (pairs : List (Nat × Nat)) (t : T) (h : Heap) : Option (T × Heap) :=
 match pairs with
 | [] => execOps call l t h
 | pairs => match execLog call l t h with
   | some (t', h', G, L) => if checkPairsB (h :: G) L pairs then some (t', h') else none
   | none => none
theorem execLog_ops {call : CallF} : ∀ {l : List AOper} {t : T} {h : Heap} {t' : T} {h' : Heap}, execOps call l t h = some (t', h') → ∃ G L, execLog call l t h = some (t', h', G, L)
 | [], t, h, t', h', hx => by
   simp only [execOps, Option.some.injEq, Prod.mk.injEq] at hx
   obtain ⟨rfl, rfl⟩ := hx
   exact ⟨[], [], rfl⟩
 | o :: l, t, h, t', h', hx => by
   simp only [execOps] at hx
   split at hx
   ·rename_i t1 h1 hst
    obtain ⟨G, L, hl⟩ := execLog_ops hx
    simp only [execLog, hst, hl]
    exact ⟨_, _, rfl⟩
   ·cases hx
theorem drawnE_ok {call : CallF} {l : List AOper} {ps : List (Nat × Nat)} {t : T} {h : Heap} {r : T × Heap} (hx : drawnE call l ps t h = some r) : execDrawn call l ps t h = some r := by
 unfold drawnE at hx
 unfold execDrawn
 split at hx
 ·obtain ⟨t', h'⟩ := r
  obtain ⟨G, L, hl⟩ := execLog_ops hx
  rw [hl]
  simp only [checkPairs]
  exact if_pos trivial
 ·split at hx
  ·rename_i t' h' G L hl
   rw [hl]
   simp only
   split at hx
   ·rename_i hc
    rw [if_pos (checkPairsB_ok hc)]
    exact hx
   ·cases hx
  ·cases hx
def leaveE (res : List ARes) : Option (AExit × T × Heap) → Option (Value × Heap)
 | some (.ret, t, h) => (resVal t h res).map fun v => (v, h)
 | some (.normal, t, h) => (resVal t h res).map fun v => (v, h)
 | _ => none
def callE1 (E : Env) (run : ACode → T → Heap → Option (AExit × T × Heap)) : CallF := fun f args h =>
 match E f with
 | some (.prim g) => g args h
 | some (.code res body) => leaveE res (run body (argT args) h)
 | _ => none
def callE (E : Env) (run : ACode → T → Heap → Option (AExit × T × Heap)) : CallF := fun f args h =>
 match E f with
 | none => none
 | some (.prim g) => g args h
 | some (.dyn tbl) => if f = "@dyn" then match args with
   | .func (.func f) first caps :: rest => match tbl.find? (fun e => e.1 == f) with
     | some e => callE1 E run e.2 (first.toList ++ rest ++ caps.toList) h
     | none => none
   | _ => none
   else none
 | some (.code res body) => leaveE res (run body (argT args) h)
def runE (E : Env) : Nat → ACode → T → Heap → Option (AExit × T × Heap)
 | 0, _, _, _ => none
 | n + 1, c, t, h => match c with
   | .skip => some (.normal, t, h)
   | .ops l => (execOps (callE E (runE E n)) l t h).map fun x => (.normal, x.1, x.2)
   | .drawn l ps => (drawnE (callE E (runE E n)) l ps t h).map fun x => (.normal, x.1, x.2)
   | .seq a b => match runE E n a t h with
     | some (.normal, t', h') => runE E n b t' h'
     | r => r
   | .cond c x y => match Ev t c with
     | .bool true => runE E n x t h
     | .bool false => runE E n y t h
     | _ => none
   | .block id b => match runE E n b t h with
     | some (.exit i, t', h') => if i = id then some (.normal, t', h') else some (.exit i, t', h')
     | r => r
   | .loop b => match runE E n b t h with
     | some (.normal, t', h') => runE E n (.loop b) t' h'
     | r => r
   | .exit id => some (.exit id, t, h)
   | .ret => some (.ret, t, h)
theorem runE_ok {E : Env} : ∀ (n : Nat) (c : ACode) (t : T) (h : Heap) (r : AExit × T × Heap), runE E n c t h = some r → runA E c t h = some r
 | 0, _, _, _, _, hx => by simp [runE] at hx
 | n + 1, c, t, h, r, hx => by
   have hcall1 : LeC (callE1 E (runE E n)) (callA E) := by
    intro f args h r hx
    unfold callE1 at hx
    split at hx
    ·rename_i g hg
     rw [callA_prim hg]
     exact hx
    ·rename_i res body hb
     rw [callA_code hb]
     unfold leaveE at hx
     unfold leave
     split at hx
     ·rename_i t1 h1 h2
      rw [runE_ok n _ _ _ _ h2]
      exact hx
     ·rename_i t1 h1 h2
      rw [runE_ok n _ _ _ _ h2]
      exact hx
     ·cases hx
    ·cases hx
   have hcall : LeC (callE E (runE E n)) (callA E) := by
    intro f args h r hx
    unfold callE at hx
    split at hx
    ·cases hx
    ·rename_i g hg
     rw [callA_prim hg]
     exact hx
    ·rename_i tbl hb
     split at hx
     ·rename_i hf
      subst hf
      split at hx
      ·split at hx
       ·rename_i e he
        rw [callA_dyn hb he]
        exact hcall1 _ _ _ _ hx
       ·cases hx
      ·cases hx
     ·cases hx
    ·rename_i res body hb
     rw [callA_code hb]
     unfold leaveE at hx
     unfold leave
     split at hx
     ·rename_i t1 h1 h2
      rw [runE_ok n _ _ _ _ h2]
      exact hx
     ·rename_i t1 h1 h2
      rw [runE_ok n _ _ _ _ h2]
      exact hx
     ·cases hx
   unfold runE at hx
   split at hx
   ·rw [runA_skip]; exact hx
   ·rename_i l
    rw [runA_ops]
    rw [Option.map_eq_some_iff] at hx
    obtain ⟨x, h1, h2⟩ := hx
    rw [execOps_mono hcall h1]
    exact congrArg some h2
   ·rename_i l ps
    rw [runA_drawn]
    rw [Option.map_eq_some_iff] at hx
    obtain ⟨x, h1, h2⟩ := hx
    rw [execDrawn_mono hcall (drawnE_ok h1)]
    exact congrArg some h2
   ·rename_i a b
    rw [runA_seq]
    split at hx
    ·rename_i t1 h1 h2
     rw [runE_ok n _ _ _ _ h2]
     exact runE_ok n _ _ _ _ hx
    ·rename_i hne
     rw [runE_ok n _ _ _ _ hx]
     obtain ⟨e, t1, h1⟩ := r
     cases e with
     | normal => exact (hne t1 h1 hx).elim
     | exit _ => rfl
     | ret => rfl
   ·rename_i c x y
    rw [runA_cond]
    split at hx
    ·rename_i hb
     (try rw [hb]); exact runE_ok n _ _ _ _ hx
    ·rename_i hb
     (try rw [hb]); exact runE_ok n _ _ _ _ hx
    ·cases hx
   ·rename_i id b
    rw [runA_block]
    split at hx
    ·rename_i i t1 h1 h2
     rw [runE_ok n _ _ _ _ h2]
     exact hx
    ·rename_i hne
     rw [runE_ok n _ _ _ _ hx]
     obtain ⟨e, t1, h1⟩ := r
     cases e with
     | exit i => exact (hne i t1 h1 hx).elim
     | normal => rfl
     | ret => rfl
   ·rename_i b
    rw [runA_loop]
    split at hx
    ·rename_i t1 h1 h2
     rw [runE_ok n _ _ _ _ h2]
     exact runE_ok n _ _ _ _ hx
    ·rename_i hne
     rw [runE_ok n _ _ _ _ hx]
     obtain ⟨e, t1, h1⟩ := r
     cases e with
     | normal => exact (hne t1 h1 hx).elim
     | exit _ => rfl
     | ret => rfl
   ·rw [runA_exit]; exact hx
   ·rw [runA_ret]; exact hx
def aloneE (E : Env) (n : Nat) (res : List ARes) (body : ACode) (b : Bool) : Bool :=
 match leaveE res (runE E n body (argT []) []) with
 | some (.bool c, _) => c == b
 | _ => false
theorem aloneE_ok {E : Env} {n : Nat} {f : String} {res : List ARes} {body : ACode} {b : Bool} (hE : E f = some (.code res body)) (h : aloneE E n res body b = true) : ∃ h', callA E f [] [] = some (.bool b, h') := by
 unfold aloneE at h
 rw [callA_code hE]
 split at h
 ·rename_i c h' hx
  refine ⟨h', ?_⟩
  have hc : c = b := by simpa using h
  subst hc
  unfold leaveE at hx
  unfold leave
  split at hx
  ·rename_i t1 h1 h2
   rw [runE_ok n _ _ _ _ h2]
   exact hx
  ·rename_i t1 h1 h2
   rw [runE_ok n _ _ _ _ h2]
   exact hx
  ·cases hx
 ·cases h
def alone (b : Bool) : List Value → Heap → Option (Value × Heap) := fun args h => match args with
 | [] => some (.bool b, h)
 | _ => none
theorem alone_ro {b : Bool} {args : List Value} {h : Heap} {v : Value} {h' : Heap} (hx : alone b args h = some (v, h')) : RoM h h' := by
 unfold alone at hx
 split at hx
 ·injection hx with hx; injection hx with e1 e2; subst e2; exact .refl _
 ·cases hx
theorem alone_ok {P : Program} {f : FuncId} {b : Bool} {h1 : Heap} (hc : CallOk P f [] [] (.bool b) h1) : ∀ args h v h', alone b args h = some (v, h') → CallOk P f args h v h' := by
 intro args h v h' hx
 unfold alone at hx
 split at hx
 ·injection hx with hx
  injection hx with e1 e2
  subst e1 e2
  intro ι w args' hr hcr
  have hnil : args' = [] := by
   have := hcr.1
   cases args' with
   | nil => rfl
   | cons _ _ => simp at this
  subst hnil
  have hr0 : Rel ι ([] : Heap) w := ⟨fun b ro cs hb => by simp at hb, fun b ro cs hb => by simp at hb, fun b ro cs hb => by simp at hb, fun b cs hb => by simp at hb, fun b b' cs ro cs' hb => by simp at hb⟩
  refine (hc ι w [] hr0 ⟨rfl, fun _ => .undef⟩).mono fun e w' hh => ?_
  obtain ⟨ι', v', he, hs, hv⟩ := hh
  have hfr : ∀ B, B < w.heap.size → w'.heap[B]? = w.heap[B]? := fun B hB => hs.frame B hB (by rintro ⟨b, cs, hb, _⟩; simp at hb)
  refine ⟨ι, .bool b, by rw [he, hv.bool_inv], ?_, .bool b⟩
  have hcell : ∀ a x, w.cell? a = some x → w'.cell? a = some x := by
   intro a x hx
   have hlt := World.block_lt_of_cell? w _ hx
   simp only [World.cell?] at hx ⊢
   rw [hfr _ hlt]; exact hx
  refine ⟨Nat.le_refl _, fun _ _ => rfl, ⟨?_, ?_, ?_, ?_, ?_⟩, hs.size, fun B hB _ => hfr B hB, fun B hB => .inr hB, hs.tape, hs.os, hs.output, fun _ _ hb _ => .inl hb⟩
  ·intro b ro cs hb i hi
   obtain ⟨v', q1, q2, q3⟩ := hr.cell b ro cs hb i hi
   exact ⟨v', hcell _ _ q1, q2, q3⟩
  ·intro b ro cs hb hz
   exact Nat.lt_of_lt_of_le (hr.inside b ro cs hb hz) hs.size
  ·exact hr.fits
  ·intro b cs hb
   obtain ⟨c, e, lo, hi, q1, q2, q3⟩ := hr.own b cs hb
   refine ⟨c, e, lo, hi, ?_, q2, q3⟩
   rw [hfr _ (hr.inside b false cs hb (.inl rfl))]; exact q1
  ·exact hr.apart
 ·cases hx
end Go.Wb
namespace Go.Wb
open Go
inductive PV where
 | sc (v : Value)
 | agg (cs : List PV)
 | sl (n : Nat) (cs : List PV)
instance : Inhabited PV := ⟨.agg []⟩
inductive CV where
 | v (p : PV)
 | o (n s : Nat) (cs : List PV)
 | gone
inductive TV where
 | undef
 | val (p : PV)
 | own (n s : Nat) (cs : List PV)
 | box (cs : List CV)
 | ref (k : Nat) (c : Option Nat) (off : Nat)
 | slc (k : Nat) (c : Option Nat) (off n s : Nat)
 | pf (cs : List PV) (off : Nat)
 | tup (l : List CV)
 | hbox (cs : List CV)
 | clo (f : Nat) (caps : List (Nat ⊕ PV))
 | skip
inductive AV where
 | v (p : PV)
 | box (cs : List CV)
 | own (n s : Nat) (cs : List PV)
 | clo (f : Nat) (caps : List (Nat ⊕ PV))
abbrev TT := Nat → TV
def botT : TT := fun _ => .undef
def updT (t : TT) (k : Nat) (v : TV) : TT := fun i => if i = k then v else t i
def names (k : Nat) : List (Nat ⊕ PV) → Bool
 | [] => false
 | .inl j :: l => j == k || names k l
 | .inr _ :: l => names k l
def kl (k : Nat) : TV → TV
 | .clo f caps => if names k caps then .undef else .clo f caps
 | .ref k' c off => if k' = k then .undef else .ref k' c off
 | .slc k' c off n s => if k' = k then .undef else .slc k' c off n s
 | v => v
def klC (k : Nat) : TV → TV
 | .ref k' (some c) off => if k' = k then .undef else .ref k' (some c) off
 | .slc k' (some c) off n s => if k' = k then .undef else .slc k' (some c) off n s
 | v => v
def setR (t : TT) (k : Nat) (v : TV) : TT := fun i => if i = k then v else kl k (t i)
def setC (t : TT) (k : Nat) (v : TV) : TT := fun i => if i = k then v else klC k (t i)
def isRoot : TV → Bool
 | .own .. | .box .. | .tup .. | .hbox .. => true
 | _ => false
def putT (t : TT) (d : Option Tmp) (v : TV) : TT :=
 match d with
 | some k => if isRoot v then setR t k v else updT t k v
 | none => t
def restr : List Nat → TT → TT
 | [], _ => botT
 | v :: vs, t => updT (restr vs t) v (t v)
def scalar : Value → Bool
 | .bool _ | .int _ _ | .string _ | .nilFunc | .pointer none | .nilIface => true
 | .func (.func _) f c => f.size == 0 && c.size == 0
 | _ => false
def pvC : Value → Option PV
 | .slice none 0 0 => some (.sl 0 [])
 | v => if scalar v then some (.sc v) else none
def isNilS : Value → Bool
 | .slice none 0 0 => true
 | _ => false
def scalN (v : Value) : Bool := scalar v || isNilS v
def pvZ (v : Value) : Option PV := if isNilS v then some (.sc v) else pvC v
def pvZs : List Value → Option (List PV)
 | [] => some []
 | z :: zs => match pvZ z, pvZs zs with
   | some p, some l => some (p :: l)
   | _, _ => none
def pvCs : List Value → Option (List PV)
 | [] => some []
 | z :: zs => match pvC z, pvCs zs with
   | some p, some l => some (p :: l)
   | _, _ => none
def lookA : List (Nat × Nat) → Nat → Option Nat
 | [], _ => none
 | (j, s) :: l, i => if i = j then some s else lookA l i
def zcv (ann : List (Nat × Nat)) : Nat → List Value → Option (List CV)
 | _, [] => some []
 | j, z :: zs => match (if isNilS z then lookA ann j else none), pvC z, zcv ann (j + 1) zs with
   | some s, _, some l => some (.o 0 s [] :: l)
   | none, some p, some l => some (.v p :: l)
   | _, _, _ => none
def EvT (t : TT) : Operand → TV
 | .tmp i => t i
 | .const v => match pvC v with
   | some p => .val p
   | none => .undef
 | .global _ => .undef
 | .func f => .val (.sc (.func (.func f) #[] #[]))
def pvOf : TV → Option PV
 | .val p => some p
 | _ => none
def scV : TV → Value
 | .val (.sc v) => v
 | _ => Go.undef
def scT (t : TT) : T := fun i => scV (t i)
def plc (t : TT) : Operand → Option (Nat × Option Nat × Nat)
 | .tmp i => match t i with
   | .box _ => some (i, none, 0)
   | .ref k c off => some (k, c, off)
   | _ => none
 | _ => none
def unv : List CV → Option (List PV)
 | [] => some []
 | .v p :: l => (unv l).map (p :: ·)
 | _ :: _ => none
def cellC (cs : List CV) (i : Nat) : Option CV := cs[i]?
def cellP (cs : List PV) (i : Nat) : Option PV := cs[i]?
def sub (n s : Nat) (cs : List PV) (off m : Nat) : Option (List PV) :=
 if off = 0 ∧ m = n then some cs else if off + m * s ≤ cs.length then some ((cs.drop off).take (m * s)) else none
def rdSlc (t : TT) (k : Nat) (c : Option Nat) (off m s : Nat) : Option (List PV) :=
 match c, t k with
 | none, .own n s' cs => if s' = s then sub n s cs off m else none
 | none, .box cs => if off + m * s ≤ cs.length then unv ((cs.drop off).take (m * s)) else none
 | some j, .box cs => match cellC cs j with
   | some (.o n s' l) => if s' = s then sub n s l off m else none
   | _ => none
 | _, _ => none
def slv (t : TT) (x : Operand) : Option (Nat × List PV) :=
 match EvT t x with
 | .val (.sl n cs) => some (n, cs)
 | .val (.sc (.slice none 0 0)) => some (0, [])
 | .own n _ cs => some (n, cs)
 | .slc k c off n s => (rdSlc t k c off n s).map fun cs => (n, cs)
 | _ => none
def slLen : TV → Option Nat
 | .val (.sl n _) => some n
 | .val (.sc (.slice none 0 0)) => some 0
 | .own n _ _ => some n
 | .slc _ _ _ n _ => some n
 | _ => none
def ld1 (t : TT) (x : Operand) : Option TV :=
 match EvT t x with
 | .pf cs off => (cellP cs off).map .val
 | _ => match plc t x with
   | some (k, none, off) => match t k with
     | .box cs => match cellC cs off with
       | some (.v p) => some (.val p)
       | some (.o n s _) => some (.slc k (some off) 0 n s)
       | _ => none
     | .own _ _ cs => (cellP cs off).map .val
     | _ => none
   | some (k, some j, off) => match t k with
     | .box cs => match cellC cs j with
       | some (.o _ _ l) => (cellP l off).map .val
       | _ => none
     | _ => none
   | none => none
def frz : CV → CV
 | .o n _ cs => .v (.sl n cs)
 | c => c
def isV : CV → Bool
 | .v _ => true
 | _ => false
def ldN (m : Nat) (t : TT) (x : Operand) : Option (TV × TT) :=
 match EvT t x with
 | .pf cs off => if off + m ≤ cs.length then some (.val (.agg ((cs.drop off).take m)), t) else none
 | _ => match plc t x with
   | some (k, none, off) => match t k with
     | .box cs => if off + m ≤ cs.length then
      if cs.all isV then (unv ((cs.drop off).take m)).map fun l => (.val (.agg l), t)
      else (unv (((cs.map frz).drop off).take m)).map fun l => (.val (.agg l), setC t k (.box (cs.map frz)))
       else none
     | .own _ _ cs => if off + m ≤ cs.length then some (.val (.agg ((cs.drop off).take m)), t) else none
     | _ => none
   | _ => none
def st1 (t : TT) (a x : Operand) : Option TT :=
 match plc t a with
 | some (k, none, off) => match t k, EvT t x with
   | .box cs, .val (.agg _) => none
   | .box cs, .val p => match cellC cs off with
     | some (.v _) => some (updT t k (.box (cs.set off (.v p))))
     | some _ => some (setC t k (.box (cs.set off (.v p))))
     | none => none
   | .box cs, .own n s l => match x with
     | .tmp j => if off < cs.length ∧ j ≠ k then some (setC (setR t j .undef) k (.box (cs.set off (.o n s l)))) else none
     | _ => none
   | .own n s cs, .val (.agg _) => none
   | .own n s cs, .val p => if off < cs.length then some (updT t k (.own n s (cs.set off p))) else none
   | _, _ => none
 | some (k, some j, off) => match t k, EvT t x with
   | .box cs, .val (.agg _) => none
   | .box cs, .val p => match cellC cs j with
     | some (.o n s l) => if off < l.length then some (updT t k (.box (cs.set j (.o n s (l.set off p))))) else none
     | _ => none
   | _, _ => none
 | none => none
def stN (m : Nat) (t : TT) (a x : Operand) : Option TT :=
 match plc t a, EvT t x with
 | some (k, none, off), .val (.agg ps) => if ps.length = m then match t k with
  | .box cs => if off + m ≤ cs.length then
   if cs.all isV then some (updT t k (.box (cs.take off ++ ps.map .v ++ cs.drop (off + m)))) else some (setC t k (.box (cs.take off ++ ps.map .v ++ cs.drop (off + m))))
    else none
  | .own n s cs => if off + m ≤ cs.length then some (updT t k (.own n s (cs.take off ++ ps ++ cs.drop (off + m)))) else none
  | _ => none
   else none
 | some (k, some j, off), .val (.agg ps) => if ps.length = m then match t k with
  | .box cs => match cellC cs j with
    | some (.o n s l) => if off + m ≤ l.length then some (updT t k (.box (cs.set j (.o n s (l.take off ++ ps ++ l.drop (off + m)))))) else none
    | _ => none
  | _ => none
   else none
 | _, _ => none
def pvCells : PV → List PV
 | .agg cs => cs
 | p => [p]
def fillP (t : TT) : List PV → List (Nat × Nat × Operand) → Option (List PV)
 | cs, [] => some cs
 | cs, (off, size, x) :: rest => match EvT t x with
   | .val p => if (pvCells p).length = size ∧ off + size ≤ cs.length then fillP t (cs.take off ++ pvCells p ++ cs.drop (off + size)) rest else none
   | _ => none
def repP (n : Nat) : List PV → List PV
 | [z] => List.replicate n z
 | zs => (List.replicate n zs).flatten
def intOfT : TV → Option Int
 | .val (.sc (.int _ i)) => some i
 | _ => none
def boundT (t : TT) (dflt most : Nat) : Option Operand → Option Nat
 | none => if dflt ≤ most then some dflt else none
 | some x => match EvT t x with
   | .val (.sc (.int _ i)) => if 0 ≤ i ∧ i ≤ most then some i.toNat else none
   | _ => none
def isSc : AOp → Bool
 | .pick .. | .bin .. | .binB .. | .un .. | .convInt .. | .convStr .. | .idxStr .. | .lenStr .. | .sliceStr .. | .max2 .. | .min2 .. => true
 | _ => false
def scVals : List PV → Option (List Value)
 | [] => some []
 | .sc v :: l => (scVals l).map (v :: ·)
 | _ :: _ => none
def byteOf : PV → Option UInt8
 | .sc (.int .u8 n) => some (UInt8.ofNat n.toNat)
 | _ => none
def bytesOf : List PV → Option (List UInt8)
 | [] => some []
 | p :: l => match byteOf p, bytesOf l with
   | some b, some r => some (b :: r)
   | _, _ => none
def srcP (size : Nat) (t : TT) (x : Operand) : Option (Nat × List PV) :=
 match EvT t x with
 | .val (.sc (.string s)) => if size = 1 then some (s.size, s.data.toList.map fun b => .sc (.int .u8 b.toNat)) else none
 | _ => match slv t x with
   | some (n, cs) => if n * size = cs.length then some (n, cs) else none
   | none => none
def takeOwn (size : Nat) (t : TT) (x : Operand) : Option (Nat × Nat × List PV × TT) :=
 match x with
 | .tmp i => match t i with
   | .own n s cs => some (n, s, cs, setR t i .undef)
   | .val (.sc (.slice none 0 0)) => some (0, size, [], t)
   | .slc k none 0 m s => match t k with
     | .own n s' cs => if m = n ∧ s = s' then some (n, s, cs, setR t k .undef) else none
     | _ => none
   | .slc k (some j) 0 m s => match t k with
     | .box bs => match cellC bs j with
       | some (.o n s' cs) => if m = n ∧ s = s' then some (n, s, cs, setC t k (.box (bs.set j .gone))) else none
       | _ => none
     | _ => none
   | _ => none
 | _ => none
def appW (size bytes : Nat) (t : TT) (a x : Operand) : Option (TV × TT) :=
 match srcP size t x with
 | none => none
 | some (m, new) => match takeOwn size t a with
   | none => none
   | some (n, s, cs, t') => if s = size ∧ (n + m) * bytes ≤ lim47 then some (.own (n + m) s (cs ++ new), t') else none
def wrSlc (t : TT) (k : Nat) (c : Option Nat) (off m s : Nat) (new : List PV) : Option TT :=
 match c, t k with
 | none, .own n s' cs => if s' = s ∧ off + m * s ≤ cs.length ∧ new.length ≤ m * s then some (updT t k (.own n s (cs.take off ++ new ++ cs.drop (off + new.length)))) else none
 | none, .box cs => if off + m * s ≤ cs.length ∧ new.length ≤ m * s ∧ cs.all isV then some (updT t k (.box (cs.take off ++ new.map .v ++ cs.drop (off + new.length)))) else none
 | _, _ => none
def plcS (t : TT) : Operand → Option (Nat × Option Nat × Nat × Nat × Nat)
 | .tmp i => match t i with
   | .own n s _ => some (i, none, 0, n, s)
   | .slc k c off n s => some (k, c, off, n, s)
   | _ => none
 | _ => none
def copyW (size : Nat) (t : TT) (d x : Operand) : Option (TV × TT) :=
 match plcS t d, srcP size t x with
 | some (k, c, off, n, s), some (m, new) => if s = size then (wrSlc t k c off n s (new.take (Nat.min m n * size))).map fun t' => (.val (.sc (.int .i64 (Nat.min m n : Nat))), t') else none
 | _, _ => none
def tvC : CV → TV
 | .v p => .val p
 | .o n s cs => .own n s cs
 | .gone => .undef
def mvW (r : Bool) (ann : List (Nat × Nat)) (t : TT) (x : Operand) : Option (TV × TT) :=
 match x with
 | .tmp i => match t i with
   | .own n s cs => if r then some (.own n s cs, setR t i .undef) else some (.slc i none 0 n s, t)
   | .box cs => if r then some (.box cs, setR t i .undef) else some (.ref i none 0, t)
   | .tup l => some (.tup l, setR t i .undef)
   | .undef => none
   | .hbox _ => none
   | v => some (v, t)
 | .const v => match isNilS v, ann with
   | true, (_, s) :: _ => some (.own 0 s [], t)
   | _, _ => match pvC v with
     | some p => some (.val p, t)
     | none => none
 | .func f => some (.val (.sc (.func (.func f) #[] #[])), t)
 | .global _ => none
def capsW (t : TT) : List Operand → Option (List (Nat ⊕ PV))
 | [] => some []
 | x :: l => match capsW t l with
   | none => none
   | some r => match plc t x with
     | some (k, none, 0) => match t k with
       | .box _ => some (.inl k :: r)
       | _ => none
     | some _ => none
     | none => match EvT t x with
       | .val p => some (.inr p :: r)
       | _ => none
def opW (r : Bool) (ann : List (Nat × Nat)) (op : AOp) (t : TT) : Option (TV × TT) :=
 if isSc op then match aOp op (scT t) [] with
  | some (v, _) => if scalar v then some (.val (.sc v), t) else none
  | none => none
 else match op with
 | .move x => mvW r ann t x
 | .const v => (pvC v).map fun p => (.val p, t)
 | .box x => match x, EvT t x with
   | _, .val p => some (.box ((pvCells p).map .v), t)
   | .tmp i, .own n s cs => some (.box [.o n s cs], setR t i .undef)
   | _, _ => none
 | .alloc z => (zcv ann 0 z).map fun cs => (.box cs, t)
 | .build z ps => match pvZs z with
   | some l => (fillP t l ps).map fun cs => (.val (.agg cs), t)
   | none => none
 | .buildSlice size n z ps => match pvCs z with
   | some l => match fillP t (repP n l) ps with
     | some cs => if cs.length = n * size then some (.own n size cs, t) else none
     | none => none
   | none => none
 | .makeSlice size bytes z l c => match pvCs z, EvT t l, EvT t c with
   | some zs, .val (.sc (.int _ l)), .val (.sc (.int _ c)) => if 0 ≤ l ∧ l ≤ c ∧ bytes * c ≤ lim48 ∧ zs.length = size then some (.own l.toNat size (repP l.toNat zs), t) else none
   | _, _, _ => none
 | .strBytes x => match EvT t x with
   | .val (.sc (.string s)) => some (.own s.size 1 (s.data.toList.map fun b => .sc (.int .u8 b.toNat)), t)
   | _ => none
 | .bytesStr x => match slv t x with
   | some (n, cs) => if n = cs.length then (bytesOf cs).map fun l => (.val (.sc (.string ⟨l.toArray⟩)), t) else none
   | none => none
 | .load none x => (ld1 t x).map fun v => (v, t)
 | .load (some m) x => ldN m t x
 | .store none a x => (st1 t a x).map fun t' => (.undef, t')
 | .store (some m) a x => (stN m t a x).map fun t' => (.undef, t')
 | .nilCheck x => match EvT t x with
   | .pf cs off => some (.pf cs off, t)
   | _ => (plc t x).map fun p => (.ref p.1 p.2.1 p.2.2, t)
 | .eqv neg ks x y => match EvT t x, EvT t y with
   | .val (.agg a), .val (.agg b) => match scVals a, scVals b with
     | some a, some b => (eqCells ks a b).map fun v => (.val (.sc (.bool (neg != v))), t)
     | _, _ => none
   | _, _ => none
 | .nilv neg x => match slLen (EvT t x) with
   | some n => if 0 < n then some (.val (.sc (.bool (neg != false))), t) else none
   | none => none
 | .len x => (slLen (EvT t x)).map fun (n : Nat) => (.val (.sc (.int .i64 n)), t)
 | .sliceSl size x lo hi => match EvT t x with
   | .val (.sl n cs) => match boundT t n n hi with
     | some hh => match boundT t 0 hh lo with
       | some l => if n * size = cs.length then some (.val (.sl (hh - l) ((cs.drop (l * size)).take ((hh - l) * size))), t) else none
       | none => none
     | none => none
   | _ => match plcS t x with
     | some (k, c, off, n, s) => if s = size then match boundT t n n hi with
      | some hh => match boundT t 0 hh lo with
        | some l => some (.slc k c (off + l * size) (hh - l) s, t)
        | none => none
      | none => none
       else none
     | none => none
 | .sliceArr n size x lo hi => match EvT t x with
   | .pf cs off => if off + n * size ≤ cs.length then match boundT t n n hi with
    | some hh => match boundT t 0 hh lo with
      | some l => some (.val (.sl (hh - l) ((cs.drop (off + l * size)).take ((hh - l) * size))), t)
      | none => none
    | none => none
     else none
   | _ => match plc t x with
     | some (k, none, off) => match t k with
       | .box cs => if off + n * size ≤ cs.length then match boundT t n n hi with
         | some hh => match boundT t 0 hh lo with
           | some l => some (.slc k none (off + l * size) (hh - l) size, t)
           | none => none
         | none => none
         else none
       | _ => none
     | _ => none
 | .fieldAddr off x => match EvT t x with
   | .pf cs o => some (.pf cs (o + off), t)
   | _ => (plc t x).map fun p => (.ref p.1 p.2.1 (p.2.2 + off), t)
 | .field none off x => match EvT t x with
   | .val (.agg cs) => (cellP cs off).map fun p => (.val p, t)
   | _ => none
 | .field (some m) off x => match EvT t x with
   | .val (.agg cs) => some (.val (.agg ((cs.drop off).take m)), t)
   | _ => none
 | .idxAddrArr n size x i => match EvT t i with
   | .val (.sc (.int _ j)) => if 0 ≤ j ∧ j < n then match EvT t x with
    | .pf cs o => some (.pf cs (o + j.toNat * size), t)
    | _ => (plc t x).map fun p => (.ref p.1 p.2.1 (p.2.2 + j.toNat * size), t)
     else none
   | _ => none
 | .idxAddrSl size x i => match EvT t i with
   | .val (.sc (.int _ j)) => match EvT t x with
     | .val (.sl n cs) => if 0 ≤ j ∧ j < n ∧ n * size = cs.length then some (.pf cs (j.toNat * size), t) else none
     | _ => match plcS t x with
       | some (k, c, off, n, s) => if 0 ≤ j ∧ j < n ∧ s = size then some (.ref k c (off + j.toNat * size), t) else none
       | none => none
   | _ => none
 | .slArr n size x => match EvT t x with
   | .val (.sl m cs) => if 0 < n ∧ n ≤ m ∧ m * size = cs.length then some (.pf cs 0, t) else none
   | _ => match plcS t x with
     | some (k, c, off, m, s) => if 0 < n ∧ n ≤ m ∧ s = size then some (.ref k c off, t) else none
     | none => none
 | .idxArr n size none x i => match EvT t x, EvT t i with
   | .val (.agg cs), .val (.sc (.int _ j)) => if 0 ≤ j ∧ j < n then (cellP cs (j.toNat * size)).map fun p => (.val p, t) else none
   | _, _ => none
 | .idxArr n size (some m) x i => match EvT t x, EvT t i with
   | .val (.agg cs), .val (.sc (.int _ j)) => if 0 ≤ j ∧ j < n then some (.val (.agg ((cs.drop (j.toNat * size)).take m)), t) else none
   | _, _ => none
 | .append size bytes a x => appW size bytes t a x
 | .copy size d x => copyW size t d x
 | .func (.func f) [] cs => (capsW t cs).map fun l => (.clo f l, t)
 | .extract x i => match x with
   | .tmp k => match t k with
     | .tup l => match cellC l i with
       | some (.v p) => some (.val p, t)
       | some (.o n s cs) => some (.own n s cs, setC t k (.tup (l.set i .gone)))
       | _ => none
     | _ => none
   | _ => none
 | _ => none
end Go.Wb
namespace Go.Wb
open Go
inductive FR (h : Heap) (N : Nat → Prop) : PV → Value → Prop where
 | sc (v : Value) (hv : scalN v = true) : FR h N (.sc v) v
 | agg (cs : List PV) (a : Array Value) (hl : cs.length = a.size) (hc : ∀ i, i < cs.length → FR h N (cs.getD i default) (a.toList.getD i Go.undef)) : FR h N (.agg cs) (.agg a)
 | slNil : FR h N (.sl 0 []) (.slice none 0 0)
 | slE (b o s : Nat) : FR h N (.sl 0 []) (.slice (some ⟨b, o, none⟩) 0 s)
 | sl (n s : Nat) (cs : List PV) (b o : Nat) (ro : Bool) (ca : List Value) (hn : ¬ N b) (hb : h[b]? = some (.mem ro ca)) (hl : n * s = cs.length) (hf : o + cs.length ≤ ca.length)
  (hc : ∀ i, i < cs.length → FR h N (cs.getD i default) (ca.getD (o + i) Go.undef)) : FR h N (.sl n cs) (.slice (some ⟨b, o, none⟩) n s)
def FRs (h : Heap) (N : Nat → Prop) (cs : List PV) (ca : List Value) : Prop := cs.length = ca.length ∧ ∀ i, i < cs.length → FR h N (cs.getD i default) (ca.getD i Go.undef)
def Keeps (h : Heap) (N : Nat → Prop) (h' : Heap) (N' : Nat → Prop) : Prop := ∀ b ro ca, ¬ N b → h[b]? = some (.mem ro ca) → ¬ N' b ∧ h'[b]? = some (.mem ro ca)
theorem FR.keep {h h' : Heap} {N N' : Nat → Prop} {p : PV} {a : Value} (hf : FR h N p a) (hk : Keeps h N h' N') : FR h' N' p a := by
 induction hf with
 | sc v hv => exact .sc v hv
 | agg cs a hl _ ih => exact .agg cs a hl ih
 | slNil => exact .slNil
 | slE b o s => exact .slE b o s
 | sl n s cs b o ro ca hn hb hl hf _ ih =>
   obtain ⟨h1, h2⟩ := hk b ro ca hn hb
   exact .sl n s cs b o ro ca h1 h2 hl hf ih
theorem FRs.keep {h h' : Heap} {N N' : Nat → Prop} {cs : List PV} {ca : List Value} (hf : FRs h N cs ca) (hk : Keeps h N h' N') : FRs h' N' cs ca := ⟨hf.1, fun i hi => (hf.2 i hi).keep hk⟩
def OwnAt (h : Heap) (N : Nat → Prop) (ob : Option Nat) (n s : Nat) (cs : List PV) (a : Value) : Prop :=
 (ob = none ∧ n = 0 ∧ cs = [] ∧ a = .slice none 0 0) ∨ ∃ b ca, ob = some b ∧ a = .slice (some ⟨b, 0, none⟩) n s ∧ h[b]? = some (.mem false ca) ∧ n * s = cs.length ∧ FRs h N cs ca
def CVR (β : Option Nat → Option Nat) (h : Heap) (N : Nat → Prop) (j : Nat) : CV → Value → Prop
 | .v p, a => FR h N p a
 | .o n s cs, a => OwnAt h N (β (some j)) n s cs a
 | .gone, _ => True
def TRr (β : Option Nat → Option Nat) (h : Heap) (N : Nat → Prop) : TV → Value → Prop
 | .own n s cs, a => OwnAt h N (β none) n s cs a
 | .box cs, a => ∃ b ca, β none = some b ∧ a = .pointer (some ⟨b, 0, none⟩) ∧ h[b]? = some (.mem false ca) ∧ cs.length = ca.length ∧ ∀ j, j < cs.length → CVR β h N j (cs.getD j .gone) (ca.getD j Go.undef)
 | .tup l, a => ∃ as : Array Value, a = .tuple as ∧ l.length = as.size ∧ ∀ j, j < l.length → CVR β h N j (l.getD j .gone) (as.toList.getD j Go.undef)
 | .hbox cs, _ => ∃ b ca, β none = some b ∧ h[b]? = some (.mem false ca) ∧ cs.length = ca.length ∧ ∀ j, j < cs.length → CVR β h N j (cs.getD j .gone) (ca.getD j Go.undef)
 | _, _ => False
def CapR (β : Nat → Option Nat → Option Nat) (h : Heap) (N : Nat → Prop) : Nat ⊕ PV → Value → Prop
 | .inl k, a => ∃ b, β k none = some b ∧ a = .pointer (some ⟨b, 0, none⟩)
 | .inr p, a => FR h N p a
def TR (β : Nat → Option Nat → Option Nat) (h : Heap) (N : Nat → Prop) (i : Nat) : TV → Value → Prop
 | .undef, _ => True
 | .skip, a => a = Go.undef
 | .val p, a => FR h N p a
 | .ref k c off, a => ∃ b, β k c = some b ∧ a = .pointer (some ⟨b, off, none⟩)
 | .slc k c off n s, a => (β k c = none ∧ n = 0 ∧ a = .slice none 0 0) ∨ ∃ b, β k c = some b ∧ a = .slice (some ⟨b, off, none⟩) n s
 | .pf cs off, a => ∃ b o ro ca, a = .pointer (some ⟨b, o + off, none⟩) ∧ ¬ N b ∧ h[b]? = some (.mem ro ca) ∧ o + cs.length ≤ ca.length ∧ ∀ i, i < cs.length → FR h N (cs.getD i default) (ca.getD (o + i) Go.undef)
 | .own n s cs, a => TRr (β i) h N (.own n s cs) a
 | .box cs, a => TRr (β i) h N (.box cs) a
 | .tup l, a => TRr (β i) h N (.tup l) a
 | .hbox cs, a => TRr (β i) h N (.hbox cs) a
 | .clo f caps, a => ∃ as : Array Value, a = .func (.func f) #[] as ∧ caps.length = as.size ∧ ∀ j, j < caps.length → CapR β h N (caps.getD j (.inl 0)) (as.toList.getD j Go.undef)
abbrev Bt := Nat → Option Nat → Option Nat
def NF (M : Nat → Prop) (β : Bt) : Nat → Prop := fun b => M b ∨ ∃ k c, β k c = some b
structure SR (M : Nat → Prop) (β : Bt) (h : Heap) (t : TT) (tA : T) : Prop where
 tr : ∀ i, TR β h (NF M β) i (t i) (tA i)
 inj : ∀ k c k' c' b, β k c = some b → β k' c' = some b → k = k' ∧ c = c'
 lt : ∀ k c b, β k c = some b → b < h.length ∧ ¬ M b
 mlt : ∀ b, M b → b < h.length
structure Fr (β : Bt) (h : Heap) (β' : Bt) (h' : Heap) : Prop where
 len : h.length ≤ h'.length
 same : ∀ b, b < h.length → (∀ k c, β k c ≠ some b) → h'[b]? = h[b]?
 own : ∀ k c b, β' k c = some b → h.length ≤ b ∨ ∃ k' c', β k' c' = some b
theorem Fr.refl {β : Bt} {h : Heap} : Fr β h β h := ⟨Nat.le_refl _, fun _ _ _ => rfl, fun k c b hb => .inr ⟨k, c, hb⟩⟩
theorem Fr.trans {β β1 β2 : Bt} {h h1 h2 : Heap} (a : Fr β h β1 h1) (b : Fr β1 h1 β2 h2) : Fr β h β2 h2 where
 len := Nat.le_trans a.len b.len
 same := fun x hx hn => by
  rw [b.same x (Nat.lt_of_lt_of_le hx a.len) (fun k c hk => ?_), a.same x hx hn]
  rcases a.own k c x hk with h3 | ⟨k', c', h3⟩
  ·omega
  ·exact hn k' c' h3
 own := fun k c x hx => by
  rcases b.own k c x hx with h3 | ⟨k', c', h3⟩
  ·exact .inl (Nat.le_trans a.len h3)
  ·exact a.own k' c' x h3
theorem Fr.less {β β' : Bt} {h : Heap} (hb : ∀ k c b, β' k c = some b → ∃ k' c', β k' c' = some b) : Fr β h β' h := ⟨Nat.le_refl _, fun _ _ _ => rfl, fun k c b hk => .inr (hb k c b hk)⟩
theorem Keeps.less {h : Heap} {N N' : Nat → Prop} (hn : ∀ b, N' b → N b) : Keeps h N h N' := fun _ _ _ h1 h2 => ⟨fun h3 => h1 (hn _ h3), h2⟩
theorem Keeps.refl {h : Heap} {N : Nat → Prop} : Keeps h N h N := fun _ _ _ h1 h2 => ⟨h1, h2⟩
theorem OwnAt.keep {h h' : Heap} {N N' : Nat → Prop} {ob : Option Nat} {n s : Nat} {cs : List PV} {a : Value} (hf : OwnAt h N ob n s cs a) (hk : Keeps h N h' N') (hb : ∀ b, ob = some b → h'[b]? = h[b]?) : OwnAt h' N' ob n s cs a := by
 rcases hf with hf | ⟨b, ca, h1, h2, h3, h4, h5⟩
 ·exact .inl hf
 ·exact .inr ⟨b, ca, h1, h2, by rw [hb b h1]; exact h3, h4, h5.keep hk⟩
theorem CVR.keep {β : Option Nat → Option Nat} {h h' : Heap} {N N' : Nat → Prop} {j : Nat} {c : CV} {a : Value} (hf : CVR β h N j c a) (hk : Keeps h N h' N') (hb : ∀ b, β (some j) = some b → h'[b]? = h[b]?) : CVR β h' N' j c a := by
 cases c with
 | v p => exact FR.keep hf hk
 | o n s cs => exact OwnAt.keep hf hk hb
 | gone => trivial
theorem TRr.keep {β : Option Nat → Option Nat} {h h' : Heap} {N N' : Nat → Prop} {v : TV} {a : Value} (hf : TRr β h N v a) (hk : Keeps h N h' N') (hb : ∀ c b, β c = some b → h'[b]? = h[b]?) : TRr β h' N' v a := by
 cases v with
 | own n s cs => exact OwnAt.keep hf hk (hb _)
 | box cs =>
   obtain ⟨b, ca, h1, h2, h3, h4, h5⟩ := hf
   exact ⟨b, ca, h1, h2, by rw [hb _ b h1]; exact h3, h4, fun j hj => (h5 j hj).keep hk (hb _)⟩
 | tup l =>
   obtain ⟨as, h1, h2, h3⟩ := hf
   exact ⟨as, h1, h2, fun j hj => (h3 j hj).keep hk (hb _)⟩
 | hbox cs =>
   obtain ⟨b, ca, h1, h3, h4, h5⟩ := hf
   exact ⟨b, ca, h1, by rw [hb _ b h1]; exact h3, h4, fun j hj => (h5 j hj).keep hk (hb _)⟩
 | _ => exact hf.elim
theorem CapR.keep {β : Bt} {h h' : Heap} {N N' : Nat → Prop} {c : Nat ⊕ PV} {a : Value} (hf : CapR β h N c a) (hk : Keeps h N h' N') : CapR β h' N' c a := by
 cases c with
 | inl k => exact hf
 | inr p => exact FR.keep hf hk
theorem TR.keep {β : Bt} {h h' : Heap} {N N' : Nat → Prop} {i : Nat} {v : TV} {a : Value} (hf : TR β h N i v a) (hk : Keeps h N h' N') (hb : ∀ c b, β i c = some b → h'[b]? = h[b]?) : TR β h' N' i v a := by
 cases v with
 | undef => trivial
 | skip => exact hf
 | val p => exact FR.keep hf hk
 | ref k c off => exact hf
 | slc k c off n s => exact hf
 | pf cs off =>
   obtain ⟨b, o, ro, ca, h1, h2, h3, h4, h5⟩ := hf
   obtain ⟨q1, q2⟩ := hk b ro ca h2 h3
   exact ⟨b, o, ro, ca, h1, q1, q2, h4, fun j hj => (h5 j hj).keep hk⟩
 | own n s cs => exact TRr.keep (v := .own n s cs) (β := β i) hf hk hb
 | box cs => exact TRr.keep (v := .box cs) (β := β i) hf hk hb
 | tup l => exact TRr.keep (v := .tup l) (β := β i) hf hk hb
 | hbox l => exact TRr.keep (v := .hbox l) (β := β i) (a := a) hf hk hb
 | clo f caps =>
   obtain ⟨as, h1, h2, h3⟩ := hf
   exact ⟨as, h1, h2, fun j hj => (h3 j hj).keep hk⟩
theorem TR.at {β : Bt} {h : Heap} {N : Nat → Prop} {i j : Nat} {v : TV} {a : Value} (hr : isRoot v = false) (hf : TR β h N i v a) : TR β h N j v a := by
 cases v <;> first | exact hf | cases hr
section
variable {M : Nat → Prop} {β : Bt} {h : Heap} {t : TT} {tA : T}
theorem SR.upd (s : SR M β h t tA) {d : Nat} {v : TV} {a : Value} (hv : TR β h (NF M β) d v a) : SR M β h (updT t d v) (Go.Wb.upd tA d a) := by
 refine ⟨fun i => ?_, s.inj, s.lt, s.mlt⟩
 unfold updT Go.Wb.upd
 split
 ·rename_i hi; subst hi; exact hv
 ·exact s.tr i
def setB (β : Bt) (d : Nat) (p : Option Nat → Option Nat) : Bt := fun k c => if k = d then p c else β k c
theorem setB_same {d : Nat} {p : Option Nat → Option Nat} : setB β d p d = p := by funext c; simp [setB]
theorem setB_ne {d k : Nat} {p : Option Nat → Option Nat} (hk : k ≠ d) : setB β d p k = β k := by funext c; simp [setB, hk]
theorem names_at {k : Nat} : ∀ {caps : List (Nat ⊕ PV)} {j : Nat}, j < caps.length → caps.getD j (.inl 0) = .inl k → names k caps = true
 | [], j, hj, _ => by simp at hj
 | .inl x :: l, 0, _, hc => by
   have : x = k := by simpa using hc
   subst this
   simp [names]
 | .inr x :: l, 0, _, hc => by simp at hc
 | .inl x :: l, j + 1, hj, hc => by
   have := names_at (caps := l) (j := j) (by simpa using hj) (by simpa using hc)
   simp [names, this]
 | .inr x :: l, j + 1, hj, hc => by
   have := names_at (caps := l) (j := j) (by simpa using hj) (by simpa using hc)
   simp [names, this]
theorem kl_tr {N : Nat → Prop} {d i : Nat} {p : Option Nat → Option Nat} {v : TV} {a : Value} (hi : i ≠ d) (hv : TR β h N i v a) : TR (setB β d p) h N i (kl d v) a := by
 cases v with
 | ref k c off =>
   simp only [kl]
   split
   ·trivial
   ·rename_i hk
    obtain ⟨b, h1, h2⟩ := hv
    exact ⟨b, by rw [setB_ne hk]; exact h1, h2⟩
 | slc k c off n s =>
   simp only [kl]
   split
   ·trivial
   ·rename_i hk
    rcases hv with ⟨h0, hv⟩ | ⟨b, h1, h2⟩
    ·exact .inl ⟨by rw [setB_ne hk]; exact h0, hv⟩
    ·exact .inr ⟨b, by rw [setB_ne hk]; exact h1, h2⟩
 | undef => trivial
 | skip => exact hv
 | val p => exact hv
 | pf cs off => exact hv
 | own n s cs =>
   simp only [kl, TR] at hv ⊢
   rw [setB_ne hi]; exact hv
 | box cs =>
   simp only [kl, TR] at hv ⊢
   rw [setB_ne hi]; exact hv
 | tup l =>
   simp only [kl, TR] at hv ⊢
   rw [setB_ne hi]; exact hv
 | hbox l =>
   simp only [kl, TR] at hv ⊢
   rw [setB_ne hi]; exact hv
 | clo f caps =>
   simp only [kl]
   split
   ·trivial
   ·rename_i hn
    obtain ⟨as, h1, h2, h3⟩ := hv
    refine ⟨as, h1, h2, fun j hj => ?_⟩
    have := h3 j hj
    cases hc : caps.getD j (.inl 0) with
    | inr p => rw [hc] at this; exact this
    | inl k =>
      rw [hc] at this
      obtain ⟨b, q1, q2⟩ := this
      refine ⟨b, ?_, q2⟩
      rw [setB_ne]
      ·exact q1
      ·intro he
       subst he
       exact hn (names_at hj hc)
theorem SR.root {X : Nat → Prop} (s : SR (fun b => M b ∨ X b) β h t tA) {d : Nat} {v : TV} {a : Value} (p : Option Nat → Option Nat)
 (hp : ∀ c b, p c = some b → X b ∧ ¬ M b) (hi : ∀ c c' b, p c = some b → p c' = some b → c = c') (hv : TR (setB β d p) h (NF (fun b => M b ∨ X b) β) d v a) : SR M (setB β d p) h (setR t d v) (Go.Wb.upd tA d a) := by
 have hless : ∀ b, NF M (setB β d p) b → NF (fun b => M b ∨ X b) β b := by
  rintro b (hb | ⟨k, c, hb⟩)
  ·exact .inl (.inl hb)
  ·unfold setB at hb
   split at hb
   ·exact .inl (.inr (hp c b hb).1)
   ·exact .inr ⟨k, c, hb⟩
 refine ⟨fun i => ?_, ?_, ?_, fun b hb => s.mlt b (.inl hb)⟩
 ·unfold setR Go.Wb.upd
  split
  ·rename_i hi; subst hi
   exact hv.keep (Keeps.less hless) (fun _ _ _ => rfl)
  ·rename_i hi
   exact (kl_tr hi (s.tr i)).keep (Keeps.less hless) (fun _ _ _ => rfl)
 ·intro k c k' c' b h1 h2
  unfold setB at h1 h2
  split at h1
  ·rename_i hk; subst hk
   split at h2
   ·rename_i hk'; subst hk'
    exact ⟨rfl, hi c c' b h1 h2⟩
   ·exact absurd (.inr (hp c b h1).1) (s.lt k' c' b h2).2
  ·split at h2
   ·exact absurd (.inr (hp c' b h2).1) (s.lt k c b h1).2
   ·exact s.inj k c k' c' b h1 h2
 ·intro k c b hb
  unfold setB at hb
  split at hb
  ·exact ⟨s.mlt b (.inr (hp c b hb).1), (hp c b hb).2⟩
  ·exact ⟨(s.lt k c b hb).1, fun hm => (s.lt k c b hb).2 (.inl hm)⟩
theorem SR.heap {h' : Heap} {X Y : Nat → Prop} (s : SR (fun b => M b ∨ X b) β h t tA) (hl : h.length ≤ h'.length) (hs : ∀ b, b < h.length → ¬ X b → h'[b]? = h[b]?) (hY : ∀ b, Y b → X b ∨ (h.length ≤ b ∧ b < h'.length)) :
 SR (fun b => M b ∨ Y b) β h' t tA := by
 have hk : Keeps h (NF (fun b => M b ∨ X b) β) h' (NF (fun b => M b ∨ Y b) β) := by
  intro b ro ca h1 h2
  have hb : b < h.length := get_lt h2
  have hx : ¬ X b := fun hx => h1 (.inl (.inr hx))
  refine ⟨?_, by rw [hs b hb hx]; exact h2⟩
  rintro ((hm | hy) | ho)
  ·exact h1 (.inl (.inl hm))
  ·rcases hY b hy with hy | hy
   ·exact hx hy
   ·omega
  ·exact h1 (.inr ho)
 refine ⟨fun i => (s.tr i).keep hk fun c b hb => ?_, s.inj, fun k c b hb => ⟨Nat.lt_of_lt_of_le (s.lt k c b hb).1 hl, ?_⟩, ?_⟩
 ·have h1 := s.lt i c b hb
  exact hs b h1.1 fun hx => h1.2 (.inr hx)
 ·have h1 := s.lt k c b hb
  rintro (hm | hy)
  ·exact h1.2 (.inl hm)
  ·rcases hY b hy with hy | hy
   ·exact h1.2 (.inr hy)
   ·omega
 ·rintro b (hm | hy)
  ·exact Nat.lt_of_lt_of_le (s.mlt b (.inl hm)) hl
  ·rcases hY b hy with hy | hy
   ·exact Nat.lt_of_lt_of_le (s.mlt b (.inr hy)) hl
   ·exact hy.2
theorem SR.set0 (s : SR M β h t tA) : SR (fun b => M b ∨ False) β h t tA := by simpa using s
theorem SR.weak {X : Nat → Prop} (s : SR (fun b => M b ∨ X b) β h t tA) : SR M β h t tA := by
 have := s.heap (Y := fun _ => False) (Nat.le_refl _) (fun _ _ _ => rfl) (fun _ hf => hf.elim)
 simpa using this
theorem SR.drop {X : Nat → Prop} (s : SR (fun b => M b ∨ X b) β h t tA) (k : Nat) (keep : Option Nat → Bool) (v : TV)
 (hv : TR (setB β k fun c => if keep c then β k c else none) h (NF (fun b => M b ∨ X b) β) k v (tA k)) (f : TV → TV)
 (hf : ∀ i u a, i ≠ k → TR β h (NF (fun b => M b ∨ X b) β) i u a → TR (setB β k fun c => if keep c then β k c else none) h (NF (fun b => M b ∨ X b) β) i (f u) a) :
 SR (fun b => M b ∨ (X b ∨ ∃ c, keep c = false ∧ β k c = some b)) (setB β k fun c => if keep c then β k c else none) h (fun i => if i = k then v else f (t i)) tA := by
 have hsub : ∀ k' c b, setB β k (fun c => if keep c then β k c else none) k' c = some b → β k' c = some b := by
  intro k' c b hb
  unfold setB at hb
  split at hb
  ·rename_i hk; subst hk
   dsimp only at hb
   split at hb
   ·exact hb
   ·cases hb
  ·exact hb
 have hkp : Keeps h (NF (fun b => M b ∨ X b) β) h (NF (fun b => M b ∨ (X b ∨ ∃ c, keep c = false ∧ β k c = some b)) (setB β k fun c => if keep c then β k c else none)) := by
  refine Keeps.less ?_
  rintro b ((hm | hx | ⟨c, _, hc⟩) | ⟨k', c, hc⟩)
  ·exact .inl (.inl hm)
  ·exact .inl (.inr hx)
  ·exact .inr ⟨k, c, hc⟩
  ·exact .inr ⟨k', c, hsub _ _ _ hc⟩
 refine ⟨fun i => ?_, fun k1 c1 k2 c2 b h1 h2 => s.inj k1 c1 k2 c2 b (hsub _ _ _ h1) (hsub _ _ _ h2), ?_, ?_⟩
 ·split
  ·rename_i hi; subst hi
   exact hv.keep hkp (fun _ _ _ => rfl)
  ·rename_i hi
   exact (hf i _ _ hi (s.tr i)).keep hkp (fun _ _ _ => rfl)
 ·intro k' c b hb
  have h1 := s.lt k' c b (hsub _ _ _ hb)
  refine ⟨h1.1, ?_⟩
  rintro (hm | hx | ⟨c2, hk2, hc2⟩)
  ·exact h1.2 (.inl hm)
  ·exact h1.2 (.inr hx)
  ·obtain ⟨e1, e2⟩ := s.inj _ _ _ _ _ (hsub _ _ _ hb) hc2
   subst e1 e2
   unfold setB at hb
   rw [if_pos rfl] at hb
   dsimp only at hb
   rw [if_neg (by simp [hk2])] at hb
   cases hb
 ·rintro b (hm | hx | ⟨c, _, hc⟩)
  ·exact s.mlt b (.inl hm)
  ·exact s.mlt b (.inr hx)
  ·exact (s.lt k c b hc).1
theorem SR.write (s : SR M β h t tA) {k : Nat} {c : Option Nat} {b : Nat} {ca : List Value} (hb : β k c = some b) (v : TV) (f : TV → TV) (hf : ∀ i u a, i ≠ k → TR β h (NF M β) i u a → TR β h (NF M β) i (f u) a)
 (hv : ∀ h', h' = h.set b (.mem false ca) → Keeps h (NF M β) h' (NF M β) → TR β h' (NF M β) k v (tA k)) : SR M β (h.set b (.mem false ca)) (fun i => if i = k then v else f (t i)) tA := by
 have hk : Keeps h (NF M β) (h.set b (.mem false ca)) (NF M β) := by
  intro b' ro ca' h1 h2
  refine ⟨h1, ?_⟩
  have hne : b ≠ b' := fun he => h1 (.inr ⟨k, c, he ▸ hb⟩)
  rw [List.getElem?_set_ne hne]
  exact h2
 refine ⟨fun i => ?_, s.inj, fun k c b hb => by rw [List.length_set]; exact s.lt k c b hb, fun b hb => by rw [List.length_set]; exact s.mlt b hb⟩
 split
 ·rename_i hi; subst hi
  exact hv _ rfl hk
 ·rename_i hi
  refine (hf i _ _ hi (s.tr i)).keep hk fun c' b' hb' => ?_
  have hne : b ≠ b' := fun he => hi (s.inj _ _ _ _ _ (he ▸ hb') hb).1
  rw [List.getElem?_set_ne hne]
theorem Fr.write {b : Nat} {k : Nat} {c : Option Nat} (hb : β k c = some b) {x : Blk} : Fr β h β (h.set b x) := by
 refine ⟨by simp, fun b' _ hn => ?_, fun k c b hb => .inr ⟨k, c, hb⟩⟩
 have hne : b ≠ b' := fun he => hn k c (he ▸ hb)
 rw [List.getElem?_set_ne hne]
end
end Go.Wb
namespace Go.Wb
open Go
theorem getD_lt {α : Type} {l : List α} {i : Nat} {d : α} (h : i < l.length) : l[i]? = some (l.getD i d) := by
 simp [List.getD, h]
theorem pvC_fr {h : Heap} {N : Nat → Prop} {v : Value} {p : PV} (hp : pvC v = some p) : FR h N p v := by
 unfold pvC at hp
 split at hp
 ·injection hp with hp; subst hp; exact .slNil
 ·split at hp
  ·rename_i hs
   injection hp with hp; subst hp; exact .sc _ (by simp [scalN, hs])
  ·cases hp
section
variable {M : Nat → Prop} {β : Bt} {h : Heap} {t : TT} {tA : T}
theorem ev_val (s : SR M β h t tA) {x : Operand} {p : PV} (hx : EvT t x = .val p) : FR h (NF M β) p (Ev tA x) := by
 cases x with
 | tmp i => have := s.tr i; simp only [EvT] at hx; rw [hx] at this; exact this
 | const v =>
   simp only [EvT] at hx
   split at hx
   ·rename_i hp
    injection hx with hx
    subst hx
    exact pvC_fr hp
   ·cases hx
 | global g => cases hx
 | func f =>
   simp only [EvT] at hx
   injection hx with hx
   subst hx
   exact .sc _ rfl
theorem ev_sc (s : SR M β h t tA) {x : Operand} {v : Value} (hx : EvT t x = .val (.sc v)) : Ev tA x = v ∧ scalN v = true := by
 have := ev_val s hx
 cases this with
 | sc v hv => exact ⟨rfl, hv⟩
theorem ev_pf (s : SR M β h t tA) {x : Operand} {cs : List PV} {off : Nat} (hx : EvT t x = .pf cs off) : TR β h (NF M β) 0 (.pf cs off) (Ev tA x) := by
 cases x with
 | tmp i => have := s.tr i; simp only [EvT] at hx; rw [hx] at this; exact this
 | const v => simp only [EvT] at hx; split at hx <;> cases hx
 | global g => cases hx
 | func f => cases hx
theorem plc_ok (s : SR M β h t tA) {x : Operand} {k : Nat} {c : Option Nat} {off : Nat} (hx : plc t x = some (k, c, off)) : ∃ b, β k c = some b ∧ Ev tA x = .pointer (some ⟨b, off, none⟩) := by
 unfold plc at hx
 split at hx
 ·rename_i i
  have := s.tr i
  split at hx
  ·rename_i cs hi
   injection hx with hx; injection hx with e1 hx; injection hx with e2 e3
   subst e1 e2 e3
   rw [hi] at this
   obtain ⟨b, ca, h1, h2, _⟩ := this
   exact ⟨b, h1, h2⟩
  ·rename_i k' c' off' hi
   injection hx with hx; injection hx with e1 hx; injection hx with e2 e3
   subst e1 e2 e3
   rw [hi] at this
   exact this
  ·cases hx
 ·cases hx
theorem at_box (s : SR M β h t tA) {k : Nat} {cs : List CV} (hk : t k = .box cs) {b : Nat} (hb : β k none = some b) :
 ∃ ca, tA k = .pointer (some ⟨b, 0, none⟩) ∧ h[b]? = some (.mem false ca) ∧ cs.length = ca.length ∧ ∀ j, j < cs.length → CVR (β k) h (NF M β) j (cs.getD j .gone) (ca.getD j Go.undef) := by
 have := s.tr k
 rw [hk] at this
 obtain ⟨b', ca, h1, h2, h3, h4, h5⟩ := this
 rw [hb] at h1
 injection h1 with h1
 subst h1
 exact ⟨ca, h2, h3, h4, h5⟩
theorem at_own (s : SR M β h t tA) {k n s' : Nat} {cs : List PV} (hk : t k = .own n s' cs) {b : Nat} (hb : β k none = some b) :
 ∃ ca, tA k = .slice (some ⟨b, 0, none⟩) n s' ∧ h[b]? = some (.mem false ca) ∧ n * s' = cs.length ∧ FRs h (NF M β) cs ca := by
 have := s.tr k
 rw [hk] at this
 rcases this with ⟨h1, _⟩ | ⟨b', ca, h1, h2, h3, h4, h5⟩
 ·rw [hb] at h1; cases h1
 ·rw [hb] at h1
  injection h1 with h1
  subst h1
  exact ⟨ca, h2, h3, h4, h5⟩
theorem cell_own {β' : Option Nat → Option Nat} {N : Nat → Prop} {cs : List CV} {ca : List Value} {j n s' : Nat} {l : List PV} (hc : ∀ j, j < cs.length → CVR β' h N j (cs.getD j .gone) (ca.getD j Go.undef)) (hj : cellC cs j = some (.o n s' l)) :
 j < cs.length ∧ OwnAt h N (β' (some j)) n s' l (ca.getD j Go.undef) := by
 unfold cellC at hj
 have hlt : j < cs.length := (List.getElem?_eq_some_iff.1 hj).1
 have := hc j hlt
 rw [List.getD_eq_getElem?_getD, hj] at this
 exact ⟨hlt, this⟩
def SlA (h : Heap) (N : Nat → Prop) (n : Nat) (cs : List PV) (a : Value) : Prop :=
 (n = 0 ∧ cs = [] ∧ (a = .slice none 0 0 ∨ ∃ b o s, a = .slice (some ⟨b, o, none⟩) 0 s)) ∨
 ∃ b o s ro ca, a = .slice (some ⟨b, o, none⟩) n s ∧ h[b]? = some (.mem ro ca) ∧ n * s = cs.length ∧ o + cs.length ≤ ca.length ∧ ∀ i, i < cs.length → FR h N (cs.getD i default) (ca.getD (o + i) Go.undef)
theorem fr_sl {N : Nat → Prop} {n : Nat} {cs : List PV} {a : Value} (hf : FR h N (.sl n cs) a) : SlA h N n cs a := by
 cases hf with
 | slNil => exact .inl ⟨rfl, rfl, .inl rfl⟩
 | slE b o s => exact .inl ⟨rfl, rfl, .inr ⟨b, o, s, rfl⟩⟩
 | sl n s cs b o ro ca hn hb hl hf hc => exact .inr ⟨b, o, s, ro, ca, rfl, hb, hl, hf, hc⟩
theorem own_sla {N : Nat → Prop} {ob : Option Nat} {n s : Nat} {cs : List PV} {a : Value} (hf : OwnAt h N ob n s cs a) : SlA h N n cs a := by
 rcases hf with ⟨_, rfl, rfl, rfl⟩ | ⟨b, ca, _, h2, h3, h4, h5⟩
 ·exact .inl ⟨rfl, rfl, .inl rfl⟩
 ·exact .inr ⟨b, 0, s, false, ca, h2, h3, h4, by rw [h5.1]; omega, fun i hi => by rw [Nat.zero_add]; exact h5.2 i hi⟩
theorem take_drop_getD {α : Type} {l : List α} {o n i : Nat} {d : α} (hi : i < n) : ((l.drop o).take n).getD i d = l.getD (o + i) d := by
 simp only [List.getD_eq_getElem?_getD, List.getElem?_take, List.getElem?_drop]
 rw [if_pos hi]
theorem sub_sla {N : Nat → Prop} {b off m s n : Nat} {cs l : List PV} {ca : List Value} (hb : h[b]? = some (.mem false ca)) (hl : n * s = cs.length) (hf : FRs h N cs ca) (hsub : sub n s cs off m = some l) :
 SlA h N m l (.slice (some ⟨b, off, none⟩) m s) := by
 unfold sub at hsub
 split at hsub
 ·rename_i hc
  obtain ⟨rfl, rfl⟩ := hc
  injection hsub with hsub
  subst hsub
  exact .inr ⟨b, 0, s, false, ca, rfl, hb, hl, by rw [hf.1]; omega, fun i hi => by rw [Nat.zero_add]; exact hf.2 i hi⟩
 ·split at hsub
  ·rename_i hle
   injection hsub with hsub
   subst hsub
   have hlen : ((cs.drop off).take (m * s)).length = m * s := by rw [List.length_take, List.length_drop]; omega
   refine .inr ⟨b, off, s, false, ca, rfl, hb, hlen.symm, by rw [hlen, ← hf.1]; exact hle, fun i hi => ?_⟩
   rw [hlen] at hi
   rw [take_drop_getD hi]
   exact hf.2 _ (by omega)
  ·cases hsub
theorem unv_ok {β' : Option Nat → Option Nat} {N : Nat → Prop} : ∀ {cs : List CV} {l : List PV}, unv cs = some l → cs = l.map .v
 | [], l, hx => by simp only [unv] at hx; injection hx with hx; subst hx; rfl
 | .v p :: cs, l, hx => by
   simp only [unv, Option.map_eq_some_iff] at hx
   obtain ⟨l', h1, rfl⟩ := hx
   rw [unv_ok (β' := β') (N := N) h1]
   rfl
 | .o .. :: cs, l, hx => by simp [unv] at hx
 | .gone :: cs, l, hx => by simp [unv] at hx
theorem map_v_getD {l : List PV} {i : Nat} (hi : i < l.length) : (l.map CV.v).getD i .gone = .v (l.getD i default) := by
 simp [List.getD, hi]
theorem unv_fr {β' : Option Nat → Option Nat} {N : Nat → Prop} {cs : List CV} {ca : List Value} {off m : Nat} {l : List PV} (hlen : cs.length = ca.length) (hc : ∀ j, j < cs.length → CVR β' h N j (cs.getD j .gone) (ca.getD j Go.undef))
 (hle : off + m ≤ cs.length) (hx : unv ((cs.drop off).take m) = some l) : l.length = m ∧ ∀ i, i < m → FR h N (l.getD i default) (ca.getD (off + i) Go.undef) := by
 have he := unv_ok (β' := β') (N := N) hx
 have hl : l.length = m := by
  have := congrArg List.length he
  rw [List.length_map, List.length_take, List.length_drop] at this
  omega
 refine ⟨hl, fun i hi => ?_⟩
 have h1 := hc (off + i) (by omega)
 rw [← take_drop_getD (l := cs) hi, he, map_v_getD (by omega)] at h1
 exact h1
theorem rdSlc_ok (s : SR M β h t tA) {k : Nat} {c : Option Nat} {off n s' : Nat} {l : List PV} {a : Value} (ha : TR β h (NF M β) 0 (.slc k c off n s') a) (hx : rdSlc t k c off n s' = some l) : SlA h (NF M β) n l a := by
 have nilcase : n = 0 → a = .slice none 0 0 → l.length = 0 → SlA h (NF M β) n l a := fun h1 h2 h3 => .inl ⟨h1, List.length_eq_zero_iff.1 h3, .inl h2⟩
 unfold rdSlc at hx
 split at hx
 ·rename_i n' s2 cs hk
  split at hx
  ·rename_i hs
   subst hs
   have htr := s.tr k
   rw [hk] at htr
   rcases ha with ⟨_, h0, hn⟩ | ⟨b, hb, rfl⟩
   ·refine nilcase h0 hn ?_
    have hsl := own_sla htr
    unfold sub at hx
    split at hx
    ·rename_i hc
     injection hx with hx
     subst hx
     rcases hsl with ⟨_, h2, _⟩ | ⟨_, _, _, _, _, _, _, h4, _⟩
     ·simp [h2]
     ·rcases htr with ⟨_, _, h3, _⟩ | ⟨_, _, _, _, _, h4, _⟩
      ·simp [h3]
      ·rw [← h4, ← hc.2, h0, Nat.zero_mul]
    ·split at hx
     ·injection hx with hx
      subst hx
      simp [h0]
     ·cases hx
   ·obtain ⟨ca, h1, h2, h3, h4⟩ := at_own s hk hb
    exact sub_sla h2 h3 h4 hx
  ·cases hx
 ·rename_i cs hk
  split at hx
  ·rename_i hle
   rcases ha with ⟨_, h0, hn⟩ | ⟨b, hb, rfl⟩
   ·refine nilcase h0 hn ?_
    have he := unv_ok (β' := β k) (N := NF M β) hx
    have := congrArg List.length he
    rw [List.length_map, List.length_take, h0, Nat.zero_mul] at this
    omega
   ·obtain ⟨ca, h1, h2, h3, h4⟩ := at_box s hk hb
    obtain ⟨q1, q2⟩ := unv_fr h3 h4 hle hx
    exact .inr ⟨b, off, s', false, ca, rfl, h2, q1.symm, by rw [q1, ← h3]; exact hle, fun i hi => q2 i (by omega)⟩
  ·cases hx
 ·rename_i j cs hk
  split at hx
  ·rename_i n' s2 l' hj
   split at hx
   ·rename_i hs
    subst hs
    have htr := s.tr k
    rw [hk] at htr
    obtain ⟨b0, ca0, g1, g2, g3, g4, g5⟩ := htr
    obtain ⟨hjl, hown⟩ := cell_own g5 hj
    rcases ha with ⟨_, h0, hn⟩ | ⟨b, hb, rfl⟩
    ·refine nilcase h0 hn ?_
     unfold sub at hx
     split at hx
     ·rename_i hc
      injection hx with hx
      subst hx
      rcases hown with ⟨_, _, h3, _⟩ | ⟨_, _, _, _, _, h4, _⟩
      ·simp [h3]
      ·rw [← h4, ← hc.2, h0, Nat.zero_mul]
     ·split at hx
      ·injection hx with hx
       subst hx
       simp [h0]
      ·cases hx
    ·rcases hown with ⟨h1, _⟩ | ⟨b', ca, h1, h2, h3, h4, h5⟩
     ·rw [hb] at h1; cases h1
     ·rw [hb] at h1
      injection h1 with h1
      subst h1
      exact sub_sla h3 h4 h5 hx
   ·cases hx
  ·cases hx
 ·cases hx
theorem ev_slc (s : SR M β h t tA) {x : Operand} {k : Nat} {c : Option Nat} {off n s' : Nat} (hx : EvT t x = .slc k c off n s') : TR β h (NF M β) 0 (.slc k c off n s') (Ev tA x) := by
 cases x with
 | tmp i => have := s.tr i; simp only [EvT] at hx; rw [hx] at this; exact this
 | const v => simp only [EvT] at hx; split at hx <;> cases hx
 | global g => cases hx
 | func f => cases hx
theorem ev_own (s : SR M β h t tA) {x : Operand} {n s' : Nat} {cs : List PV} (hx : EvT t x = .own n s' cs) : ∃ i, x = .tmp i ∧ t i = .own n s' cs ∧ OwnAt h (NF M β) (β i none) n s' cs (tA i) := by
 cases x with
 | tmp i => have := s.tr i; simp only [EvT] at hx; rw [hx] at this; exact ⟨i, rfl, hx, this⟩
 | const v => simp only [EvT] at hx; split at hx <;> cases hx
 | global g => cases hx
 | func f => cases hx
theorem slv_ok (s : SR M β h t tA) {x : Operand} {n : Nat} {cs : List PV} (hx : slv t x = some (n, cs)) : SlA h (NF M β) n cs (Ev tA x) := by
 unfold slv at hx
 split at hx
 ·rename_i n' cs' he
  injection hx with hx; injection hx with e1 e2; subst e1 e2
  exact fr_sl (ev_val s he)
 ·rename_i he
  injection hx with hx; injection hx with e1 e2; subst e1 e2
  exact .inl ⟨rfl, rfl, .inl (ev_sc s he).1⟩
 ·rename_i n' s' cs' he
  injection hx with hx; injection hx with e1 e2; subst e1 e2
  obtain ⟨i, rfl, _, ho⟩ := ev_own s he
  exact own_sla ho
 ·rename_i k c off n' s' he
  rw [Option.map_eq_some_iff] at hx
  obtain ⟨l, h1, h2⟩ := hx
  injection h2 with e1 e2; subst e1 e2
  exact rdSlc_ok s (ev_slc s he) h1
 ·cases hx
theorem slLen_ok (s : SR M β h t tA) {x : Operand} {n : Nat} (hx : slLen (EvT t x) = some n) : (∃ p s, Ev tA x = .slice p n s) ∧ (0 < n → ∃ p s, Ev tA x = .slice (some p) n s) := by
 unfold slLen at hx
 split at hx
 ·rename_i n' cs' he
  injection hx with hx; subst hx
  rcases fr_sl (ev_val s he) with ⟨h1, h2, h3 | ⟨b, o, s', h3⟩⟩ | ⟨b, o, s', ro, ca, h3, _⟩
  ·exact ⟨⟨_, _, by rw [h3, h1]⟩, fun h => by omega⟩
  ·exact ⟨⟨_, _, by rw [h3, h1]⟩, fun h => by omega⟩
  ·exact ⟨⟨_, _, h3⟩, fun _ => ⟨_, _, h3⟩⟩
 ·rename_i he
  injection hx with hx; subst hx
  exact ⟨⟨none, 0, (ev_sc s he).1⟩, fun h => by omega⟩
 ·rename_i n' s' cs' he
  injection hx with hx; subst hx
  obtain ⟨i, rfl, _, ho⟩ := ev_own s he
  rcases ho with ⟨_, h1, _, h3⟩ | ⟨b, ca, _, h3, _⟩
  ·exact ⟨⟨none, 0, by simp only [Ev]; rw [h3, h1]⟩, fun h => by omega⟩
  ·exact ⟨⟨_, _, h3⟩, fun _ => ⟨_, _, h3⟩⟩
 ·rename_i k c off n' s' he
  injection hx with hx; subst hx
  rcases ev_slc s he with ⟨_, h1, h3⟩ | ⟨b, _, h3⟩
  ·exact ⟨⟨none, 0, by rw [h3, h1]⟩, fun h => by omega⟩
  ·exact ⟨⟨_, _, h3⟩, fun _ => ⟨_, _, h3⟩⟩
 ·cases hx
theorem srcP_ok (s : SR M β h t tA) {size : Nat} {x : Operand} {n : Nat} {cs : List PV} (hx : srcP size t x = some (n, cs)) :
 ∃ ca, srcCells h size (Ev tA x) = some ca ∧ srcLen (Ev tA x) = n ∧ n * size = cs.length ∧ FRs h (NF M β) cs ca := by
 unfold srcP at hx
 split at hx
 ·rename_i str he
  split at hx
  ·rename_i h1
   injection hx with hx; injection hx with e1 e2; subst e1 e2
   rw [(ev_sc s he).1]
   subst h1
   refine ⟨str.data.toList.map fun b => .int .u8 b.toNat, by simp [srcCells], rfl, by rw [Nat.mul_one, List.length_map, Array.length_toList]; rfl, by rw [List.length_map, List.length_map], fun i hi => ?_⟩
   rw [List.length_map] at hi
   have e1 : (str.data.toList.map fun b => PV.sc (.int .u8 b.toNat)).getD i default = .sc (.int .u8 (str.data.toList[i]).toNat) := by
    simp only [List.getD_eq_getElem?_getD, List.getElem?_map, List.getElem?_eq_getElem hi, Option.map_some, Option.getD_some]
   have e2 : (str.data.toList.map fun b => Value.int .u8 b.toNat).getD i Go.undef = (.int .u8 (str.data.toList[i]).toNat) := by
    simp only [List.getD_eq_getElem?_getD, List.getElem?_map, List.getElem?_eq_getElem hi, Option.map_some, Option.getD_some]
   rw [e1, e2]
   exact .sc _ rfl
  ·cases hx
 ·split at hx
  ·rename_i n' cs' hsl
   split at hx
   ·rename_i hn
    injection hx with hx; injection hx with e1 e2; subst e1 e2
    rcases slv_ok s hsl with ⟨rfl, rfl, h3 | ⟨b, o, s', h3⟩⟩ | ⟨b, o, s', ro, ca, h3, h4, h5, h6, h7⟩
    ·rw [h3]
     exact ⟨[], rfl, rfl, by simp, rfl, by simp⟩
    ·rw [h3]
     exact ⟨[], by simp [srcCells], rfl, by simp, rfl, by simp⟩
    ·rw [h3]
     by_cases h0 : n' = 0
     ·subst h0
      have : cs'.length = 0 := by omega
      have : cs' = [] := List.length_eq_zero_iff.1 this
      subst this
      exact ⟨[], by simp [srcCells], rfl, by simp, rfl, by simp⟩
     ·have hss : s' = size := by
       have : n' * s' = n' * size := by rw [h5, hn]
       exact Nat.eq_of_mul_eq_mul_left (by omega) this
      subst hss
      refine ⟨(ca.drop o).take (n' * s'), ?_, rfl, hn, ?_, fun i hi => ?_⟩
      ·simp only [srcCells, if_neg h0, if_true, readN, h4]
       rw [if_pos (by omega)]
      ·rw [List.length_take, List.length_drop]; omega
      ·rw [take_drop_getD (by omega)]
       exact h7 i hi
   ·cases hx
  ·cases hx
theorem fr_one {N : Nat → Prop} {p : PV} {a : Value} (hf : FR h N p a) (hp : ∀ cs, p ≠ .agg cs) : a.oneCell' = true ∧ isTuple a = false ∧ valCells a = [a] := by
 cases hf with
 | sc _ hv => cases a <;> first | exact ⟨rfl, rfl, rfl⟩ | simp [scalN, scalar, isNilS] at hv
 | agg cs a hl hc => exact absurd rfl (hp cs)
 | slNil => exact ⟨rfl, rfl, rfl⟩
 | slE => exact ⟨rfl, rfl, rfl⟩
 | sl => exact ⟨rfl, rfl, rfl⟩
theorem fr_agg {N : Nat → Prop} {cs : List PV} {a : Value} (hf : FR h N (.agg cs) a) : ∃ as : Array Value, a = .agg as ∧ FRs h N cs as.toList := by
 cases hf with
 | agg cs a hl hc => exact ⟨a, rfl, by rw [hl, Array.length_toList], hc⟩
theorem frs_agg {N : Nat → Prop} {cs : List PV} {ca : List Value} (hf : FRs h N cs ca) : FR h N (.agg cs) (.agg ca.toArray) := .agg _ _ (by rw [hf.1]; simp) (by simpa using hf.2)
theorem frs_cells {N : Nat → Prop} {p : PV} {a : Value} (hf : FR h N p a) : FRs h N (pvCells p) (valCells a) ∧ isTuple a = false := by
 cases p with
 | agg cs =>
   obtain ⟨as, rfl, h1⟩ := fr_agg hf
   exact ⟨h1, rfl⟩
 | _ =>
   obtain ⟨h1, h2, h3⟩ := fr_one hf (by simp)
   rw [h3]
   refine ⟨⟨rfl, fun i hi => ?_⟩, h2⟩
   have : i = 0 := by simpa [pvCells] using hi
   subst this
   exact hf
theorem frs_take {N : Nat → Prop} {cs : List PV} {ca : List Value} (hf : FRs h N cs ca) (n : Nat) : FRs h N (cs.take n) (ca.take n) := by
 refine ⟨by simp [hf.1], fun i hi => ?_⟩
 rw [List.length_take] at hi
 have h1 := hf.2 i (by omega)
 have e1 : (cs.take n).getD i default = cs.getD i default := by simp only [List.getD_eq_getElem?_getD, List.getElem?_take]; rw [if_pos (by omega)]
 have e2 : (ca.take n).getD i Go.undef = ca.getD i Go.undef := by simp only [List.getD_eq_getElem?_getD, List.getElem?_take]; rw [if_pos (by omega)]
 rw [e1, e2]; exact h1
theorem frs_drop {N : Nat → Prop} {cs : List PV} {ca : List Value} (hf : FRs h N cs ca) (n : Nat) : FRs h N (cs.drop n) (ca.drop n) := by
 refine ⟨by simp [hf.1], fun i hi => ?_⟩
 rw [List.length_drop] at hi
 have h1 := hf.2 (n + i) (by omega)
 have e1 : (cs.drop n).getD i default = cs.getD (n + i) default := by simp only [List.getD_eq_getElem?_getD, List.getElem?_drop]
 have e2 : (ca.drop n).getD i Go.undef = ca.getD (n + i) Go.undef := by simp only [List.getD_eq_getElem?_getD, List.getElem?_drop]
 rw [e1, e2]; exact h1
theorem frs_append {N : Nat → Prop} {cs ds : List PV} {ca da : List Value} (hf : FRs h N cs ca) (hg : FRs h N ds da) : FRs h N (cs ++ ds) (ca ++ da) := by
 refine ⟨by simp [hf.1, hg.1], fun i hi => ?_⟩
 rw [List.length_append] at hi
 simp only [List.getD_eq_getElem?_getD]
 rcases Nat.lt_or_ge i cs.length with h1 | h1
 ·rw [List.getElem?_append_left h1, List.getElem?_append_left (by rw [← hf.1]; exact h1)]
  simpa [List.getD_eq_getElem?_getD] using hf.2 i h1
 ·rw [List.getElem?_append_right h1, List.getElem?_append_right (by rw [← hf.1]; exact h1), ← hf.1]
  simpa [List.getD_eq_getElem?_getD] using hg.2 (i - cs.length) (by omega)
theorem frs_set {N : Nat → Prop} {cs : List PV} {ca : List Value} {j : Nat} {p : PV} {a : Value} (hf : FRs h N cs ca) (hp : FR h N p a) : FRs h N (cs.set j p) (ca.set j a) := by
 refine ⟨by simp [hf.1], fun i hi => ?_⟩
 rw [List.length_set] at hi
 simp only [List.getD_eq_getElem?_getD, List.getElem?_set]
 by_cases h1 : j = i
 ·subst h1
  rw [if_pos rfl, if_pos hi, if_pos rfl, if_pos (by rw [← hf.1]; exact hi)]
  exact hp
 ·rw [if_neg h1, if_neg h1]
  simpa [List.getD_eq_getElem?_getD] using hf.2 i hi
theorem frs_rep {N : Nat → Prop} {cs : List PV} {ca : List Value} (hf : FRs h N cs ca) (n : Nat) : FRs h N (repP n cs) (repCells n ca) := by
 have gen : ∀ n, FRs h N (List.replicate n cs).flatten (List.replicate n ca).flatten := by
  intro n
  induction n with
  | zero => exact ⟨rfl, by simp⟩
  | succ n ih => simp only [List.replicate_succ, List.flatten_cons]; exact frs_append hf ih
 match cs, ca, hf with
 | [z], [y], hf =>
   simp only [repP, repCells]
   have := gen n
   have e1 : (List.replicate n [z]).flatten = List.replicate n z := by simp
   have e2 : (List.replicate n [y]).flatten = List.replicate n y := by simp
   rw [e1, e2] at this
   exact this
 | [], [], hf => exact gen n
 | [], _ :: _, hf => have := hf.1; simp at this
 | [z], [], hf => have := hf.1; simp at this
 | [z], _ :: _ :: _, hf => have := hf.1; simp at this
 | _ :: _ :: _, [], hf => have := hf.1; simp at this
 | _ :: _ :: _, [_], hf => have := hf.1; simp at this
 | _ :: _ :: _, _ :: _ :: _, hf => exact gen n
theorem repP_len {z : List PV} (n : Nat) : (repP n z).length = n * z.length := by
 match z with
 | [z] => simp [repP]
 | [] => simp [repP]
 | _ :: _ :: _ => simp [repP, List.length_flatten]
theorem pvZs_frs {N : Nat → Prop} : ∀ {z : List Value} {l : List PV}, pvZs z = some l → FRs h N l z
 | [], l, hx => by simp only [pvZs] at hx; injection hx with hx; subst hx; exact ⟨rfl, by simp⟩
 | z :: zs, l, hx => by
   simp only [pvZs] at hx
   split at hx
   ·rename_i p l' h1 h2
    injection hx with hx; subst hx
    have ih := pvZs_frs (N := N) h2
    have h0 : FR h N p z := by
     unfold pvZ at h1
     split at h1
     ·rename_i hn
      injection h1 with h1; subst h1
      exact .sc _ (by simp [scalN, hn])
     ·exact pvC_fr h1
    refine ⟨by simp [ih.1], fun i hi => ?_⟩
    cases i with
    | zero => simpa using h0
    | succ i => simpa using ih.2 i (by simpa using hi)
   ·cases hx
theorem pvCs_frs {N : Nat → Prop} : ∀ {z : List Value} {l : List PV}, pvCs z = some l → FRs h N l z
 | [], l, hx => by simp only [pvCs] at hx; injection hx with hx; subst hx; exact ⟨rfl, by simp⟩
 | z :: zs, l, hx => by
   simp only [pvCs] at hx
   split at hx
   ·rename_i p l' h1 h2
    injection hx with hx; subst hx
    have ih := pvCs_frs (N := N) h2
    exact frs_append (cs := [p]) (ca := [z]) ⟨rfl, fun i hi => by have : i = 0 := by simpa using hi
                                                                  subst this; exact pvC_fr h1⟩ ih
   ·cases hx
theorem fillP_ok (s : SR M β h t tA) : ∀ {ps : List (Nat × Nat × Operand)} {cs l : List PV} {ca : List Value}, FRs h (NF M β) cs ca → fillP t cs ps = some l → ∃ la, fillL tA ca ps = some la ∧ FRs h (NF M β) l la ∧ l.length = cs.length
 | [], cs, l, ca, hf, hx => by
   simp only [fillP] at hx; injection hx with hx; subst hx
   exact ⟨ca, rfl, hf, rfl⟩
 | (off, size, x) :: ps, cs, l, ca, hf, hx => by
   simp only [fillP] at hx
   split at hx
   ·rename_i p he
    split at hx
    ·rename_i hc
     obtain ⟨h1, h2⟩ := frs_cells (ev_val s he)
     obtain ⟨la, q1, q2, q3⟩ := fillP_ok s (frs_append (frs_append (frs_take hf off) h1) (frs_drop hf (off + size))) hx
     refine ⟨la, ?_, q2, ?_⟩
     ·simp only [fillL]
      rw [if_pos ⟨by rw [← h1.1]; exact hc.1, by rw [← hf.1]; exact hc.2, h2⟩]
      exact q1
     ·rw [q3]
      simp only [List.length_append, List.length_take, List.length_drop]
      omega
    ·cases hx
   ·cases hx
theorem bound_ok (s : SR M β h t tA) {d m r : Nat} {o : Option Operand} (hx : boundT t d m o = some r) : bound tA d m o = some r := by
 cases o with
 | none => exact hx
 | some x =>
   simp only [boundT] at hx
   simp only [bound]
   split at hx
   ·rename_i k i he
    rw [(ev_sc s he).1]
    exact hx
   ·cases hx
theorem zcv_ok {N : Nat → Prop} {β' : Option Nat → Option Nat} (hβ : ∀ j, β' (some j) = none) {ann : List (Nat × Nat)} : ∀ {z : List Value} {j : Nat} {cs : List CV}, zcv ann j z = some cs → cs.length = z.length ∧ ∀ i, i < cs.length → ∀ j', CVR β' h N j' (cs.getD i .gone) (z.getD i Go.undef)
 | [], j, cs, hx => by simp only [zcv] at hx; injection hx with hx; subst hx; exact ⟨rfl, by simp⟩
 | z :: zs, j, cs, hx => by
   simp only [zcv] at hx
   split at hx
   ·rename_i s l h1 h2
    injection hx with hx; subst hx
    obtain ⟨q1, q2⟩ := zcv_ok hβ h2
    refine ⟨by simp [q1], fun i hi j' => ?_⟩
    cases i with
    | zero =>
      have hz : z = .slice none 0 0 := by
       split at h1
       ·rename_i hn
        unfold isNilS at hn
        split at hn
        ·rfl
        ·cases hn
       ·cases h1
      subst hz
      exact .inl ⟨hβ j', rfl, rfl, rfl⟩
    | succ i => exact q2 i (by simpa using hi) j'
   ·rename_i p l _ h1 h2
    injection hx with hx; subst hx
    obtain ⟨q1, q2⟩ := zcv_ok hβ h2
    refine ⟨by simp [q1], fun i hi j' => ?_⟩
    cases i with
    | zero => exact pvC_fr h1
    | succ i => exact q2 i (by simpa using hi) j'
   ·cases hx
end
end Go.Wb
namespace Go.Wb
open Go
def Sound (M : Nat → Prop) (β : Bt) (h : Heap) (tA : T) (r : Option (Value × Heap)) (v : TV) (t1 : TT) : Prop :=
 ∃ a h', r = some (a, h') ∧ ∀ d : Option Tmp, ∃ β', Fr β h β' h' ∧ SR M β' h' (putT t1 d v) (put tA d a)
section
variable {M : Nat → Prop} {β β1 : Bt} {h h' : Heap} {t t1 : TT} {tA : T} {r : Option (Value × Heap)} {v : TV} {a : Value}
theorem Sound.plain (ha : r = some (a, h')) (fr : Fr β h β1 h') (s : SR M β1 h' t1 tA) (hr : isRoot v = false) (hv : TR β1 h' (NF M β1) 0 v a) : Sound M β h tA r v t1 := by
 refine ⟨a, h', ha, fun d => ⟨β1, fr, ?_⟩⟩
 cases d with
 | none => exact s
 | some d =>
   simp only [putT, hr, put]
   exact s.upd (hv.at hr)
theorem Sound.root {X : Nat → Prop} (ha : r = some (a, h')) (fr : Fr β h β1 h') (s : SR (fun b => M b ∨ X b) β1 h' t1 tA) (p : Option Nat → Option Nat) (hp : ∀ c b, p c = some b → X b ∧ ¬ M b)
 (hi : ∀ c c' b, p c = some b → p c' = some b → c = c') (hX : ∀ b, X b → h.length ≤ b ∨ ∃ k c, β k c = some b) (hr : isRoot v = true) (hv : TRr p h' (NF (fun b => M b ∨ X b) β1) v a) : Sound M β h tA r v t1 := by
 refine ⟨a, h', ha, fun d => ?_⟩
 cases d with
 | none => exact ⟨β1, fr, s.weak⟩
 | some d =>
   refine ⟨setB β1 d p, ⟨fr.len, fr.same, fun k c b hb => ?_⟩, ?_⟩
   ·unfold setB at hb
    split at hb
    ·exact hX b (hp c b hb).1
    ·exact fr.own k c b hb
   ·simp only [putT, hr, put, if_true]
    refine s.root p hp hi ?_
    cases v <;> first | (cases hr; done) | skip
    all_goals
     simp only [TR]
     rw [setB_same]
     exact hv
theorem Sound.new {cells : List Value} (ha : r = some (a, newBlk h cells)) (s : SR M β h t tA) (hr : isRoot v = true)
 (hv : ∀ N, (∀ cs ca, FRs h (NF M β) cs ca → FRs (newBlk h cells) N cs ca) → (newBlk h cells)[h.length]? = some (Blk.mem false cells) → TRr (fun c => if c = none then some h.length else none) (newBlk h cells) N v a) : Sound M β h tA r v t := by
 have hlen : (newBlk h cells).length = h.length + 1 := by simp [newBlk]
 have hget : (newBlk h cells)[h.length]? = some (Blk.mem false cells) := by simp [newBlk]
 have hold : ∀ b, b < h.length → (newBlk h cells)[b]? = h[b]? := fun b hb => by simp only [newBlk]; rw [List.getElem?_append_left hb]
 have s1 := s.set0.heap (h' := newBlk h cells) (Y := fun b => b = h.length) (by omega) (fun b hb _ => hold b hb) (fun b hb => .inr (by subst hb; omega))
 refine Sound.root (X := fun b => b = h.length) ha ⟨by omega, fun b hb _ => hold b hb, fun k c b hb => .inr ⟨k, c, hb⟩⟩ s1 (fun c => if c = none then some h.length else none) ?_ ?_ ?_ hr ?_
 ·intro c b hb
  split at hb
  ·injection hb with hb
   exact ⟨hb.symm, fun hm => by have := s.mlt b hm; omega⟩
  ·cases hb
 ·intro c c' b h1 h2
  split at h1 <;> split at h2 <;> simp_all
 ·intro b hb
  exact .inl (by omega)
 ·refine hv _ (fun cs ca hf => hf.keep ?_) hget
  intro b ro ca' h1 h2
  have hb : b < h.length := get_lt h2
  refine ⟨?_, by rw [hold b hb]; exact h2⟩
  rintro ((hm | hx) | ho)
  ·exact h1 (.inl hm)
  ·have hx : b = h.length := hx
   omega
  ·exact h1 (.inr ho)
theorem Sound.newOwn {n s' : Nat} {cs : List PV} {cells : List Value} (ha : r = some (.slice (some ⟨h.length, 0, none⟩) n s', newBlk h cells)) (s : SR M β h t tA) (hl : n * s' = cs.length) (hf : FRs h (NF M β) cs cells) : Sound M β h tA r (.own n s' cs) t :=
 .new ha s rfl fun N hk hg => .inr ⟨h.length, cells, by simp, rfl, hg, hl, hk _ _ hf⟩
theorem scT_ev (s : SR M β h t tA) (x : Operand) : Ev tA x = Ev (scT t) x ∨ Ev (scT t) x = Go.undef := by
 cases x with
 | tmp i =>
   simp only [Ev, scT, scV]
   have := s.tr i
   split
   ·rename_i v hv
    rw [hv] at this
    cases this
    exact .inl rfl
   ·exact .inr rfl
 | const v => exact .inl rfl
 | global g => exact .inl rfl
 | func f => exact .inl rfl
theorem undef_eq : Go.undef = Value.tuple #[] := rfl
theorem bound_sc (s : SR M β h t tA) {d m r : Nat} {o : Option Operand} (hx : bound (scT t) d m o = some r) : bound tA d m o = some r := by
 cases o with
 | none => exact hx
 | some x =>
   simp only [bound] at hx ⊢
   rcases scT_ev s x with h1 | h1
   ·rw [h1]; exact hx
   ·rw [h1, undef_eq] at hx; cases hx
theorem two_ok {α : Type} (s : SR M β h t tA) (f : Value → Value → Option α) (h1 : ∀ y, f Go.undef y = none) (h2 : ∀ x, f x Go.undef = none) {x y : Operand} {u : α} (hx : f (Ev (scT t) x) (Ev (scT t) y) = some u) : f (Ev tA x) (Ev tA y) = some u := by
 rcases scT_ev s x with e1 | e1
 ·rcases scT_ev s y with e2 | e2
  ·rw [e1, e2]; exact hx
  ·rw [e2, h2] at hx; cases hx
 ·rw [e1, h1] at hx; cases hx
theorem one_ok {α : Type} (s : SR M β h t tA) (f : Value → Option α) (h1 : f Go.undef = none) {x : Operand} {u : α} (hx : f (Ev (scT t) x) = some u) : f (Ev tA x) = some u := by
 rcases scT_ev s x with e1 | e1
 ·rw [e1]; exact hx
 ·rw [e1, h1] at hx; cases hx
theorem nil_heap {α : Type} {g : Heap → Option (α × Heap)} (hg : ∀ h, g h = (g []).map fun x => (x.1, h)) {v : α} {hh h : Heap} (hx : g [] = some (v, hh)) : g h = some (v, h) := by
 rw [hg h, hx]; rfl
theorem sc_sound (s : SR M β h t tA) {op : AOp} {v : Value} {hh : Heap} (hs : isSc op = true) (hx : aOp op (scT t) [] = some (v, hh)) (hv : scalar v = true) : aOp op tA h = some (v, h) := by
 cases op <;> first | (cases hs; done) | skip
 all_goals simp only [aOp] at hx ⊢
 case pick c a b =>
  have hu : scalar Go.undef = false := rfl
  rcases scT_ev s c with h1 | h1
  ·rw [h1]
   split at hx
   ·injection hx with hx; injection hx with e1 e2; subst e1
    rcases scT_ev s a with h2 | h2
    ·rw [h2]
    ·rw [h2, hu] at hv; cases hv
   ·injection hx with hx; injection hx with e1 e2; subst e1
    rcases scT_ev s b with h2 | h2
    ·rw [h2]
    ·rw [h2, hu] at hv; cases hv
   ·cases hx
  ·rw [h1, undef_eq] at hx; cases hx
 case sliceStr x lo hi =>
  rcases scT_ev s x with h1 | h1
  ·rw [h1]
   split at hx
   ·rename_i str he
    split at hx
    ·rename_i q1 hb1
     split at hx
     ·rename_i q2 hb2
      injection hx with hx; injection hx with e1 e2; subst e1
      rw [bound_sc s hb1]; simp only
      rw [bound_sc s hb2]
     ·cases hx
    ·cases hx
   ·cases hx
  ·rw [h1, undef_eq] at hx; cases hx
 case bin op x y =>
  rw [Option.map_eq_some_iff] at hx ⊢
  obtain ⟨u, q1, q2⟩ := hx
  injection q2 with e1 e2
  subst e1
  exact ⟨u, two_ok s (aBin op) (fun y => rfl) (fun x => by cases x <;> rfl) q1, rfl⟩
 case binB op x y =>
  rw [Option.map_eq_some_iff] at hx ⊢
  obtain ⟨u, q1, q2⟩ := hx
  injection q2 with e1 e2
  subst e1
  exact ⟨u, two_ok s (aBinB op) (fun y => by cases op <;> rfl) (fun x => by cases op <;> cases x <;> rfl) q1, rfl⟩
 case un op x =>
  rw [Option.map_eq_some_iff] at hx ⊢
  obtain ⟨u, q1, q2⟩ := hx
  injection q2 with e1 e2
  subst e1
  exact ⟨u, one_ok s (aUn op) (by cases op <;> rfl) q1, rfl⟩
 case convInt k x =>
  refine nil_heap (g := fun h => (match Ev tA x with | .int _ n => some (.int k (k.wrap n), h) | _ => none : Option (Value × Heap))) (fun h => ?_) (hh := hh) ?_
  ·cases Ev tA x <;> rfl
  ·exact one_ok s (fun y => match y with | .int _ n => some (Value.int k (k.wrap n), ([] : Heap)) | _ => none) rfl hx
 case convStr x =>
  refine nil_heap (g := fun h => (match Ev tA x with | .string s => some (.string s, h) | _ => none : Option (Value × Heap))) (fun h => ?_) (hh := hh) ?_
  ·cases Ev tA x <;> rfl
  ·exact one_ok s (fun y => match y with | .string s => some (Value.string s, ([] : Heap)) | _ => none) rfl hx
 case lenStr x =>
  refine nil_heap (g := fun h => (match Ev tA x with | .string s => some (.int .i64 s.size, h) | _ => none : Option (Value × Heap))) (fun h => ?_) (hh := hh) ?_
  ·cases Ev tA x <;> rfl
  ·exact one_ok s (fun y => match y with | .string s => some (Value.int .i64 s.size, ([] : Heap)) | _ => none) rfl hx
 case idxStr x y =>
  refine nil_heap (g := fun h => (match Ev tA x, Ev tA y with | .string s, .int _ i => if 0 ≤ i then (s.data.toList[i.toNat]?).map fun b => (.int .u8 b.toNat, h) else none | _, _ => none : Option (Value × Heap))) (fun h => ?_) (hh := hh) ?_
  ·cases Ev tA x <;> first | rfl | skip
   cases Ev tA y <;> first | rfl | skip
   simp only
   split
   ·rename_i str k i hi
    cases str.data.toList[i.toNat]? <;> rfl
   ·rfl
  ·exact two_ok s (fun x y => match x, y with | .string s, .int _ i => if 0 ≤ i then (s.data.toList[i.toNat]?).map fun b => (Value.int .u8 b.toNat, ([] : Heap)) else none | _, _ => none) (fun y => rfl) (fun x => by cases x <;> rfl) hx
 case max2 x y =>
  refine nil_heap (g := fun h => (match Ev tA x, Ev tA y with | .int k a, .int _ b => some (.int k (if b > a then b else a), h) | _, _ => none : Option (Value × Heap))) (fun h => ?_) (hh := hh) ?_
  ·cases Ev tA x <;> first | rfl | skip
   cases Ev tA y <;> rfl
  ·exact two_ok s (fun x y => match x, y with | .int k a, .int _ b => some (Value.int k (if b > a then b else a), ([] : Heap)) | _, _ => none) (fun y => rfl) (fun x => by cases x <;> rfl) hx
 case min2 x y =>
  refine nil_heap (g := fun h => (match Ev tA x, Ev tA y with | .int k a, .int _ b => some (.int k (if b < a then b else a), h) | _, _ => none : Option (Value × Heap))) (fun h => ?_) (hh := hh) ?_
  ·cases Ev tA x <;> first | rfl | skip
   cases Ev tA y <;> rfl
  ·exact two_ok s (fun x y => match x, y with | .int k a, .int _ b => some (Value.int k (if b < a then b else a), ([] : Heap)) | _, _ => none) (fun y => rfl) (fun x => by cases x <;> rfl) hx
end
end Go.Wb
namespace Go.Wb
open Go
section
variable {M : Nat → Prop} {β β1 : Bt} {h h' : Heap} {t t1 : TT} {tA : T} {r : Option (Value × Heap)} {v : TV} {a : Value}
theorem less_nf {X : Nat → Prop} {k : Nat} {keep : Option Nat → Bool} (hX : ∀ b, X b → ∃ k c, β k c = some b) : ∀ b, NF (fun b => M b ∨ X b) (setB β k fun c => if keep c then β k c else none) b → NF M β b := by
 rintro b ((hm | hx) | ⟨k', c, hc⟩)
 ·exact .inl hm
 ·exact .inr (hX b hx)
 ·unfold setB at hc
  split at hc
  ·dsimp only at hc
   split at hc
   ·exact .inr ⟨_, _, hc⟩
   ·cases hc
  ·exact .inr ⟨_, _, hc⟩
theorem SR.dropR (s : SR M β h t tA) (k : Nat) : SR (fun b => M b ∨ ∃ c, β k c = some b) (setB β k fun _ => none) h (setR t k .undef) tA := by
 have h1 := s.set0.drop k (fun _ => false) .undef trivial (kl k) (fun i u a hi hu => kl_tr hi hu)
 have e1 : (fun b => M b ∨ (False ∨ ∃ c, (fun _ : Option Nat => false) c = false ∧ β k c = some b)) = fun b => M b ∨ ∃ c, β k c = some b := by
  funext b; simp
 rw [e1] at h1
 exact h1
theorem Fr.dropR (k : Nat) : Fr β h (setB β k fun _ => none) h := Fr.less fun k' c b hb => by
 unfold setB at hb
 split at hb
 ·cases hb
 ·exact ⟨_, _, hb⟩
theorem nf_dropR {k : Nat} : ∀ b, NF (fun b => M b ∨ ∃ c, β k c = some b) (setB β k fun _ => none) b → NF M β b := by
 rintro b ((hm | ⟨c, hc⟩) | ⟨k', c, hc⟩)
 ·exact .inl hm
 ·exact .inr ⟨_, _, hc⟩
 ·unfold setB at hc
  split at hc
  ·cases hc
  ·exact .inr ⟨_, _, hc⟩
theorem move_root (s : SR M β h t tA) {i : Nat} (hi : t i = v) (hr : isRoot v = true) : Sound M β h tA (some (tA i, h)) v (setR t i .undef) := by
 have htr := s.tr i
 rw [hi] at htr
 refine Sound.root (X := fun b => ∃ c, β i c = some b) rfl (Fr.dropR i) (s.dropR i) (β i) (fun c b hb => ⟨⟨c, hb⟩, (s.lt i c b hb).2⟩) (fun c c' b h1 h2 => (s.inj _ _ _ _ _ h1 h2).2) (fun b ⟨c, hc⟩ => .inr ⟨i, c, hc⟩) hr ?_
 refine TRr.keep ?_ (Keeps.less nf_dropR) (fun _ _ _ => rfl)
 cases v <;> first | (cases hr; done) | exact htr
theorem mv_sound (s : SR M β h t tA) {rr : Bool} {ann : List (Nat × Nat)} {x : Operand} (hx : mvW rr ann t x = some (v, t1)) : Sound M β h tA (some (Ev tA x, h)) v t1 := by
 unfold mvW at hx
 split at hx
 ·rename_i i
  have htr := s.tr i
  split at hx
  ·rename_i n s' cs hi
   split at hx
   ·injection hx with hx; injection hx with e1 e2; subst e1 e2
    exact move_root s hi rfl
   ·injection hx with hx; injection hx with e1 e2; subst e1 e2
    rw [hi] at htr
    refine Sound.plain rfl Fr.refl s rfl ?_
    rcases htr with ⟨h0, h1, _, h3⟩ | ⟨b, ca, h1, h2, _⟩
    ·exact .inl ⟨h0, h1, h3⟩
    ·exact .inr ⟨b, h1, h2⟩
  ·rename_i cs hi
   split at hx
   ·injection hx with hx; injection hx with e1 e2; subst e1 e2
    exact move_root s hi rfl
   ·injection hx with hx; injection hx with e1 e2; subst e1 e2
    rw [hi] at htr
    obtain ⟨b, ca, h1, h2, _⟩ := htr
    exact Sound.plain rfl Fr.refl s rfl ⟨b, h1, h2⟩
  ·rename_i l hi
   injection hx with hx; injection hx with e1 e2; subst e1 e2
   exact move_root s hi rfl
  ·cases hx
  ·cases hx
  ·rename_i n1 n2 n3 n4 n5
   injection hx with hx; injection hx with e1 e2; subst e1 e2
   have hr : isRoot (t i) = false := by
    cases hti : t i <;> first | rfl | (exfalso; first | exact n1 _ _ _ hti | exact n2 _ hti | exact n3 _ hti | exact n5 _ hti)
   exact Sound.plain rfl Fr.refl s hr (htr.at hr)
 ·rename_i c
  split at hx
  ·rename_i s' l hn
   injection hx with hx; injection hx with e1 e2; subst e1 e2
   have : c = .slice none 0 0 := by
    unfold isNilS at hn
    split at hn
    ·rfl
    ·cases hn
   subst this
   exact Sound.root (X := fun _ => False) rfl Fr.refl s.set0 (fun _ => none) (by simp) (by simp) (by simp) rfl (.inl ⟨rfl, rfl, rfl, rfl⟩)
  ·split at hx
   ·rename_i p hp
    injection hx with hx; injection hx with e1 e2; subst e1 e2
    exact Sound.plain rfl Fr.refl s rfl (pvC_fr hp)
   ·cases hx
 ·injection hx with hx; injection hx with e1 e2; subst e1 e2
  exact Sound.plain rfl Fr.refl s rfl (FR.sc _ rfl)
 ·cases hx
theorem read_one {b off : Nat} {ro : Bool} {ca : List Value} (hb : h[b]? = some (.mem ro ca)) (ho : off < ca.length) : readV h none (.pointer (some ⟨b, off, none⟩)) = some (ca.getD off Go.undef) := by
 simp only [readV, read1, hb]
 exact getD_lt ho
theorem read_many {b off m : Nat} {ro : Bool} {ca : List Value} (hb : h[b]? = some (.mem ro ca)) (ho : off + m ≤ ca.length) : readV h (some m) (.pointer (some ⟨b, off, none⟩)) = some (.agg ((ca.drop off).take m).toArray) := by
 simp only [readV, readN, hb, ho, if_true, Option.map_some]
theorem write_one {b off : Nat} {ca : List Value} {u : Value} (hb : h[b]? = some (.mem false ca)) (ho : off < ca.length) (h1 : u.oneCell' = true) : writeV h none (.pointer (some ⟨b, off, none⟩)) u = some (h.set b (.mem false (ca.set off u))) := by
 simp only [writeV, h1, if_true, write1, hb, ho]
theorem write_many {b off m : Nat} {ca : List Value} {as : Array Value} (hb : h[b]? = some (.mem false ca)) (ho : off + m ≤ ca.length) (h1 : as.size = m) : writeV h (some m) (.pointer (some ⟨b, off, none⟩)) (.agg as) = some (h.set b (.mem false (ca.take off ++ as.toList ++ ca.drop (off + m)))) := by
 have : as.toList.length = m := by rw [Array.length_toList]; exact h1
 simp only [writeV, h1, if_true, writeN, hb, this, ho]
theorem cellP_ok {cs : List PV} {i : Nat} {p : PV} (hx : cellP cs i = some p) : i < cs.length ∧ cs.getD i default = p := by
 unfold cellP at hx
 have := List.getElem?_eq_some_iff.1 hx
 exact ⟨this.1, by rw [List.getD_eq_getElem?_getD, hx]; rfl⟩
theorem cellC_ok {cs : List CV} {i : Nat} {c : CV} (hx : cellC cs i = some c) : i < cs.length ∧ cs.getD i .gone = c := by
 unfold cellC at hx
 have := List.getElem?_eq_some_iff.1 hx
 exact ⟨this.1, by rw [List.getD_eq_getElem?_getD, hx]; rfl⟩
theorem at_nest (s : SR M β h t tA) {k : Nat} {cs : List CV} (hk : t k = .box cs) {j n s' : Nat} {l : List PV} (hj : cellC cs j = some (.o n s' l)) {b : Nat} (hb : β k (some j) = some b) :
 ∃ ca, h[b]? = some (.mem false ca) ∧ n * s' = l.length ∧ FRs h (NF M β) l ca := by
 have htr := s.tr k
 rw [hk] at htr
 obtain ⟨b0, ca0, g1, g2, g3, g4, g5⟩ := htr
 obtain ⟨hjl, hown⟩ := cell_own g5 hj
 rcases hown with ⟨h1, _⟩ | ⟨b', ca, h1, h2, h3, h4, h5⟩
 ·rw [hb] at h1; cases h1
 ·rw [hb] at h1; injection h1 with h1; subst h1
  exact ⟨ca, h3, h4, h5⟩
theorem ld1_sound (s : SR M β h t tA) {x : Operand} (hx : ld1 t x = some v) : isRoot v = false ∧ ∃ a, readV h none (Ev tA x) = some a ∧ TR β h (NF M β) 0 v a := by
 unfold ld1 at hx
 split at hx
 ·rename_i cs off he
  rw [Option.map_eq_some_iff] at hx
  obtain ⟨p, hp, rfl⟩ := hx
  obtain ⟨h1, h2⟩ := cellP_ok hp
  obtain ⟨b, o, ro, ca, q1, q2, q3, q4, q5⟩ := ev_pf s he
  rw [q1]
  refine ⟨rfl, _, read_one q3 (by omega), ?_⟩
  have := q5 off h1
  rw [h2] at this
  exact this
 ·split at hx
  ·rename_i k off hp
   obtain ⟨b, hb, ha⟩ := plc_ok s hp
   rw [ha]
   split at hx
   ·rename_i cs hk
    obtain ⟨ca, h1, h2, h3, h4⟩ := at_box s hk hb
    split at hx
    ·rename_i p hc
     injection hx with hx; subst hx
     obtain ⟨q1, q2⟩ := cellC_ok hc
     refine ⟨rfl, _, read_one h2 (by omega), ?_⟩
     have := h4 off q1
     rw [q2] at this
     exact this
    ·rename_i n s' l hc
     injection hx with hx; subst hx
     obtain ⟨q1, q2⟩ := cellC_ok hc
     refine ⟨rfl, _, read_one h2 (by omega), ?_⟩
     have := h4 off q1
     rw [q2] at this
     rcases this with ⟨z0, z1, _, z3⟩ | ⟨b', ca', z1, z2, _⟩
     ·exact .inl ⟨z0, z1, z3⟩
     ·exact .inr ⟨b', z1, z2⟩
    ·cases hx
   ·rename_i n s' cs hk
    rw [Option.map_eq_some_iff] at hx
    obtain ⟨p, hp, rfl⟩ := hx
    obtain ⟨q1, q2⟩ := cellP_ok hp
    obtain ⟨ca, h1, h2, h3, h4⟩ := at_own s hk hb
    refine ⟨rfl, _, read_one h2 (by rw [← h4.1]; exact q1), ?_⟩
    have := h4.2 off q1
    rw [q2] at this
    exact this
   ·cases hx
  ·rename_i k j off hp
   obtain ⟨b, hb, ha⟩ := plc_ok s hp
   rw [ha]
   split at hx
   ·rename_i cs hk
    split at hx
    ·rename_i n s' l hc
     rw [Option.map_eq_some_iff] at hx
     obtain ⟨p, hp, rfl⟩ := hx
     obtain ⟨q1, q2⟩ := cellP_ok hp
     obtain ⟨ca, h2, h3, h4⟩ := at_nest s hk hc hb
     refine ⟨rfl, _, read_one h2 (by rw [← h4.1]; exact q1), ?_⟩
     have := h4.2 off q1
     rw [q2] at this
     exact this
    ·cases hx
   ·cases hx
  ·cases hx
theorem frs_of {N : Nat → Prop} {l : List PV} {ca : List Value} {off m : Nat} (hl : l.length = m) (hle : off + m ≤ ca.length) (hf : ∀ i, i < m → FR h N (l.getD i default) (ca.getD (off + i) Go.undef)) : FRs h N l ((ca.drop off).take m) := by
 refine ⟨by rw [List.length_take, List.length_drop]; omega, fun i hi => ?_⟩
 rw [take_drop_getD (by omega)]
 exact hf i (by omega)
theorem klC_tr {N : Nat → Prop} {k i : Nat} {q : Option Nat → Option Nat} {v : TV} {a : Value} (hq : q none = β k none) (hi : i ≠ k) (hv : TR β h N i v a) : TR (setB β k q) h N i (klC k v) a := by
 have key : ∀ k' c b, β k' c = some b → (k' = k → c = none) → setB β k q k' c = some b := by
  intro k' c b hb hc
  unfold setB
  split
  ·rename_i hk; subst hk
   rw [hc rfl, hq, ← hc rfl]; exact hb
  ·exact hb
 cases v with
 | ref k' c off =>
   cases c with
   | none =>
     simp only [klC]
     obtain ⟨b, h1, h2⟩ := hv
     exact ⟨b, key _ _ _ h1 (fun _ => rfl), h2⟩
   | some c =>
     simp only [klC]
     split
     ·trivial
     ·rename_i hk
      obtain ⟨b, h1, h2⟩ := hv
      exact ⟨b, key _ _ _ h1 (fun e => absurd e hk), h2⟩
 | slc k' c off n s =>
   cases c with
   | none =>
     simp only [klC]
     rcases hv with ⟨h0, hv⟩ | ⟨b, h1, h2⟩
     ·refine .inl ⟨?_, hv⟩
      unfold setB
      split
      ·rename_i hk; subst hk; rw [hq]; exact h0
      ·exact h0
     ·exact .inr ⟨b, key _ _ _ h1 (fun _ => rfl), h2⟩
   | some c =>
     simp only [klC]
     split
     ·trivial
     ·rename_i hk
      rcases hv with ⟨h0, hv⟩ | ⟨b, h1, h2⟩
      ·exact .inl ⟨by rw [setB_ne hk]; exact h0, hv⟩
      ·exact .inr ⟨b, key _ _ _ h1 (fun e => absurd e hk), h2⟩
 | undef => trivial
 | skip => exact hv
 | val p => exact hv
 | pf cs off => exact hv
 | own n s cs => simp only [klC, TR] at hv ⊢; rw [setB_ne hi]; exact hv
 | box cs => simp only [klC, TR] at hv ⊢; rw [setB_ne hi]; exact hv
 | tup l => simp only [klC, TR] at hv ⊢; rw [setB_ne hi]; exact hv
 | hbox l => simp only [klC, TR] at hv ⊢; rw [setB_ne hi]; exact hv
 | clo f caps =>
   obtain ⟨as, h1, h2, h3⟩ := hv
   refine ⟨as, h1, h2, fun j hj => ?_⟩
   have := h3 j hj
   cases hc : caps.getD j (.inl 0) with
   | inr p => rw [hc] at this; exact this
   | inl k' =>
     rw [hc] at this
     obtain ⟨b, q1, q2⟩ := this
     exact ⟨b, key _ _ _ q1 (fun _ => rfl), q2⟩
theorem klC_same {N : Nat → Prop} {k i : Nat} {v : TV} {a : Value} (hi : i ≠ k) (hv : TR β h N i v a) : TR β h N i (klC k v) a := by
 have := klC_tr (q := β k) rfl hi hv
 have e : setB β k (β k) = β := by
  funext k' c
  unfold setB
  split
  ·rename_i hk; rw [hk]
  ·rfl
 rwa [e] at this
theorem frz_cvr {β' : Option Nat → Option Nat} {N : Nat → Prop} {j : Nat} {c : CV} {a : Value} (hN : ∀ b, β' (some j) = some b → N b) (hc : CVR β' h N j c a) : ∀ N', (∀ b ro ca, ¬ N b → h[b]? = some (Blk.mem ro ca) → ¬ N' b) → (∀ b, β' (some j) = some b → ¬ N' b) → CVR (fun _ => none) h N' j (frz c) a := by
 intro N' h1 h2
 have hk : Keeps h N h N' := fun b ro ca q1 q2 => ⟨h1 b ro ca q1 q2, q2⟩
 cases c with
 | v p => exact FR.keep hc hk
 | gone => trivial
 | o n s cs =>
   rcases hc with ⟨_, rfl, rfl, rfl⟩ | ⟨b, ca, e1, rfl, e3, e4, e5⟩
   ·exact FR.slNil
   ·refine FR.sl n s cs b 0 false ca (h2 b e1) e3 e4 (by rw [e5.1]; omega) fun i hi => ?_
    rw [Nat.zero_add]
    exact (e5.2 i hi).keep hk
theorem ldN_sound (s : SR M β h t tA) {m : Nat} {x : Operand} (hx : ldN m t x = some (v, t1)) : Sound M β h tA ((readV h (some m) (Ev tA x)).map fun a => (a, h)) v t1 := by
 unfold ldN at hx
 split at hx
 ·rename_i cs off he
  split at hx
  ·rename_i hle
   injection hx with hx; injection hx with e1 e2; subst e1 e2
   obtain ⟨b, o, ro, ca, q1, q2, q3, q4, q5⟩ := ev_pf s he
   rw [q1]
   refine Sound.plain (by rw [read_many q3 (by omega)]; rfl) Fr.refl s rfl (frs_agg (frs_of (by rw [List.length_take, List.length_drop]; omega) (by omega) fun i hi => ?_))
   rw [take_drop_getD hi]
   have := q5 (off + i) (by omega)
   rwa [← Nat.add_assoc] at this
  ·cases hx
 ·split at hx
  ·rename_i k off hp
   obtain ⟨b, hb, ha⟩ := plc_ok s hp
   rw [ha]
   split at hx
   ·rename_i cs hk
    obtain ⟨ca, h1, h2, h3, h4⟩ := at_box s hk hb
    split at hx
    ·rename_i hle
     split at hx
     ·rw [Option.map_eq_some_iff] at hx
      obtain ⟨l, hl, hx⟩ := hx
      injection hx with e1 e2; subst e1 e2
      obtain ⟨q1, q2⟩ := unv_fr h3 h4 hle hl
      exact Sound.plain (by rw [read_many h2 (by omega)]; rfl) Fr.refl s rfl (frs_agg (frs_of q1 (by omega) q2))
     ·rw [Option.map_eq_some_iff] at hx
      obtain ⟨l, hl, hx⟩ := hx
      injection hx with e1 e2; subst e1 e2
      have hN : ∀ j b', β k (some j) = some b' → NF M β b' := fun j b' hb' => .inr ⟨k, some j, hb'⟩
      let N' := NF (fun b => M b) (setB β k fun c => if c.isNone then β k c else none)
      have hN1 : ∀ b' ro ca', ¬ NF M β b' → h[b']? = some (Blk.mem ro ca') → ¬ N' b' := by
       intro b' _ _ q1 _ q2
       refine q1 ?_
       rcases q2 with q2 | ⟨k', c, q2⟩
       ·exact .inl q2
       ·unfold setB at q2
        split at q2
        ·dsimp only at q2
         split at q2
         ·exact .inr ⟨_, _, q2⟩
         ·cases q2
        ·exact .inr ⟨_, _, q2⟩
      have hN2 : ∀ j b', β k (some j) = some b' → ¬ N' b' := by
       intro j b' hb' q2
       rcases q2 with q2 | ⟨k', c, q2⟩
       ·exact (s.lt _ _ _ hb').2 q2
       ·unfold setB at q2
        split at q2
        ·rename_i hkk; subst hkk
         dsimp only at q2
         split at q2
         ·rename_i hc
          have := (s.inj _ _ _ _ _ hb' q2).2
          subst this
          simp at hc
         ·cases q2
        ·rename_i hkk
         exact hkk (s.inj _ _ _ _ _ hb' q2).1.symm
      have hcv : ∀ j, j < (cs.map frz).length → CVR (fun _ => none) h N' j ((cs.map frz).getD j .gone) (ca.getD j Go.undef) := by
       intro j hj
       rw [List.length_map] at hj
       have e : (cs.map frz).getD j .gone = frz (cs.getD j .gone) := by simp [List.getD, hj]
       rw [e]
       exact frz_cvr (hN j) (h4 j hj) N' hN1 (hN2 j)
      have hcv2 : ∀ (γ : Option Nat → Option Nat) j, j < (cs.map frz).length → CVR γ h N' j ((cs.map frz).getD j .gone) (ca.getD j Go.undef) := by
       intro γ j hj
       have q := hcv j hj
       rw [List.length_map] at hj
       have e : (cs.map frz).getD j .gone = frz (cs.getD j .gone) := by simp [List.getD, hj]
       rw [e] at q ⊢
       cases hcj : cs.getD j .gone <;> rw [hcj] at q <;> exact q
      have hs : SR M (setB β k fun c => if c.isNone then β k c else none) h (setC t k (.box (cs.map frz))) tA := by
       have := s.set0.drop k (fun c => c.isNone) .undef trivial (klC k) (fun i u a hi hu => klC_tr (by simp) hi hu)
       have := this.weak
       have h5 := this.upd (d := k) (v := .box (cs.map frz)) (a := tA k) ⟨b, ca, by rw [setB_same]; simpa using hb, h1, h2, by simpa using h3, hcv2 _⟩
       have e1 : Go.Wb.upd tA k (tA k) = tA := by funext i; unfold Go.Wb.upd; split <;> simp_all
       rw [e1] at h5
       have e2 : updT (fun i => if i = k then TV.undef else klC k (t i)) k (.box (cs.map frz)) = setC t k (.box (cs.map frz)) := by
        funext i; unfold updT setC; split <;> simp_all
       rw [e2] at h5
       exact h5
      obtain ⟨q1, q2⟩ := unv_fr (cs := cs.map frz) (by simpa using h3) hcv (by simpa using hle) hl
      refine Sound.plain (by rw [read_many h2 (by omega)]; rfl) (Fr.less fun k' c b' hb' => ?_) hs rfl (frs_agg (frs_of q1 (by omega) q2))
      unfold setB at hb'
      split at hb'
      ·dsimp only at hb'
       split at hb'
       ·exact ⟨_, _, hb'⟩
       ·cases hb'
      ·exact ⟨_, _, hb'⟩
    ·cases hx
   ·rename_i n s' cs hk
    obtain ⟨ca, h1, h2, h3, h4⟩ := at_own s hk hb
    split at hx
    ·rename_i hle
     injection hx with hx; injection hx with e1 e2; subst e1 e2
     have hl := h4.1
     exact Sound.plain (by rw [read_many h2 (by omega)]; rfl) Fr.refl s rfl (frs_agg (frs_take (frs_drop h4 off) m))
    ·cases hx
   ·cases hx
  ·cases hx
end
end Go.Wb

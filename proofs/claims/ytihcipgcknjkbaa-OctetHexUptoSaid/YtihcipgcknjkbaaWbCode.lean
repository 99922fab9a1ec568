/- Code and calls: what the abstract machine comes to, the model comes to. -/
import Derived.Test.YtihcipgcknjkbaaWbDraw2
import Derived.Test.YtihcipgcknjkbaaWbFuel
namespace Go.Wb
open Go

def compileCode (P : Program) (nm : Names) (nt : Nat) : Code → Option ACode
  | .skip => some .skip
  | .label _ => some .skip
  | .region _ ops draw => match compileOps P nm nt ops ops.toList with
    | some l => if draw then (drawOk ops.toList l).map (ACode.drawn l) else some (.ops l)
    | none => none
  | .seq a b => match compileCode P nm nt a, compileCode P nm nt b with
    | some x, some y => some (.seq x y)
    | _, _ => none
  | .cond c x y => match compileCode P nm nt x, compileCode P nm nt y with
    | some x, some y => if operOk c then some (.cond c x y) else none
    | _, _ => none
  | .block id b => (compileCode P nm nt b).map (.block id)
  | .loop b => (compileCode P nm nt b).map .loop
  | .exit id => some (.exit id)
  | .ret => some .ret
  | _ => none

def compileRes (P : Program) : List ResultVar → Option (List ARes)
  | [] => some []
  | .tmp t :: l => (compileRes P l).map (.tmp t :: ·)
  | .cell a e :: l => match aggN P e, compileRes P l with
    | some n, some r => some (.cell a n :: r)
    | _, _ => none

def compileFun (P : Program) (nm : Names) (fn : Func) : Option AFun :=
  match fn.body with
  | some c => match compileCode P nm fn.ntmps c, compileRes P fn.results.toList with
    | some b, some r => some (.code r b)
    | _, _ => none
  | none => none

def exitOf : AExit → Exit
  | .normal => .normal
  | .exit id => .exit id
  | .ret => .ret

/-- What is known of the functions that have names: the code is taken over, or what is done is proved otherwise. -/
def EnvOk (P : Program) (nm : Names) (E : Env) : Prop :=
  ∀ f n, nm f = some n → ∀ af, E n = some af → (∃ fn, P.funcs[f]? = some fn ∧ compileFun P nm fn = some af) ∨ (∃ g, af = .prim g ∧ ∀ args h v h', g args h = some (v, h') → CallOk P f args h v h')

section
variable {P : Program} {nm : Names} {nt : Nat} {call : CallF} {E : Env}

theorem ops_sound {ops : Array Oper} {Q : Exit → Act → World → Prop} (hcalls : CallsOk P nm call) : ∀ (os : List Oper) (l : List AOper) (k : Nat) (ι : Inj) (h h' : Heap) (t t' : T) (a : Act) (w : World), ops.toList.drop k = os → compileOps P nm nt ops os = some l → execOps call l t h = some (t', h') → SRel nt ι h t a w →
    (∀ ι' a' w', SRel nt ι' h' t' a' w' → Step ι h w ι' h' w' → Q .normal a' w') → wpOps P ops Q ((List.range' k os.length)) a w
  | [], l, k, ι, h, h', t, t', a, w, _, hc, hx, hs, hQ => by
    simp only [compileOps] at hc
    injection hc with hc
    subst hc
    simp only [execOps] at hx
    injection hx with hx
    injection hx with e1 e2
    subst e1 e2
    exact hQ ι a w hs (.refl hs.rel)
  | o :: os, l, k, ι, h, h', t, t', a, w, hd, hc, hx, hs, hQ => by
    simp only [compileOps] at hc
    split at hc
    · rename_i ao r h1 h2
      injection hc with hc
      subst hc
      simp only [execOps] at hx
      split at hx
      · rename_i t1 h1' hst
        have ho : ops[k]? = some o := by
          have := congrArg (fun l => l[0]?) hd
          simpa using this
        obtain ⟨s1, s2⟩ := oper_sound (P := P) (nm := nm) (nt := nt) (Q := Q) hcalls hs h1 hst
        have hrest : ops.toList.drop (k + 1) = os := by
          have := congrArg (List.drop 1) hd
          simpa [List.drop_drop, Nat.add_comm] using this
        rw [List.length_cons, List.range'_succ]
        simp only [wpOps, ho]
        split
        · rename_i hw
          left
          refine Oper.wp_mono ?_ (s1 hw)
          rintro a' w' ⟨ι', g1, g2⟩
          exact ops_sound hcalls os r (k + 1) ι' _ h' _ t' a' w' hrest h2 hx g1 (fun ι2 a2 w2 q1 q2 => hQ ι2 a2 w2 q1 (g2.trans q2))
        · rename_i hw
          obtain ⟨g1, g2⟩ := s2 (by simpa using hw)
          refine ops_sound hcalls os r (k + 1) ι _ h' _ t' _ w hrest h2 hx g1 (fun ι2 a2 w2 q1 q2 => hQ ι2 a2 w2 q1 ?_)
          rw [g2] at q2
          exact q2
      · cases hx
    · cases hc

theorem exists_least {p : Nat → Prop} (h : ∃ n, p n) : ∃ n, p n ∧ ∀ m, m < n → ¬ p m := by
  obtain ⟨n, hn⟩ := h
  induction n using Nat.strongRecOn with
  | _ n ih =>
    by_cases hm : ∃ m, m < n ∧ p m
    · obtain ⟨m, h1, h2⟩ := hm
      exact ih m h1 h2
    · exact ⟨n, hn, fun m h1 h2 => hm ⟨m, h1, h2⟩⟩

open Classical in
noncomputable def least (p : Nat → Prop) : Nat := if h : ∃ n, p n then Classical.choose (exists_least h) else 0

theorem least_spec {p : Nat → Prop} (h : ∃ n, p n) : p (least p) := by
  unfold least
  rw [dif_pos h]
  exact (Classical.choose_spec (exists_least h)).1

theorem least_le {p : Nat → Prop} {n : Nat} (h : p n) : least p ≤ n := by
  unfold least
  rw [dif_pos ⟨n, h⟩]
  rcases Nat.lt_or_ge n (Classical.choose (exists_least ⟨n, h⟩)) with h1 | h1
  · exact absurd h ((Classical.choose_spec (exists_least ⟨n, h⟩)).2 n h1)
  · exact h1

theorem loadVar_sound {ι : Inj} {h : Heap} {w : World} {x x' v : Value} {n : Option Nat} {e : TypeId} (hr : Rel ι h w) (ha : aggN P e = some n) (hv : readV h n x = some v) (hxr : VRel ι h.length x x') :
    ∃ A v', x' = .pointer (some A) ∧ (loadVar e A).run P w = .ok v' w ∧ VRel ι h.length v v' := by
  unfold readV at hv
  split at hv
  · rename_i b o
    obtain ⟨hb, hp⟩ := hxr.ptr_inv
    unfold read1 at hv
    split at hv
    · rename_i ro cs hcs
      obtain ⟨v', c1, c2, c3⟩ := rel_read hr hcs hv
      obtain ⟨i, u, hi, hu, hag⟩ := aggN_none ha
      refine ⟨_, v', hp, ?_, c2⟩
      simp only [loadVar, Sem.run_bind, run_isAgg hu, hag, Result.andThen_ok, Bool.false_eq_true, if_false]
      rw [run_load, c1]
    · cases hv
  · rename_i b o m
    obtain ⟨hb, hp⟩ := hxr.ptr_inv
    rw [Option.map_eq_some_iff] at hv
    obtain ⟨cs, hcs, hv⟩ := hv
    subst hv
    obtain ⟨i, u, hi, hu, hag, hsz⟩ := aggN_some ha
    obtain ⟨hl, vs', hrun, hrel, hone⟩ := rel_readN (P := P) hr hcs
    refine ⟨_, .agg vs'.toArray, hp, ?_, agg_crel hrel hone⟩
    simp only [loadVar, Sem.run_bind, run_isAgg hu, hag, Result.andThen_ok, if_true, run_size hi, hsz, hrun, Sem.run_pure]
  · cases hv

theorem run_results {fn : Func} {rs : List ARes} {ι : Inj} {h : Heap} {t : T} {a : Act} {w : World} {v : Value} (hs : SRel nt ι h t a w) (hc : compileRes P fn.results.toList = some rs) (hv : resVal t h rs = some v) :
    ∃ v', (results fn a.tmps).run P w = .ok v' w ∧ VRel ι h.length v v' := by
  have key : ∀ (l : List ResultVar) (rs : List ARes) (vs : List Value), compileRes P l = some rs → resVals t h rs = some vs →
      ∃ vs', (l.mapM (fun | .tmp t => Pure.pure (a.tmps.getD t undef) | .cell c e => do loadVar e (← asAddr (a.tmps.getD c undef)) : ResultVar → Sem Value)).run P w = .ok vs' w ∧ CRel ι h.length vs vs' := by
    intro l
    induction l with
    | nil =>
      intro rs vs hc hv
      simp only [compileRes] at hc
      injection hc with hc
      subst hc
      simp only [resVals] at hv
      injection hv with hv
      subst hv
      exact ⟨[], by simp, rfl, fun _ => .undef⟩
    | cons r l ih =>
      intro rs vs hc hv
      cases r with
      | tmp i =>
        simp only [compileRes, Option.map_eq_some_iff] at hc
        obtain ⟨rs', hc', rfl⟩ := hc
        simp only [resVals] at hv
        split at hv
        · rename_i vs1 hv1
          injection hv with hv
          subst hv
          obtain ⟨vs', h1, h2⟩ := ih rs' vs1 hc' hv1
          refine ⟨a.tmps.getD i undef :: vs', ?_, ?_⟩
          · simp only [List.mapM_cons, pure_bind, Sem.run_bind, h1, Result.andThen_ok, Sem.run_pure]
          · refine ⟨by simp [h2.1], fun j => ?_⟩
            cases j with
            | zero => simpa using hs.tmps i
            | succ j => simpa using h2.2 j
        · cases hv
      | cell c e =>
        simp only [compileRes] at hc
        split at hc
        · rename_i n rs' hn hc'
          injection hc with hc
          subst hc
          simp only [resVals] at hv
          split at hv
          · rename_i v1 vs1 hr1 hv1
            injection hv with hv
            subst hv
            obtain ⟨vs', h1, h2⟩ := ih rs' vs1 hc' hv1
            obtain ⟨A, v', hA, hrun, hvr⟩ := loadVar_sound hs.rel hn hr1 (hs.tmps c)
            refine ⟨v' :: vs', ?_, ?_⟩
            · have has : asAddr (.pointer (some A)) = Pure.pure A := rfl
              simp only [List.mapM_cons, Sem.run_bind, hA, has, Sem.run_pure, hrun, h1, Result.andThen_ok]
            · refine ⟨by simp [h2.1], fun j => ?_⟩
              cases j with
              | zero => simpa using hvr
              | succ j => simpa using h2.2 j
          · cases hv
        · cases hc
  unfold resVal at hv
  unfold results
  rw [Array.mapM_eq_mapM_toList]
  simp only [Sem.run_bind, Sem.run_map]
  split at hv
  · rename_i v1 hrs
    injection hv with hv
    subst hv
    obtain ⟨vs', h1, h2⟩ := key _ _ _ hc hrs
    match vs', h2 with
    | [u], h2 =>
      refine ⟨u, ?_, by simpa using h2.2 0⟩
      erw [h1]
      simp
    | [], h2 => have := h2.1; simp at this
    | _ :: _ :: _, h2 => have := h2.1; simp at this
  · rename_i vs hne hrs
    injection hv with hv
    subst hv
    obtain ⟨vs', h1, h2⟩ := key _ _ _ hc hrs
    refine ⟨.tuple vs'.toArray, ?_, ?_⟩
    · erw [h1]
      have hl : vs'.length ≠ 1 := by
        intro hl
        rw [← h2.1] at hl
        obtain ⟨u, hu⟩ := List.length_eq_one_iff.1 hl
        exact hne u hu
      simp [hl]
    · refine .tuple _ _ (by simpa using h2.1) fun i => ?_
      have := h2.2 i
      simpa [Array.getD_eq_getD_getElem?, List.getD] using this
  · cases hv

/-- CODE: what the abstract machine comes to with some fuel, the model comes to. -/
theorem run_sound (hm : P.follows .mixedOrders = true) (hE : EnvOk P nm E) : ∀ (n : Nat),
    (CallsOk P nm (callN E n)) ∧
    (∀ (nt : Nat) (c : Code) (ac : ACode) (t : T) (h : Heap) (e : AExit) (t' : T) (h' : Heap), compileCode P nm nt c = some ac → runN E n ac t h = some (e, t', h') → ∀ (ι : Inj) (a : Act) (w : World), SRel nt ι h t a w →
      c.wp P (fun ex a' w' => ex = exitOf e ∧ ∃ ι', SRel nt ι' h' t' a' w' ∧ Step ι h w ι' h' w') a w) := by
  intro n
  induction n with
  | zero =>
    refine ⟨fun nn args h v h' hx => ?_, fun nt c ac t h e t' h' _ hx => ?_⟩
    · simp only [callN] at hx; cases hx
    · simp only [runN] at hx; cases hx
  | succ n ih =>
    obtain ⟨ihc, ihr⟩ := ih
    constructor
    · intro name args h v h' hx f hf
      simp only [callN] at hx
      split at hx
      · cases hx
      · rename_i g hg
        rcases hE f name hf _ hg with ⟨fn, hfn, hcf⟩ | ⟨g', hgg, hok⟩
        · exfalso
          unfold compileFun at hcf
          split at hcf
          · split at hcf
            · injection hcf with hcf; cases hcf
            · cases hcf
          · cases hcf
        · injection hgg with hgg
          subst hgg
          exact hok args h v h' hx
      · rename_i rs body hb
        rcases hE f name hf _ hb with ⟨fn, hfn, hcf⟩ | ⟨g', hgg, _⟩
        · unfold compileFun at hcf
          split at hcf
          · rename_i c hbody
            split at hcf
            · rename_i b r hcb hcr
              injection hcf with hcf
              injection hcf with e1 e2
              subst e1 e2
              have fin : ∀ (ex : AExit) (t1 : T) (h1 : Heap), runN E n b (argT args) h = some (ex, t1, h1) → (ex = .ret ∨ ex = .normal) → (resVal t1 h1 r).map (fun v => (v, h1)) = some (v, h') → CallOk P f args h v h' := by
                intro ex t1 h1 hrun hex hres ι w args' hrel hargs
                rw [Option.map_eq_some_iff] at hres
                obtain ⟨v1, hv1, hres⟩ := hres
                injection hres with e1 e2
                subst e1 e2
                have hs0 : SRel fn.ntmps ι h (argT args) { tmps := args'.toArray ++ Array.replicate (fn.ntmps - args'.toArray.size) undef, defers := [] } w := by
                  refine ⟨hrel, fun i => ?_, rfl, by simp; omega⟩
                  have h1 := hargs.2 i
                  simp only [argT]
                  rcases Nat.lt_or_ge i args'.length with hi | hi
                  · have e : (args'.toArray ++ Array.replicate (fn.ntmps - args'.toArray.size) undef).getD i undef = args'.getD i undef := by
                      simp [Array.getD_eq_getD_getElem?, Array.getElem?_append, hi, List.getD]
                    rw [e]; exact h1
                  · have e : (args'.toArray ++ Array.replicate (fn.ntmps - args'.toArray.size) undef).getD i undef = undef := by
                      rw [Array.getD_eq_getD_getElem?, Array.getElem?_append]
                      simp only [List.size_toArray]
                      rw [if_neg (by omega), Array.getElem?_replicate]
                      split <;> rfl
                    rw [e]
                    have e2 : args'.getD i undef = undef := by simp [List.getD, List.getElem?_eq_none hi]
                    rw [e2] at h1
                    exact h1
                refine calls_of_wp hfn hbody (wp_mono (ihr fn.ntmps c b _ _ _ _ _ hcb hrun ι _ w hs0) ?_)
                rintro ex' a' w' ⟨rfl, ι', hs', hst⟩
                obtain ⟨v', hr1, hr2⟩ := run_results (P := P) (fn := fn) hs' hcr hv1
                have hfin : a'.defers = [] ∧ ∃ v, (results fn a'.tmps).run P w' = .ok v w' ∧ ∃ ι'' v'', Ending.returned v = .returned v'' ∧ Step ι h w ι'' h1 w' ∧ VRel ι'' h1.length v1 v'' :=
                  ⟨hs'.defers, v', hr1, ι', v', rfl, hst, hr2⟩
                rcases hex with rfl | rfl
                · exact hfin
                · exact hfin
              split at hx
              · rename_i t1 h1 hrun
                exact fin _ t1 h1 hrun (.inl rfl) hx
              · rename_i t1 h1 hrun
                exact fin _ t1 h1 hrun (.inr rfl) hx
              · cases hx
            · cases hcf
          · cases hcf
        · cases hgg
    · intro nt c ac t h e t' h' hc hx ι a w hs
      cases c with
      | skip =>
        simp only [compileCode] at hc
        injection hc with hc; subst hc
        simp only [runN] at hx
        injection hx with hx; injection hx with e1 hx; injection hx with e2 e3
        subst e1 e2 e3
        exact wp_skip ⟨rfl, ι, hs, .refl hs.rel⟩
      | label l =>
        simp only [compileCode] at hc
        injection hc with hc; subst hc
        simp only [runN] at hx
        injection hx with hx; injection hx with e1 hx; injection hx with e2 e3
        subst e1 e2 e3
        exact wp_label ⟨rfl, ι, hs, .refl hs.rel⟩
      | region id ops draw =>
        simp only [compileCode] at hc
        split at hc
        · rename_i l hl
          split at hc
          · rename_i hd
            subst hd
            rw [Option.map_eq_some_iff] at hc
            obtain ⟨ps, hps, hc⟩ := hc
            subst hc
            simp only [runN, Option.map_eq_some_iff] at hx
            obtain ⟨⟨t1, h1⟩, hx1, hx⟩ := hx
            injection hx with e1 hx; injection hx with e2 e3
            subst e1 e2 e3
            exact drawn_sound hm hl hps ihc hs hx1 (fun ι' a' w' q1 q2 => ⟨rfl, ι', q1, q2⟩)
          · rename_i hd
            have hd : draw = false := by simpa using hd
            subst hd
            injection hc with hc; subst hc
            simp only [runN, Option.map_eq_some_iff] at hx
            obtain ⟨⟨t1, h1⟩, hx1, hx⟩ := hx
            injection hx with e1 hx; injection hx with e2 e3
            subst e1 e2 e3
            refine wp_region ?_
            have := ops_sound (P := P) (nm := nm) (nt := nt) (ops := ops) (Q := fun ex a' w' => ex = exitOf .normal ∧ ∃ ι', SRel nt ι' h1 t1 a' w' ∧ Step ι h w ι' h1 w') ihc ops.toList l 0 ι h h1 t t1 a w rfl hl hx1 hs (fun ι' a' w' q1 q2 => ⟨rfl, ι', q1, q2⟩)
            rw [List.range_eq_range']
            simpa using this
        · cases hc
      | seq x y =>
        simp only [compileCode] at hc
        split at hc
        · rename_i ax ay hcx hcy
          injection hc with hc; subst hc
          simp only [runN] at hx
          refine wp_seq ?_
          split at hx
          · rename_i t1 h1 hr1
            refine wp_mono (ihr nt x ax t h .normal t1 h1 hcx hr1 ι a w hs) ?_
            rintro ex a' w' ⟨rfl, ι', hs', hst⟩
            simp only [exitOf, Exit.then]
            refine wp_mono (ihr nt y ay t1 h1 e t' h' hcy hx ι' a' w' hs') ?_
            rintro ex2 a2 w2 ⟨rfl, ι2, hs2, hst2⟩
            exact ⟨rfl, ι2, hs2, hst.trans hst2⟩
          · rename_i hne
            refine wp_mono (ihr nt x ax t h e t' h' hcx hx ι a w hs) ?_
            rintro ex a' w' ⟨rfl, ι', hs', hst⟩
            have hen : e ≠ .normal := fun he => hne t' h' (by rw [he] at hx; exact hx)
            cases e with
            | normal => exact absurd rfl hen
            | exit i => exact ⟨rfl, ι', hs', hst⟩
            | ret => exact ⟨rfl, ι', hs', hst⟩
        · cases hc
      | cond cnd x y =>
        simp only [compileCode] at hc
        split at hc
        · rename_i ax ay hcx hcy
          split at hc
          · rename_i hok
            injection hc with hc; subst hc
            simp only [runN] at hx
            have hv := hs.erel cnd hok
            split at hx
            · rename_i hb
              rw [hb] at hv
              exact wp_cond_true hv.bool_inv (ihr nt x ax t h e t' h' hcx hx ι a w hs)
            · rename_i hb
              rw [hb] at hv
              exact wp_cond_false hv.bool_inv (ihr nt y ay t h e t' h' hcy hx ι a w hs)
            · cases hx
          · cases hc
        · cases hc
      | block id b =>
        simp only [compileCode, Option.map_eq_some_iff] at hc
        obtain ⟨ab, hcb, hc⟩ := hc
        subst hc
        simp only [runN] at hx
        refine wp_block ?_
        split at hx
        · rename_i i t1 h1 hr1
          refine wp_mono (ihr nt b ab t h (.exit i) t1 h1 hcb hr1 ι a w hs) ?_
          rintro ex a' w' ⟨rfl, ι', hs', hst⟩
          simp only [exitOf, Exit.inBlock]
          split at hx
          · rename_i hi
            injection hx with hx; injection hx with e1 hx; injection hx with e2 e3
            subst e1 e2 e3
            rw [if_pos hi]
            exact ⟨rfl, ι', hs', hst⟩
          · rename_i hi
            injection hx with hx; injection hx with e1 hx; injection hx with e2 e3
            subst e1 e2 e3
            rw [if_neg hi]
            exact ⟨rfl, ι', hs', hst⟩
        · rename_i hne
          refine wp_mono (ihr nt b ab t h e t' h' hcb hx ι a w hs) ?_
          rintro ex a' w' ⟨rfl, ι', hs', hst⟩
          cases e with
          | normal => exact ⟨rfl, ι', hs', hst⟩
          | exit i => exact (hne i t' h' hx).elim
          | ret => exact ⟨rfl, ι', hs', hst⟩
      | loop b =>
        simp only [compileCode, Option.map_eq_some_iff] at hc
        obtain ⟨ab, hcb, hc⟩ := hc
        subst hc
        let J : Nat → Act → World → Prop := fun k a' w' => k ≤ n + 1 ∧ ∃ t1 h1 ι1, runN E k (.loop ab) t1 h1 = some (e, t', h') ∧ SRel nt ι1 h1 t1 a' w' ∧ Step ι h w ι1 h1 w'
        refine wp_loop (fun a' w' => ∃ k, J k a' w') (fun a' w' => least fun k => J k a' w') ⟨n + 1, Nat.le_refl _, t, h, ι, hx, hs, .refl hs.rel⟩ ?_
        intro a1 w1 hI
        have hJ := least_spec hI
        generalize hk : least (fun k => J k a1 w1) = k at hJ
        obtain ⟨hkn, t1, h1, ι1, hr1, hs1, hst1⟩ := hJ
        cases k with
        | zero => simp only [runN] at hr1; cases hr1
        | succ k =>
          simp only [runN] at hr1
          have hbody : ∀ e2 t2 h2, runN E k ab t1 h1 = some (e2, t2, h2) → b.wp P (fun ex a' w' => ex = exitOf e2 ∧ ∃ ι', SRel nt ι' h2 t2 a' w' ∧ Step ι1 h1 w1 ι' h2 w') a1 w1 := by
            intro e2 t2 h2 hr2
            exact ihr nt b ab t1 h1 e2 t2 h2 hcb (runN_le (by omega) hr2) ι1 a1 w1 hs1
          split at hr1
          · rename_i t2 h2 hr2
            refine wp_mono (hbody .normal t2 h2 hr2) ?_
            rintro ex a' w' ⟨rfl, ι', hs', hst'⟩
            simp only [exitOf, Exit.then]
            have hJ' : J k a' w' := ⟨by omega, t2, h2, ι', hr1, hs', hst1.trans hst'⟩
            exact ⟨⟨k, hJ'⟩, Nat.lt_of_le_of_lt (least_le hJ') (by omega)⟩
          · rename_i hne
            refine wp_mono (hbody e t' h' hr1) ?_
            rintro ex a' w' ⟨rfl, ι', hs', hst'⟩
            cases e with
            | normal => exact (hne t' h' hr1).elim
            | exit i => exact ⟨rfl, ι', hs', hst1.trans hst'⟩
            | ret => exact ⟨rfl, ι', hs', hst1.trans hst'⟩
      | exit id =>
        simp only [compileCode] at hc
        injection hc with hc; subst hc
        simp only [runN] at hx
        injection hx with hx; injection hx with e1 hx; injection hx with e2 e3
        subst e1 e2 e3
        exact wp_exit ⟨rfl, ι, hs, .refl hs.rel⟩
      | ret =>
        simp only [compileCode] at hc
        injection hc with hc; subst hc
        simp only [runN] at hx
        injection hx with hx; injection hx with e1 hx; injection hx with e2 e3
        subst e1 e2 e3
        exact wp_ret ⟨rfl, ι, hs, .refl hs.rel⟩
      | rangeFunc f ps as b => simp only [compileCode] at hc; cases hc
      | scope b => simp only [compileCode] at hc; cases hc
      | goto l => simp only [compileCode] at hc; cases hc
      | refuse why => simp only [compileCode] at hc; cases hc

end
end Go.Wb

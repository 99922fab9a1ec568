import Derived.Test.YtihcipgcknjkbaaWbA1
import Derived.Orders
import Derived.OpenShut
import Derived.SizedLaws
import Derived.WalkKit
import Derived.ProofKit
import Derived.ShutString
import Derived.ChangeOld
import Derived.Below
import Derived.Carry
/- One operation of the model, taken over and done by the abstract machine. -/
namespace Go.Wb
open Go

/-- The frame and the memory stand to the abstract temporaries and the heap. 'nt': how many temporaries the frame has. -/
structure SRel (nt : Nat) (ι : Inj) (h : Heap) (t : T) (a : Act) (w : World) : Prop where
  rel : Rel ι h w
  tmps : ∀ i, VRel ι h.length (t i) (a.tmps.getD i undef)
  defers : a.defers = []
  size : nt ≤ a.tmps.size

/-- What a call of the model's function 'f' does, by the abstract call. -/
def CallOk (P : Program) (f : FuncId) (args : List Value) (h : Heap) (v : Value) (h' : Heap) : Prop :=
  ∀ ι w args', Rel ι h w → CRel ι h.length args args' → Calls P f args'.toArray w fun e w' => ∃ ι' v', e = .returned v' ∧ Step ι h w ι' h' w' ∧ VRel ι' h'.length v v'

def CallsOk (P : Program) (nm : Names) (call : CallF) : Prop :=
  (∀ n args h v h', call n args h = some (v, h') → ∀ f, nm f = some n → CallOk P f args h v h') ∧
  ∀ fv args h v h', call "@dyn" (fv :: args) h = some (v, h') → ∃ f first caps fn, fv = .func (.func f) first caps ∧ P.funcs[f]? = some fn ∧ fn.body.isSome = true ∧ fn.name ≠ "runtime.NumGoroutine" ∧ CallOk P f (first.toList ++ args ++ caps.toList) h v h'

theorem SRel.erel {nt : Nat} {ι : Inj} {h : Heap} {t : T} {a : Act} {w : World} (hs : SRel nt ι h t a w) : ERel ι h.length t a.eval := by
  intro x hx
  cases x with
  | tmp i => exact hs.tmps i
  | const v => exact const_rel hx
  | global g => cases hx
  | func f => exact .func _ _ _ _ _ rfl rfl (fun i => by simpa using VRel.undef) (fun i => by simpa using VRel.undef)

theorem SRel.put {nt : Nat} {ι ι' : Inj} {h h' : Heap} {t : T} {a : Act} {w w' : World} (hs : SRel nt ι h t a w) (st : Step ι h w ι' h' w') {d : Option Tmp} (hd : ∀ k, d = some k → k < nt) {v v' : Value} (hv : VRel ι' h'.length v v') :
    SRel nt ι' h' (Wb.put t d v) (a.put d v') w' := by
  cases d with
  | none => exact ⟨st.rel, fun i => st.vrel (hs.tmps i), hs.defers, hs.size⟩
  | some k =>
    have hk := hd k rfl
    refine ⟨st.rel, fun i => ?_, hs.defers, by simpa [Act.put] using hs.size⟩
    have hlt : k < a.tmps.size := Nat.lt_of_lt_of_le hk hs.size
    simp only [Wb.put, upd, Act.put]
    by_cases hi : i = k
    · subst hi
      simpa [hlt] using hv
    · rw [if_neg hi]
      have := st.vrel (hs.tmps i)
      simpa [Array.getElem?_setIfInBounds_ne (Ne.symm hi)] using this

section
variable {P : Program} {nm : Names} {nt : Nat} {ι : Inj} {h h' : Heap} {w : World} {t t' : T} {a : Act} {v : Value}

theorem aggN_one {e : TypeId} (ha : aggN P e = some none) : ∃ i, P.info? e = some i := by
  obtain ⟨i, _, hi, _⟩ := aggN_none ha
  exact ⟨i, hi⟩

/-- Each operation that is taken over, but for calls of functions, does what the abstract one tells. -/
theorem op_sound {o : Oper} {op : AOp} (hs : SRel nt ι h t a w) (hc : compileOp P o.op = some op) (hx : aOp op t h = some (v, h')) : Does P (execOp a.eval o) ι h w v h' := by
  obtain ⟨d, oop, ty, pos, af, g⟩ := o
  have hr := hs.rel
  have he := hs.erel
  have hρ : ∀ v, a.eval (.const v) = v := fun _ => rfl
  simp only at hc
  unfold compileOp at hc
  split at hc
  case isFalse => cases hc
  rename_i hok0
  have hok := List.all_eq_true.1 hok0
  clear hok0
  split at hc
  · injection hc with hc; subst hc
    exact op_move hr he (hok _ (by simp [Op.operands])) hx
  · injection hc with hc; subst hc
    exact op_assign hr he (hok _ (by simp [Op.operands])) hx
  · injection hc with hc; subst hc
    exact op_pick hr he (hok _ (by simp [Op.operands])) (hok _ (by simp [Op.operands])) (hok _ (by simp [Op.operands])) hx
  · rw [Option.map_eq_some_iff] at hc
    obtain ⟨zs, hz, hc⟩ := hc
    subst hc
    exact op_alloc hr hz hx
  · injection hc with hc; subst hc
    exact op_box hr he (hok _ (by simp [Op.operands])) hx
  · rename_i e parts
    have hp : ∀ x ∈ parts.toList, operOk x.2 = true := fun x hx => hok _ (by simp [Op.operands]; exact ⟨x.1, by simpa using hx⟩)
    split at hc
    · rename_i z fs hz hu
      split at hc
      · rename_i l hl
        split at hc
        · rename_i hi
          injection hc with hc; subst hc
          exact op_build_struct hr he hp hz hu hl hi hx
        · cases hc
      · cases hc
    · rename_i z n el hz hu
      split at hc
      · rename_i j hj
        split at hc
        · rename_i l hl
          injection hc with hc; subst hc
          exact op_build_array hr he hp hz hu hj hl hx
        · cases hc
      · cases hc
    · cases hc
  · rename_i e n parts
    have hp : ∀ x ∈ parts.toList, operOk x.2 = true := fun x hx => hok _ (by simp [Op.operands]; exact ⟨x.1, by simpa using hx⟩)
    split at hc
    · rename_i el hu
      split at hc
      · rename_i j z hj hz
        split at hc
        · rename_i hcond
          split at hc
          · rename_i l hl
            injection hc with hc; subst hc
            exact op_buildSlice hr he hp hz hu hj hl hcond.1 hcond.2.1 hx
          · cases hc
        · cases hc
      · cases hc
    · cases hc
  · rw [Option.map_eq_some_iff] at hc
    obtain ⟨n, hn, hc⟩ := hc
    subst hc
    exact op_load hr he (hok _ (by simp [Op.operands])) hn hx
  · rename_i e x y
    split at hc
    · rename_i hsz
      rw [Option.map_eq_some_iff] at hc
      obtain ⟨n, hn, hc⟩ := hc
      subst hc
      refine op_store hr he (hok _ (by simp [Op.operands])) (hok _ (by simp [Op.operands])) hn (fun h0 => ?_) hx
      subst h0
      obtain ⟨i, u, hi, hu, hag⟩ := aggN_none hn
      have := hsz hag
      rw [hi] at this
      exact ⟨i, hi, by simpa using this⟩
    · cases hc
  · injection hc with hc; subst hc
    exact op_nilCheck hr he (hok _ (by simp [Op.operands])) hx
  · rename_i bop e x y e'
    have hox := hok x (by simp [Op.operands])
    have hoy := hok y (by simp [Op.operands])
    unfold compileBin at hc
    split at hc
    · injection hc with hc; subst hc
      exact op_bin hr he hox hoy hx
    · injection hc with hc; subst hc
      exact op_bin hr he hox hoy hx
    · rename_i hu
      injection hc with hc; subst hc
      exact op_binB hr he hox hoy hu hx
    · rename_i el hu
      split at hc
      · injection hc with hc; subst hc
        exact op_nilv (neg := false) (left := false) hr he hox hu hρ hx
      · injection hc with hc; subst hc
        exact op_nilv (neg := true) (left := false) hr he hox hu hρ hx
      · injection hc with hc; subst hc
        exact op_nilv (neg := false) (left := true) hr he hoy hu hρ hx
      · injection hc with hc; subst hc
        exact op_nilv (neg := true) (left := true) hr he hoy hu hρ hx
      · cases hc
    · rename_i fs hu
      split at hc
      · rename_i ks hk
        split at hc
        · rename_i hg
          have hag : isAggT P e = true := by simp [isAggT, isAggC, hu]
          split at hc
          · injection hc with hc; subst hc
            exact op_eqv (neg := false) hr he hox hoy hk hg hag hx
          · injection hc with hc; subst hc
            exact op_eqv (neg := true) hr he hox hoy hk hg hag hx
          · cases hc
        · cases hc
      · cases hc
    · rename_i n el hu
      split at hc
      · rename_i ks hk
        split at hc
        · rename_i hg
          have hag : isAggT P e = true := by simp [isAggT, isAggC, hu]
          split at hc
          · injection hc with hc; subst hc
            exact op_eqv (neg := false) hr he hox hoy hk hg hag hx
          · injection hc with hc; subst hc
            exact op_eqv (neg := true) hr he hox hoy hk hg hag hx
          · cases hc
        · cases hc
      · cases hc
    · cases hc
  · injection hc with hc; subst hc
    exact op_un hr he (hok _ (by simp [Op.operands])) hx
  · rename_i src dst x
    have hox := hok x (by simp [Op.operands])
    split at hc
    · rename_i k k' hu hk
      injection hc with hc; subst hc
      exact op_convInt hr he hox hu hk hx
    · rename_i hu hk
      injection hc with hc; subst hc
      exact op_convStr hr he hox hu hk hx
    · rename_i el hu hk
      split at hc
      · rename_i h8
        injection hc with hc; subst hc
        refine op_strBytes hr he hox hu hk h8 hx
      · cases hc
    · rename_i el hu hk
      split at hc
      · rename_i h8
        injection hc with hc; subst hc
        refine op_bytesStr hr he hox hu hk h8 hx
      · cases hc
    · cases hc
  · rename_i e x
    split at hc
    · cases hc
    · rename_i u hn hu
      injection hc with hc; subst hc
      exact op_iface hr he (hok _ (by simp [Op.operands])) hu (fun ms hms => hn ms hms) hx
    · cases hc
  · rename_i fn f c
    injection hc with hc; subst hc
    exact op_func hr he (fun x hx => hok x (by simp [Op.operands] at *; exact .inl hx)) (fun x hx => hok x (by simp [Op.operands] at *; exact .inr hx)) hx
  · rename_i e l c
    split at hc
    · rename_i el hu
      split at hc
      · rename_i n b z hsb hz
        split at hc
        · rename_i hcond
          injection hc with hc; subst hc
          unfold sizeBytes at hsb
          split at hsb
          · rename_i j hj
            injection hsb with hsb
            injection hsb with e1 e2
            subst e1 e2
            exact op_makeSlice hr he (hok _ (by simp [Op.operands])) (hok _ (by simp [Op.operands])) hz hu hj hcond.2.1 hcond.1 hx
          · cases hsb
        · cases hc
      · cases hc
    · cases hc
  · rename_i e x lo hi mx
    have ol : ∀ y, lo = some y → operOk y = true := fun y hy => hok _ (by subst hy; simp [Op.operands])
    have oh : ∀ y, hi = some y → operOk y = true := fun y hy => hok _ (by subst hy; simp [Op.operands])
    have hox := hok x (by simp [Op.operands])
    split at hc
    · rename_i hu
      injection hc with hc; subst hc
      exact op_sliceStr hr he hox ol oh hu hx
    · rename_i el hu
      split at hc
      · rename_i j hj
        split at hc
        · injection hc with hc; subst hc
          exact op_sliceSl hr he hox ol oh hu hj hx
        · cases hc
      · cases hc
    · rename_i n el hu
      split at hc
      · rename_i j hj
        split at hc
        · injection hc with hc; subst hc
          exact op_sliceArr hr he hox ol oh hu hj hx
        · cases hc
      · cases hc
    · cases hc
  · rename_i s x f
    split at hc
    · rename_i fs hu
      split at hc
      · rename_i fd hf
        split at hc
        · rename_i j hj
          split at hc
          · rename_i h1
            injection hc with hc; subst hc
            exact op_fieldAddr hr he (hok _ (by simp [Op.operands])) hu hf hj h1 hx
          · cases hc
        · cases hc
      · cases hc
    · cases hc
  · rename_i s x f
    split at hc
    · rename_i fs hu
      split at hc
      · rename_i fd hf
        rw [Option.map_eq_some_iff] at hc
        obtain ⟨n, hn, hc⟩ := hc
        subst hc
        exact op_field hr he (hok _ (by simp [Op.operands])) hu hf hn hx
      · cases hc
    · cases hc
  · rename_i s x i
    split at hc
    · rename_i n el hu
      split at hc
      · rename_i j hj
        injection hc with hc; subst hc
        exact op_idxAddrArr hr he (hok _ (by simp [Op.operands])) (hok _ (by simp [Op.operands])) hu hj hx
      · cases hc
    · rename_i el hu
      split at hc
      · rename_i j hj
        split at hc
        · injection hc with hc; subst hc
          exact op_idxAddrSl hr he (hok _ (by simp [Op.operands])) (hok _ (by simp [Op.operands])) hu hj hx
        · cases hc
      · cases hc
    · cases hc
  · rename_i s x i
    split at hc
    · rename_i n el hu
      split at hc
      · rename_i j m hj hm
        injection hc with hc; subst hc
        exact op_idxArr hr he (hok _ (by simp [Op.operands])) (hok _ (by simp [Op.operands])) hu hj hm hx
      · cases hc
    · rename_i hu
      injection hc with hc; subst hc
      exact op_idxStr hr he (hok _ (by simp [Op.operands])) (hok _ (by simp [Op.operands])) hu hx
    · cases hc
  · injection hc with hc; subst hc
    exact op_extract hr he (hok _ (by simp [Op.operands])) hx
  · rename_i c
    obtain ⟨callee, args, ats⟩ := c
    obtain ⟨args⟩ := args
    obtain ⟨ats⟩ := ats
    have hop : ∀ y ∈ args, operOk y = true := fun y hy => hok y (by simp [Op.operands, Call.operands]; exact .inr hy)
    unfold compileCall at hc
    split at hc
    · split at hc
      · split at hc
        · injection hc with hc; subst hc
          simp [aOp] at hx
        · cases hc
      · cases hc
    · rename_i hcal
      simp only at hcal
      subst hcal
      split at hc
      · rename_i x e hx1 he1
        simp only at hx1 he1
        subst hx1 he1
        have hox := hop x (by simp)
        split at hc
        · rename_i hu
          injection hc with hc; subst hc
          exact op_lenStr hr he hox hu hx
        · rename_i el hu
          injection hc with hc; subst hc
          exact op_len hr he hox hu hx
        · rename_i n el hu
          injection hc with hc; subst hc
          exact op_lenArr hr (.inl ⟨el, hu⟩) hx
        · rename_i e2 hu
          split at hc
          · rename_i n el hu2
            injection hc with hc; subst hc
            exact op_lenArr hr (.inr ⟨e2, el, hu, hu2⟩) hx
          · cases hc
        · cases hc
      · cases hc
    · rename_i hcal
      simp only at hcal
      subst hcal
      split at hc
      · rename_i s x e tx hx1 he1
        simp only at hx1 he1
        subst hx1 he1
        have hos := hop s (by simp)
        have hox := hop x (by simp)
        have key : ∀ (el : TypeId) (dx : TypeDesc), P.underlying e = some (.slice el) → P.underlying tx = some dx → ((∃ e2, dx = .slice e2) ∨ dx = .string) →
            (match sizeBytes P el, zeroOf P el with
              | some (n, b), some z => if 1 ≤ b ∧ 1 ≤ n ∧ z.length = n then some (AOp.append n b s x) else none
              | _, _ => none) = some op → Does P (execOp a.eval ⟨d, .call ⟨.builtin .append, #[s, x], #[e, tx]⟩, ty, pos, af, g⟩) ι h w v h' := by
          intro el dx hu hut hdx hc
          split at hc
          · rename_i n b z hsb hz
            split at hc
            · rename_i hcond
              injection hc with hc; subst hc
              unfold sizeBytes at hsb
              split at hsb
              · rename_i j hj
                injection hsb with hsb
                injection hsb with e1 e2
                subst e1 e2
                obtain ⟨i, zz, hi, hzz, hzv, hzl, _⟩ := zeroOf_some hz
                rw [hj] at hi
                injection hi with hi
                subst hi
                exact op_append hr he hos hox hu hut hdx hj hzz (by rw [← hzv, valCells_eq] at hzl; simpa using hzl) hcond.1 hcond.2.1 hx
              · cases hsb
            · cases hc
          · cases hc
        split at hc
        · rename_i el e2 hu hut
          exact key el _ hu hut (.inl ⟨e2, rfl⟩) hc
        · rename_i el hu hut
          exact key el _ hu hut (.inr rfl) hc
        · cases hc
      · cases hc
    · rename_i hcal
      simp only at hcal
      subst hcal
      split at hc
      · rename_i dd s e e2 hx1 he1
        simp only at hx1 he1
        subst hx1 he1
        split at hc
        · rename_i el hu
          split at hc
          · rename_i n b hsb
            split at hc
            · rename_i hcond
              injection hc with hc; subst hc
              unfold sizeBytes at hsb
              split at hsb
              · rename_i j hj
                injection hsb with hsb
                injection hsb with e1 e2
                subst e1 e2
                exact op_copy hr he (hop dd (by simp)) (hop s (by simp)) hu hj hcond hx
              · cases hsb
            · cases hc
          · cases hc
        · cases hc
      · cases hc
    · rename_i hcal
      simp only at hcal
      subst hcal
      split at hc
      · rename_i x y hx1
        simp only at hx1
        subst hx1
        injection hc with hc; subst hc
        exact op_max2 hr he (hop x (by simp)) (hop y (by simp)) hx
      · cases hc
    · rename_i hcal
      simp only at hcal
      subst hcal
      split at hc
      · rename_i x y hx1
        simp only at hx1
        subst hx1
        injection hc with hc; subst hc
        exact op_min2 hr he (hop x (by simp)) (hop y (by simp)) hx
      · cases hc
    · cases hc
  · cases hc

end
end Go.Wb

/- An operation of a region, with its guard; calls; a region that does not draw its order. -/
namespace Go.Wb
open Go
section
variable {P : Program} {nm : Names} {nt : Nat} {ι : Inj} {h h' : Heap} {w : World} {t t' : T} {a : Act} {v : Value} {call : CallF} {ops : Array Oper} {Q : Exit → Act → World → Prop}

theorem guard_same {o : Oper} {g : Option (Tmp × Bool)} (hs : SRel nt ι h t a w) (hg : guardOf ops o.guard = some g) : Region.wanted o (yielded ops a.tmps) = wantedA g t := by
  obtain ⟨d, oop, ty, pos, af, gd⟩ := o
  cases gd with
  | none =>
    simp only [guardOf] at hg
    injection hg with hg
    subst hg
    rfl
  | some x =>
    obtain ⟨j, want⟩ := x
    simp only [guardOf] at hg
    split at hg
    · rename_i d' hd'
      injection hg with hg
      subst hg
      simp only [Region.wanted, wantedA, yielded, hd', Option.bind_some]
      have hv := hs.tmps d'
      cases hq : a.tmps[d']? with
      | none =>
        have e : a.tmps.getD d' undef = undef := by simp [hq]
        rw [e] at hv
        cases ht : t d' <;> rw [ht] at hv <;> first | rfl | (cases hv; done) | skip
        all_goals (first | rfl | (generalize hu : undef = u at hv; cases hv; exact absurd hu (by simp [undef])))
      | some u =>
        have e : a.tmps.getD d' undef = u := by simp [hq]
        rw [e] at hv
        cases ht : t d' <;> rw [ht] at hv <;> cases hv <;> first | rfl | (cases want <;> rename_i b <;> cases b <;> rfl)
    · cases hg

theorem callNext {o : Oper} {c : Call} {f : FuncId} {fn : Func} (ho : o.op = .call c) (hc : c.callee = .value (.func f)) (hf : P.funcs[f]? = some fn) (hb : fn.body.isSome = true) (hn : fn.name ≠ "runtime.NumGoroutine") (ρ : Operand → Value) (hρ : ρ (.func f) = .func (.func f) #[] #[]) :
    (execOp ρ o).run P w = .ok (.enter f (c.args.map ρ)) w := by
  obtain ⟨d, oop, ty, pos, af, gd⟩ := o
  simp only at ho
  subst ho
  have hbn : fn.body.isNone = false := by cases hx : fn.body <;> simp [hx] at hb ⊢
  have hne : (fn.name == "runtime.NumGoroutine") = false := by simpa using hn
  simp only [execOp, resolve, hc, hρ, Deferred.ofValue, invoke, callFunc, pure_bind, Sem.run_bind, run_program, Result.andThen_ok, hf, hbn, hne, Bool.false_eq_true, if_false, Array.append_empty]
  simp

theorem callNextD {o : Oper} {c : Call} {i : Nat} {f : FuncId} {fn : Func} (ho : o.op = .call c) (hc : c.callee = .value (.tmp i)) (hf : P.funcs[f]? = some fn) (hb : fn.body.isSome = true) (hn : fn.name ≠ "runtime.NumGoroutine")
    (ρ : Operand → Value) {first' caps' : Array Value} (hρ : ρ (.tmp i) = .func (.func f) first' caps') : (execOp ρ o).run P w = .ok (.enter f (first' ++ c.args.map ρ ++ caps')) w := by
  obtain ⟨d, oop, ty, pos, af, gd⟩ := o
  simp only at ho
  subst ho
  have hbn : fn.body.isNone = false := by cases hx : fn.body <;> simp [hx] at hb ⊢
  have hne : (fn.name == "runtime.NumGoroutine") = false := by simpa using hn
  simp only [execOp, resolve, hc, hρ, Deferred.ofValue, invoke, callFunc, pure_bind, Sem.run_bind, run_program, Result.andThen_ok, hf, hbn, hne, Bool.false_eq_true, if_false]
  simp

theorem List.append_toArray_aux {a b c : Array Value} : (a.toList ++ b.toList ++ c.toList).toArray = a ++ b ++ c := by simp

theorem oper_sound {o : Oper} {ao : AOper} (hcalls : CallsOk P nm call) (hs : SRel nt ι h t a w) (hc : compileOper P nm nt ops o = some ao) (hx : stepA call ao t h = some (t', h')) :
    (Region.wanted o (yielded ops a.tmps) = true → o.wp P a w (fun a' w' => ∃ ι', SRel nt ι' h' t' a' w' ∧ Step ι h w ι' h' w') Q) ∧
    (Region.wanted o (yielded ops a.tmps) = false → SRel nt ι h' t' (a.put o.dst undef) w ∧ h' = h) := by
  unfold compileOper at hc
  split at hc
  case h_2 => cases hc
  rename_i op g hop hg
  have hw := guard_same (nt := nt) hs hg
  have hao : ao = ⟨o.dst, op, g⟩ ∧ ∀ k, o.dst = some k → k < nt := by
    split at hc
    · rename_i hd
      injection hc with hc
      exact ⟨by rw [← hc, hd], fun k hk => by rw [hd] at hk; cases hk⟩
    · rename_i k hd
      split at hc
      · rename_i hlt
        injection hc with hc
        exact ⟨by rw [← hc, hd], fun k' hk => by rw [hd] at hk; injection hk with hk; rw [← hk]; exact hlt⟩
      · cases hc
  obtain ⟨rfl, hd⟩ := hao
  unfold stepA at hx
  simp only at hx
  rw [hw]
  constructor
  · intro hwt
    rw [if_pos hwt] at hx
    split at hx
    case h_2 => cases hx
    rename_i v h1 hev
    injection hx with hx
    injection hx with e1 e2
    subst e1 e2
    have pure_case : ∀ (hcp : compileOp P o.op = some op) (hap : aOp op t h = some (v, h1)), o.wp P a w (fun a' w' => ∃ ι', SRel nt ι' h1 (put t o.dst v) a' w' ∧ Step ι h w ι' h1 w') Q := by
      intro hcp hap
      obtain ⟨ι', v', w', nx, hrun, hnx, hst, hv⟩ := op_sound hs hcp hap
      unfold Oper.wp
      rw [hrun]
      rcases hnx with rfl | ⟨rfl, rfl⟩
      · exact ⟨ι', hs.put hst hd hv, hst⟩
      · exact ⟨ι', hs.put hst hd hv, hst⟩
    have nocall_case : noCall (compileOp P o.op) = some op → o.wp P a w (fun a' w' => ∃ ι', SRel nt ι' h1 (put t o.dst v) a' w' ∧ Step ι h w ι' h1 w') Q := by
      intro hnc
      unfold noCall at hnc
      split at hnc
      · cases hnc
      · rename_i hno
        refine pure_case hnc ?_
        unfold evalA at hev
        split at hev
        · rename_i f args
          exact (hno f args hnc).elim
        · exact hev
    unfold compileOpN at hop
    split at hop
    · rename_i c hoc
      split at hop
      · rename_i f hcal
        split at hop
        · rename_i n fn hn hf
          split at hop
          · rename_i hcond
            obtain ⟨hb, hnn, hoa⟩ := hcond
            injection hop with hop
            subst hop
            simp only [evalA] at hev
            have hargs : CRel ι h.length (c.args.toList.map (Ev t)) (c.args.map a.eval).toList := by
              refine crel_of (by simp) fun i q1 q2 => ?_
              have hi : i < c.args.toList.length := by simpa using q1
              simp only [List.getElem_map, Array.toList_map]
              exact hs.erel _ (List.all_eq_true.1 hoa _ (List.getElem_mem hi))
            have hcl := hcalls.1 n _ _ _ _ hev f hn ι w _ hs.rel hargs
            unfold Oper.wp
            rw [callNext hoc hcal hf hb hnn a.eval rfl]
            simp only [Oper.upon]
            rw [Array.toArray_toList] at hcl
            refine hcl.mono ?_
            rintro e w' ⟨ι', v', rfl, hst, hv⟩
            exact ⟨ι', hs.put hst hd hv, hst⟩
          · cases hop
        · cases hop
      · rename_i i hcal
        split at hop
        · rename_i hoa
          injection hop with hop
          subst hop
          simp only [evalA, List.map_cons] at hev
          obtain ⟨f, first, caps, fn, hfv, hf, hb, hnn, hok⟩ := hcalls.2 _ _ _ _ _ hev
          have hti := hs.tmps i
          simp only [Ev] at hfv
          rw [hfv] at hti
          obtain ⟨first', caps', hx', hr1, hr2⟩ := hti.func_inv
          have hargs : CRel ι h.length (first.toList ++ c.args.toList.map (Ev t) ++ caps.toList) (first'.toList ++ (c.args.map a.eval).toList ++ caps'.toList) := by
            refine crel_append (crel_append hr1 ?_) hr2
            refine crel_of (by simp) fun i q1 q2 => ?_
            have hi : i < c.args.toList.length := by simpa using q1
            simp only [List.getElem_map, Array.toList_map]
            exact hs.erel _ (List.all_eq_true.1 hoa _ (List.getElem_mem hi))
          have hcl := hok ι w _ hs.rel hargs
          unfold Oper.wp
          rw [callNextD hoc hcal hf hb hnn a.eval (first' := first') (caps' := caps') (by simpa [Act.eval] using hx')]
          simp only [Oper.upon]
          rw [List.append_toArray_aux] at hcl
          refine hcl.mono ?_
          rintro e w' ⟨ι', v', rfl, hst, hv⟩
          exact ⟨ι', hs.put hst hd hv, hst⟩
        · cases hop
      · exact nocall_case hop
    · exact nocall_case hop
  · intro hwf
    rw [hwf] at hx
    simp only [Bool.false_eq_true, if_false] at hx
    injection hx with hx
    injection hx with e1 e2
    subst e1 e2
    exact ⟨hs.put (.refl hs.rel) hd .undef, rfl⟩

end
end Go.Wb

/- Regions that draw their order: what is asked of their edges (by a look that the kernel does), and which loads are looked at at which stages. -/
namespace Go.Wb
open Go

def aopOperands : AOp → List Operand
  | .move x | .box x | .load _ x | .nilCheck x | .nilv _ x | .un _ x | .convInt _ x | .convStr x | .strBytes x | .bytesStr x | .iface _ x | .fieldAddr _ x | .field _ _ x | .len x | .lenStr x | .extract x _ => [x]
  | .pick c a b => [c, a, b]
  | .alloc _ | .const _ => []
  | .build _ ps | .buildSlice _ _ _ ps => ps.map fun p => p.2.2
  | .store _ a x => [a, x]
  | .bin _ x y | .binB _ x y | .eqv _ _ x y | .max2 x y | .min2 x y => [x, y]
  | .func _ f c => f ++ c
  | .makeSlice _ _ _ l c => [l, c]
  | .sliceSl _ x lo hi | .sliceStr x lo hi | .sliceArr _ _ x lo hi => [x] ++ lo.toList ++ hi.toList
  | .idxAddrArr _ _ x i | .idxAddrSl _ x i | .idxArr _ _ _ x i | .idxStr x i => [x, i]
  | .append _ _ s x => [s, x]
  | .copy _ d s => [d, s]
  | .call _ args => args

def tmpsOf : List Operand → List Tmp
  | [] => []
  | .tmp i :: l => i :: tmpsOf l
  | _ :: l => tmpsOf l

def readsOf (o : AOper) : List Tmp := tmpsOf (aopOperands o.op) ++ (match o.guard with | some (d, _) => [d] | none => [])

/-- Does it look at the heap in another way than a load? -/
def isR : AOp → Bool
  | .bytesStr .. | .sliceArr .. => true
  | _ => false

def isLoad : AOp → Bool
  | .load .. => true
  | _ => false

/-- All that stands ahead of an operation by edges that bind: a row of bits. -/
def maskOf (acc : List Nat) (o : Oper) : Nat :=
  o.after.toList.foldl (fun s e => if Region.binds .any e then s ||| (2 ^ e.on ||| acc.getD e.on 0) else s) 0

def ancs : List Oper → List Nat → List Nat
  | [], acc => acc
  | o :: l, acc => ancs l (acc ++ [maskOf acc o])

def depends (x y : AOper) : Bool :=
  (match x.dst with | some d => (readsOf y).contains d || y.dst == some d | none => false) ||
  (match y.dst with | some d => (readsOf x).contains d | none => false) ||
  (isE x.op && isE y.op) || (isE x.op && isR y.op) || (isR x.op && isE y.op)

def cnt (l : List AOper) (k : Nat) : Nat := ((l.take k).filter fun o => isE o.op).length
def cntL (l : List AOper) (k : Nat) : Nat := ((l.take k).filter fun o => isLoad o.op).length

def anc (m : List Nat) (j i : Nat) : Bool := (m.getD j 0).testBit i

/-- May the load 'i' be done when 's' effects have been? -/
def stageOk (l : List AOper) (m : List Nat) (i s : Nat) : Bool :=
  (List.range l.length).all fun e => match l[e]? with
    | some o => !isE o.op || ((!anc m i e || decide (cnt l e < s)) && (!anc m e i || decide (s ≤ cnt l e)))
    | none => true

def pairsOf (l : List AOper) (m : List Nat) : List (Nat × Nat) :=
  (List.range l.length).flatMap fun i => match l[i]? with
    | some o => if isLoad o.op then ((List.range (cnt l l.length + 1)).filter fun s => s != cnt l i && stageOk l m i s).map fun s => (cntL l i, s) else []
    | none => []

def edgesBack (ops : List Oper) : Bool :=
  (List.range ops.length).all fun j => match ops[j]? with
    | some o => o.after.toList.all fun e => !Region.binds .any e || decide (e.on < j)
    | none => true

def depsOk (l : List AOper) (m : List Nat) : Bool :=
  (List.range l.length).all fun j => (List.range j).all fun i => match l[i]?, l[j]? with
    | some x, some y => !depends x y || anc m j i
    | _, _ => true

def drawOk (ops : List Oper) (l : List AOper) : Option (List (Nat × Nat)) :=
  if edgesBack ops && depsOk l (ancs ops []) then some (pairsOf l (ancs ops [])) else none

/-! ### What an operation's result hangs on -/
theorem ev_congr {t t' : T} : ∀ {x : Operand}, (∀ i, x = .tmp i → t i = t' i) → Ev t x = Ev t' x
  | .tmp i, h => h i rfl
  | .const _, _ => rfl
  | .global _, _ => rfl
  | .func _, _ => rfl

theorem mem_tmpsOf {i : Tmp} : ∀ {l : List Operand}, Operand.tmp i ∈ l → i ∈ tmpsOf l
  | [], h => by cases h
  | x :: l, h => by
    cases h with
    | head => simp [tmpsOf]
    | tail _ h => have := mem_tmpsOf h; cases x <;> simp [tmpsOf, this]

theorem bound_congr {t t' : T} {a b : Nat} {x : Option Operand} (h : ∀ y, x = some y → Ev t y = Ev t' y) : bound t a b x = bound t' a b x := by
  cases x with
  | none => rfl
  | some y => simp only [bound]; rw [h y rfl]

theorem fillL_congr {t t' : T} : ∀ {cs : List Value} {ps : List (Nat × Nat × Operand)}, (∀ p ∈ ps, Ev t p.2.2 = Ev t' p.2.2) → fillL t cs ps = fillL t' cs ps
  | cs, [], _ => rfl
  | cs, (o, s, x) :: ps, h => by
    simp only [fillL]
    have h1 : Ev t x = Ev t' x := h (o, s, x) (by simp)
    rw [h1]
    split
    · exact fillL_congr (fun p hp => h p (by simp [hp]))
    · rfl

theorem map_congr {t t' : T} {l : List Operand} (h : ∀ x ∈ l, Ev t x = Ev t' x) : l.map (Ev t) = l.map (Ev t') := List.map_congr_left h

theorem evalA_congr {call : CallF} {op : AOp} {t t' : T} {h : Heap} (hh : ∀ x ∈ aopOperands op, Ev t x = Ev t' x) : evalA call op t h = evalA call op t' h := by
  cases op <;> simp only [evalA, aOp, aopOperands, forall_eq, List.mem_cons, List.not_mem_nil, or_false, forall_eq_or_imp] at hh ⊢ <;>
    first
    | rfl
    | (rw [hh]; done)
    | (rw [hh.1, hh.2]; done)
    | (rw [hh.1, hh.2.1, hh.2.2]; done)
    | (rw [fillL_congr (fun p hp => hh _ (List.mem_map.2 ⟨p, hp, rfl⟩))]; done)
    | (rw [map_congr (fun x hx => hh x (List.mem_append.2 (.inl hx))), map_congr (fun x hx => hh x (List.mem_append.2 (.inr hx)))]; done)
    | (rw [map_congr hh]; done)
    | skip
  · rename_i size x lo hi
    have hx : Ev t x = Ev t' x := hh x (by simp)
    have hl : ∀ y, lo = some y → Ev t y = Ev t' y := fun y hy => hh y (by simp [hy])
    have hhi : ∀ y, hi = some y → Ev t y = Ev t' y := fun y hy => hh y (by simp [hy])
    simp only [hx, bound_congr hl, bound_congr hhi]
  · rename_i x lo hi
    have hx : Ev t x = Ev t' x := hh x (by simp)
    have hl : ∀ y, lo = some y → Ev t y = Ev t' y := fun y hy => hh y (by simp [hy])
    have hhi : ∀ y, hi = some y → Ev t y = Ev t' y := fun y hy => hh y (by simp [hy])
    simp only [hx, bound_congr hl, bound_congr hhi]
  · rename_i n size x lo hi
    have hx : Ev t x = Ev t' x := hh x (by simp)
    have hl : ∀ y, lo = some y → Ev t y = Ev t' y := fun y hy => hh y (by simp [hy])
    have hhi : ∀ y, hi = some y → Ev t y = Ev t' y := fun y hy => hh y (by simp [hy])
    simp only [hx, bound_congr hl, bound_congr hhi]

/-- What changes nothing gives the same over any heap. -/
theorem pure_any {call : CallF} {op : AOp} {t : T} {h h' h2 : Heap} {v : Value} (he : isE op = false) (hr : isR op = false) (hl : isLoad op = false) (hx : evalA call op t h = some (v, h')) :
    h' = h ∧ evalA call op t h2 = some (v, h2) := by
  cases op <;> first | (cases he; done) | (cases hr; done) | (cases hl; done) | skip
  all_goals
    simp only [evalA, aOp] at hx ⊢
    first
    | (injection hx with hx; injection hx with e1 e2; subst e1 e2; exact ⟨rfl, rfl⟩)
    | (rw [Option.map_eq_some_iff] at hx; obtain ⟨u, hu, hx⟩ := hx; injection hx with e1 e2; subst e1 e2; rw [hu]; exact ⟨rfl, rfl⟩)
    | ((repeat' split at hx) <;> first
        | (cases hx; done)
        | (injection hx with hx; injection hx with e1 e2; subst e1 e2; exact ⟨rfl, by simp [*]⟩)
        | (rw [Option.map_eq_some_iff] at hx; obtain ⟨u, hu, hx⟩ := hx; injection hx with e1 e2; subst e1 e2; exact ⟨rfl, by simp [*]⟩))

/-- What is no effect leaves the heap. -/
theorem heap_same {call : CallF} {op : AOp} {t : T} {h h' : Heap} {v : Value} (he : isE op = false) (hx : evalA call op t h = some (v, h')) : h' = h := by
  cases op <;> first | (cases he; done) | skip
  all_goals
    simp only [evalA, aOp] at hx
    first
    | (injection hx with hx; injection hx with e1 e2; exact e2.symm)
    | (rw [Option.map_eq_some_iff] at hx; obtain ⟨u, hu, hx⟩ := hx; injection hx with e1 e2; exact e2.symm)
    | ((repeat' split at hx) <;> first
        | (cases hx; done)
        | (injection hx with hx; injection hx with e1 e2; exact e2.symm)
        | (rw [Option.map_eq_some_iff] at hx; obtain ⟨u, hu, hx⟩ := hx; injection hx with e1 e2; exact e2.symm))

end Go.Wb

/- A region that draws its order: whatever order is drawn, it comes to what the order of the text comes to. -/
namespace Go.Wb
open Go

/-! ### The states in the order of the text -/
structure Trace (call : CallF) (l : List AOper) (t : T) (h : Heap) (ts : Nat → T) (hs : Nat → Heap) (vs : Nat → Value) (G : List Heap) (L : List LoadRec) : Prop where
  t0 : ts 0 = t
  h0 : hs 0 = h
  step : ∀ k o, l[k]? = some o → ts (k + 1) = put (ts k) o.dst (vs k) ∧
    ((wantedA o.guard (ts k) = true ∧ evalA call o.op (ts k) (hs k) = some (vs k, hs (k + 1))) ∨ (wantedA o.guard (ts k) = false ∧ vs k = undef ∧ hs (k + 1) = hs k))
  stages : ∀ k, k ≤ l.length → (h :: G)[cnt l k]? = some (hs k)
  loads : ∀ k o, l[k]? = some o → isLoad o.op = true → ∃ r, L[cntL l k]? = some r ∧ [r] = loadRec o (ts k) (hs k)
  len : G.length = cnt l l.length

theorem cnt_zero (l : List AOper) : cnt l 0 = 0 := by simp [cnt]
theorem cnt_cons (o : AOper) (l : List AOper) (k : Nat) : cnt (o :: l) (k + 1) = (if isE o.op then 1 else 0) + cnt l k := by
  simp only [cnt, List.take_succ_cons, List.filter_cons]
  split <;> simp; omega
theorem cntL_cons (o : AOper) (l : List AOper) (k : Nat) : cntL (o :: l) (k + 1) = (if isLoad o.op then 1 else 0) + cntL l k := by
  simp only [cntL, List.take_succ_cons, List.filter_cons]
  split <;> simp; omega

theorem step_inv {call : CallF} {o : AOper} {t t' : T} {h h' : Heap} (hx : stepA call o t h = some (t', h')) :
    ∃ v, t' = put t o.dst v ∧ ((wantedA o.guard t = true ∧ evalA call o.op t h = some (v, h')) ∨ (wantedA o.guard t = false ∧ v = undef ∧ h' = h)) := by
  unfold stepA at hx
  split at hx
  · rename_i hw
    split at hx
    · rename_i v h1 hev
      injection hx with hx
      injection hx with e1 e2
      subst e1 e2
      exact ⟨v, rfl, .inl ⟨hw, hev⟩⟩
    · cases hx
  · rename_i hw
    injection hx with hx
    injection hx with e1 e2
    subst e1 e2
    exact ⟨undef, rfl, .inr ⟨by simpa using hw, rfl, rfl⟩⟩

theorem step_heap {call : CallF} {o : AOper} {t t' : T} {h h' : Heap} (hx : stepA call o t h = some (t', h')) (he : isE o.op = false) : h' = h := by
  obtain ⟨v, _, h1 | h1⟩ := step_inv hx
  · exact heap_same he h1.2
  · exact h1.2.2

theorem loadRec_length (o : AOper) (t : T) (h : Heap) : (loadRec o t h).length = if isLoad o.op then 1 else 0 := by
  unfold loadRec
  cases o.op <;> simp only [isLoad, List.length_nil, Bool.false_eq_true, if_false, if_true]
  split
  · split <;> rfl
  · rfl

theorem trace_of {call : CallF} : ∀ {l : List AOper} {t t' : T} {h h' : Heap} {G : List Heap} {L : List LoadRec}, execLog call l t h = some (t', h', G, L) →
    ∃ ts hs vs, Trace call l t h ts hs vs G L ∧ ts l.length = t' ∧ hs l.length = h'
  | [], t, t', h, h', G, L, hx => by
    simp only [execLog] at hx
    injection hx with hx
    injection hx with e1 hx
    injection hx with e2 hx
    injection hx with e3 e4
    subst e1 e2 e3 e4
    refine ⟨fun _ => t, fun _ => h, fun _ => undef, ⟨rfl, rfl, fun k o ho => by simp at ho, fun k hk => ?_, fun k o ho => by simp at ho, rfl⟩, rfl, rfl⟩
    simp [cnt]
  | o :: l, t, t', h, h', G, L, hx => by
    simp only [execLog] at hx
    split at hx
    · rename_i t1 h1 hst
      split at hx
      · rename_i t2 h2 G2 L2 hrest
        injection hx with hx
        injection hx with e1 hx
        injection hx with e2 hx
        injection hx with e3 e4
        subst e1 e2 e3 e4
        obtain ⟨ts, hs, vs, tr, q1, q2⟩ := trace_of hrest
        obtain ⟨v, hv, hcase⟩ := step_inv hst
        refine ⟨fun k => match k with | 0 => t | k + 1 => ts k, fun k => match k with | 0 => h | k + 1 => hs k, fun k => match k with | 0 => v | k + 1 => vs k, ⟨rfl, rfl, ?_, ?_, ?_, ?_⟩, q1, q2⟩
        · intro k o' ho
          cases k with
          | zero =>
            simp only [List.getElem?_cons_zero] at ho
            injection ho with ho
            subst ho
            simp only [tr.t0, tr.h0]
            exact ⟨hv, hcase⟩
          | succ k => exact tr.step k o' (by simpa using ho)
        · intro k hk
          cases k with
          | zero => simp [cnt_zero]
          | succ k =>
            rw [cnt_cons]
            have := tr.stages k (by simpa using hk)
            by_cases he : isE o.op = true
            · simp only [he, if_true]
              rw [Nat.add_comm, List.getElem?_cons_succ]
              exact this
            · have he : isE o.op = false := by simpa using he
              have hh := step_heap hst he
              subst hh
              simp only [he, Bool.false_eq_true, if_false, Nat.zero_add]
              exact this
        · intro k o' ho hl
          cases k with
          | zero =>
            simp only [List.getElem?_cons_zero] at ho
            injection ho with ho
            subst ho
            have hlen := loadRec_length o t h
            rw [hl] at hlen
            simp only [if_true] at hlen
            obtain ⟨r, hr⟩ := List.length_eq_one_iff.1 hlen
            refine ⟨r, ?_, hr.symm⟩
            rw [hr]
            simp [cntL]
          | succ k =>
            obtain ⟨r, hr1, hr2⟩ := tr.loads k o' (by simpa using ho) hl
            refine ⟨r, ?_, hr2⟩
            rw [cntL_cons]
            have hlen := loadRec_length o t h
            rw [List.getElem?_append_right (by rw [hlen]; omega), hlen]
            rw [show (if isLoad o.op = true then 1 else 0) + cntL l k - (if isLoad o.op = true then 1 else 0) = cntL l k by omega]
            exact hr1
        · rw [List.length_cons, cnt_cons]
          have := tr.len
          by_cases he : isE o.op = true
          · simp only [he, if_true, List.length_cons]; omega
          · simp only [he, Bool.false_eq_true, if_false]; omega
      · cases hx
    · cases hx

/-! ### The temporaries when just some operations have been done -/
def tD (l : List AOper) (vs : Nat → Value) (t : T) (D : Nat → Bool) : Nat → T
  | 0 => t
  | k + 1 => match D k, l[k]? with
    | true, some o => put (tD l vs t D k) o.dst (vs k)
    | _, _ => tD l vs t D k

theorem put_other {t : T} {d : Option Tmp} {v : Value} {i : Tmp} (h : d ≠ some i) : put t d v i = t i := by
  cases d with
  | none => rfl
  | some k =>
    simp only [put, upd]
    rw [if_neg]
    intro he
    exact h (by rw [he])

theorem put_same {t : T} {v : Value} {i : Tmp} : put t (some i) v i = v := by simp [put, upd]

theorem tD_agree {l : List AOper} {vs : Nat → Value} {t : T} {D D' : Nat → Bool} {i : Tmp} : ∀ (n : Nat), (∀ k o, k < n → l[k]? = some o → o.dst = some i → D k = D' k) → tD l vs t D n i = tD l vs t D' n i
  | 0, _ => rfl
  | n + 1, h => by
    have ih := tD_agree (vs := vs) (t := t) n (fun k o hk => h k o (by omega))
    simp only [tD]
    cases hl : l[n]? with
    | none =>
      cases D n <;> cases D' n <;> exact ih
    | some o =>
      by_cases hd : o.dst = some i
      · have := h n o (by omega) hl hd
        rw [this]
        cases D' n
        · exact ih
        · simp only [hd, put_same]
      · cases D n <;> cases D' n <;> simp only [put_other hd] <;> exact ih

theorem tD_prefix {call : CallF} {l : List AOper} {t : T} {h : Heap} {ts : Nat → T} {hs : Nat → Heap} {vs : Nat → Value} {G : List Heap} {L : List LoadRec} (tr : Trace call l t h ts hs vs G L) (j : Nat) :
    ∀ n, n ≤ l.length → tD l vs t (fun k => decide (k < j)) n = ts (min n j)
  | 0, _ => by simp [tD, tr.t0]
  | n + 1, hn => by
    have ih := tD_prefix tr j n (by omega)
    have hl : l[n]? = some l[n] := List.getElem?_eq_getElem (by omega)
    simp only [tD, hl]
    by_cases hj : n < j
    · rw [show min (n + 1) j = n + 1 by omega, (tr.step n _ hl).1]
      rw [ih, show min n j = n by omega]
      simp [hj]
    · rw [show min (n + 1) j = min n j by omega, ← ih]
      simp [hj]

theorem tD_insert {l : List AOper} {vs : Nat → Value} {t : T} {D D' : Nat → Bool} {j : Nat} {o : AOper} (ho : l[j]? = some o) (hD : ∀ k, D' k = (D k || k == j)) :
    ∀ n, j < n → (∀ k o', j < k → k < n → l[k]? = some o' → D k = true → ∀ i, o.dst = some i → o'.dst ≠ some i) → tD l vs t D' n = put (tD l vs t D n) o.dst (vs j) ∨ D j = true
  | 0, hn, _ => by omega
  | n + 1, hn, hlate => by
    by_cases hjn : j = n
    · subst hjn
      by_cases hdj : D j = true
      · exact .inr hdj
      · left
        have hdj : D j = false := by simpa using hdj
        simp only [tD, ho, hD j, hdj, Bool.false_or, beq_self_eq_true]
        congr 1
        funext i
        refine tD_agree j fun k o' hk _ _ => ?_
        rw [hD k]
        have : (k == j) = false := by simp; omega
        rw [this, Bool.or_false]
    · have ih := tD_insert (vs := vs) (t := t) ho hD n (by omega) (fun k o' h1 h2 => hlate k o' h1 (by omega))
      rcases ih with ih | ih
      · left
        have hn' : D' n = D n := by rw [hD n]; have : (n == j) = false := by simp; omega
                                    rw [this, Bool.or_false]
        simp only [tD, hn']
        cases hl : l[n]? with
        | none => cases D n <;> exact ih
        | some o' =>
          cases hdn : D n with
          | false => exact ih
          | true =>
            simp only
            rw [ih]
            funext i
            by_cases h1 : o'.dst = some i
            · rw [h1, put_same]
              by_cases h2 : o.dst = some i
              · exact absurd h1 (hlate n o' (by omega) (by omega) hl hdn i h2)
              · rw [put_other h2, put_same]
            · rw [put_other h1]
              by_cases h2 : o.dst = some i
              · rw [h2, put_same, put_same]
              · rw [put_other h2, put_other h2, put_other h1]
      · exact .inr ih

/-! ### What stands ahead -/
theorem fold_mask (acc : List Nat) (D : Nat → Bool) (hacc : ∀ e i, D e = true → (acc.getD e 0).testBit i = true → D i = true) : ∀ (es : List Edge) (s : Nat), (∀ i, s.testBit i = true → D i = true) → (∀ e ∈ es, Region.binds .any e = true → D e.on = true) →
    ∀ i, (es.foldl (fun s e => if Region.binds .any e then s ||| (2 ^ e.on ||| acc.getD e.on 0) else s) s).testBit i = true → D i = true
  | [], s, hs, _, i, hi => hs i hi
  | e :: es, s, hs, he, i, hi => by
    simp only [List.foldl_cons] at hi
    refine fold_mask acc D hacc es _ ?_ (fun x hx => he x (by simp [hx])) i hi
    intro i hi
    split at hi
    · rename_i hb
      have hd := he e (by simp) hb
      simp only [Nat.testBit_or, Bool.or_eq_true] at hi
      rcases hi with hi | hi | hi
      · exact hs i hi
      · rw [Nat.testBit_two_pow] at hi
        have : e.on = i := by simpa using hi
        rw [← this]; exact hd
      · exact hacc e.on i hd hi
    · exact hs i hi

theorem ancs_length : ∀ (l : List Oper) (acc : List Nat), (ancs l acc).length = acc.length + l.length
  | [], acc => by simp [ancs]
  | o :: l, acc => by simp only [ancs]; rw [ancs_length l]; simp; omega

theorem ancs_get : ∀ (l : List Oper) (acc : List Nat) (i : Nat), i < acc.length → (ancs l acc).getD i 0 = acc.getD i 0
  | [], acc, i, _ => rfl
  | o :: l, acc, i, hi => by
    simp only [ancs]
    rw [ancs_get l _ i (by simp; omega)]
    simp [List.getElem?_append_left hi]

/-- What is done with all that stands right ahead of it, is done with all that stands ahead of it. -/
theorem ancs_closed (D : Nat → Bool) : ∀ (l : List Oper) (acc : List Nat), (∀ e i, D e = true → (acc.getD e 0).testBit i = true → D i = true) →
    (∀ k o, l[k]? = some o → D (acc.length + k) = true → ∀ e ∈ o.after.toList, Region.binds .any e = true → D e.on = true) →
    (∀ e i, D e = true → ((ancs l acc).getD e 0).testBit i = true → D i = true) ∧
    (∀ k o, l[k]? = some o → (∀ e ∈ o.after.toList, Region.binds .any e = true → D e.on = true) → ∀ i, ((ancs l acc).getD (acc.length + k) 0).testBit i = true → D i = true)
  | [], acc, hacc, _ => ⟨hacc, fun k o ho => by simp at ho⟩
  | o :: l, acc, hacc, hcl => by
    have hm : (∀ e ∈ o.after.toList, Region.binds .any e = true → D e.on = true) → ∀ i, (maskOf acc o).testBit i = true → D i = true := fun he => fold_mask acc D hacc o.after.toList 0 (fun i hi => by simp at hi) he
    have hacc2 : ∀ e i, D e = true → ((acc ++ [maskOf acc o]).getD e 0).testBit i = true → D i = true := by
      intro e i hd hi
      rcases Nat.lt_trichotomy e acc.length with h1 | h1 | h1
      · exact hacc e i hd (by simpa [List.getD, List.getElem?_append_left h1] using hi)
      · subst h1
        have he := hcl 0 o (by simp) (by simpa using hd)
        exact hm he i (by simpa [List.getD] using hi)
      · have : (acc ++ [maskOf acc o]).getD e 0 = 0 := by simp [List.getD, List.getElem?_eq_none (show (acc ++ [maskOf acc o]).length ≤ e by simp; omega)]
        rw [this] at hi
        simp at hi
    obtain ⟨q1, q2⟩ := ancs_closed D l (acc ++ [maskOf acc o]) hacc2 (fun k o' ho hd => hcl (k + 1) o' (by simpa using ho) (by rw [List.length_append] at hd; simp only [List.length_singleton] at hd; rw [show acc.length + (k + 1) = acc.length + 1 + k by omega]; exact hd))
    simp only [ancs]
    refine ⟨q1, fun k o' ho he i hi => ?_⟩
    cases k with
    | zero =>
      simp only [List.getElem?_cons_zero] at ho
      injection ho with ho
      subst ho
      rw [Nat.add_zero, ancs_get l _ acc.length (by simp)] at hi
      exact hm he i (by simpa [List.getD] using hi)
    | succ k =>
      refine q2 k o' (by simpa using ho) he i ?_
      rw [List.length_append]
      simp only [List.length_singleton]
      rw [show acc.length + 1 + k = acc.length + (k + 1) by omega]
      exact hi

/-! ### Counting -/
theorem cnt_succ {l : List AOper} {k : Nat} {o : AOper} (ho : l[k]? = some o) : cnt l (k + 1) = cnt l k + if isE o.op then 1 else 0 := by
  have hk : k < l.length := by
    rcases Nat.lt_or_ge k l.length with h1 | h1
    · exact h1
    · simp [List.getElem?_eq_none h1] at ho
  have he : l[k] = o := by rw [List.getElem?_eq_getElem hk] at ho; injection ho
  simp only [cnt]
  rw [List.take_succ_eq_append_getElem hk, List.filter_append, List.length_append, he]
  congr 1
  simp only [List.filter_cons, List.filter_nil]
  split <;> rfl

theorem cnt_mono {l : List AOper} {i : Nat} : ∀ {j : Nat}, i ≤ j → j ≤ l.length → cnt l i ≤ cnt l j
  | 0, h, _ => by
    have : i = 0 := by omega
    subst this; exact Nat.le_refl _
  | j + 1, h, hl => by
    rcases Nat.lt_or_ge i (j + 1) with h1 | h1
    · have ih := cnt_mono (l := l) (show i ≤ j by omega) (by omega)
      rw [cnt_succ (List.getElem?_eq_getElem (show j < l.length by omega))]
      omega
    · have : i = j + 1 := by omega
      subst this; exact Nat.le_refl _

theorem cnt_prev {l : List AOper} : ∀ {j : Nat}, j ≤ l.length → 0 < cnt l j → ∃ e o, e < j ∧ l[e]? = some o ∧ isE o.op = true ∧ cnt l e + 1 = cnt l j
  | 0, _, h => by simp [cnt] at h
  | j + 1, hl, h => by
    have hj : l[j]? = some l[j] := List.getElem?_eq_getElem (by omega)
    have hs := cnt_succ hj
    by_cases he : isE l[j].op = true
    · exact ⟨j, _, by omega, hj, he, by rw [hs, if_pos he]⟩
    · rw [if_neg he] at hs
      obtain ⟨e, o, h1, h2, h3, h4⟩ := cnt_prev (l := l) (j := j) (by omega) (by omega)
      exact ⟨e, o, by omega, h2, h3, by omega⟩

theorem cnt_next {l : List AOper} {j : Nat} : ∀ {n : Nat}, j ≤ n → n ≤ l.length → cnt l j < cnt l n → ∃ e o, j ≤ e ∧ e < n ∧ l[e]? = some o ∧ isE o.op = true ∧ cnt l e = cnt l j
  | 0, h, _, hc => by simp [cnt] at hc
  | n + 1, h, hl, hc => by
    rcases Nat.lt_or_ge j (n + 1) with h1 | h1
    · rcases Nat.lt_or_ge (cnt l j) (cnt l n) with h2 | h2
      · obtain ⟨e, o, q1, q2, q3⟩ := cnt_next (l := l) (j := j) (n := n) (by omega) (by omega) h2
        exact ⟨e, o, q1, by omega, q3⟩
      · have h3 := cnt_mono (l := l) (show j ≤ n by omega) (by omega)
        have hn : l[n]? = some l[n] := List.getElem?_eq_getElem (by omega)
        have hs := cnt_succ hn
        by_cases he : isE l[n].op = true
        · exact ⟨n, _, by omega, by omega, hn, he, by omega⟩
        · rw [if_neg he] at hs; omega
    · have : j = n + 1 := by omega
      subst this; omega

end Go.Wb

/- A region that draws its order: the induction over what has been done. -/
namespace Go.Wb
open Go
section
variable {P : Program} {nm : Names} {nt : Nat} {call : CallF} {ops : Array Oper} {Q : Exit → Act → World → Prop}

theorem compileOps_get : ∀ {os : List Oper} {l : List AOper}, compileOps P nm nt ops os = some l → l.length = os.length ∧ ∀ (j : Nat) (o : Oper), os[j]? = some o → ∃ ao, l[j]? = some ao ∧ compileOper P nm nt ops o = some ao
  | [], l, h => by
    simp only [compileOps] at h
    injection h with h
    subst h
    exact ⟨rfl, fun j o ho => by simp at ho⟩
  | o :: os, l, h => by
    simp only [compileOps] at h
    split at h
    · rename_i ao r h1 h2
      injection h with h
      subst h
      obtain ⟨q1, q2⟩ := compileOps_get h2
      refine ⟨by simp [q1], fun j o' ho => ?_⟩
      cases j with
      | zero =>
        simp only [List.getElem?_cons_zero] at ho
        injection ho with ho
        subst ho
        exact ⟨ao, rfl, h1⟩
      | succ j => exact q2 j o' (by simpa using ho)
    · cases h

theorem countP_lt {p q : Nat → Bool} (hpq : ∀ i, q i = true → p i = true) {j : Nat} : ∀ {l : List Nat}, j ∈ l → p j = true → q j = false → l.countP q < l.countP p
  | [], h, _, _ => by cases h
  | i :: l, h, hp, hq => by
    have hle : l.countP q ≤ l.countP p := List.countP_mono_left (fun x _ hx => hpq x hx)
    by_cases hij : i = j
    · subst hij
      simp only [List.countP_cons, hp, hq, if_true, Bool.false_eq_true, if_false]
      omega
    · have hm : j ∈ l := by
        cases h with
        | head => exact absurd rfl hij
        | tail _ h => exact h
      have ih := countP_lt hpq hm hp hq
      simp only [List.countP_cons]
      by_cases hqi : q i = true
      · rw [if_pos hqi, if_pos (hpq i hqi)]; omega
      · rw [if_neg hqi]; split <;> omega

theorem checkPairs_mem {G : List Heap} {L : List LoadRec} : ∀ {ps : List (Nat × Nat)}, checkPairs G L ps → ∀ p ∈ ps, sameAt G L p
  | [], _, p, hp => by cases hp
  | q :: ps, h, p, hp => by
    cases hp with
    | head => exact h.1
    | tail _ hp => exact checkPairs_mem h.2 p hp

theorem read_dep {x : AOper} {d : Tmp} {y : AOper} (hd : x.dst = some d) (hr : d ∈ readsOf y) : depends x y = true := by
  unfold depends
  have : (readsOf y).contains d = true := by simpa using hr
  simp only [hd, this, Bool.true_or]

theorem read_dep2 {x : AOper} {d : Tmp} {y : AOper} (hd : y.dst = some d) (hr : d ∈ readsOf x) : depends x y = true := by
  unfold depends
  have : (readsOf x).contains d = true := by simpa using hr
  simp only [hd, this, Bool.or_true, Bool.true_or]

theorem write_dep {x y : AOper} {d : Tmp} (hx : x.dst = some d) (hy : y.dst = some d) : depends x y = true := by
  unfold depends
  simp only [hx, hy, beq_self_eq_true, Bool.or_true, Bool.true_or]

theorem eff_dep {x y : AOper} (hx : isE x.op = true) (hy : isE y.op = true) : depends x y = true := by
  unfold depends
  simp only [hx, hy, Bool.and_self, Bool.or_true, Bool.true_or]

theorem effr_dep {x y : AOper} (hx : isE x.op = true) (hy : isR y.op = true) : depends x y = true := by
  unfold depends
  simp only [hx, hy, Bool.and_self, Bool.or_true, Bool.true_or]

theorem reff_dep {x y : AOper} (hx : isR x.op = true) (hy : isE y.op = true) : depends x y = true := by
  unfold depends
  simp only [hx, hy, Bool.and_self, Bool.or_true]

theorem depsOk_spec {l : List AOper} {m : List Nat} (h : depsOk l m = true) {i j : Nat} {x y : AOper} (hij : i < j) (hi : l[i]? = some x) (hj : l[j]? = some y) (hd : depends x y = true) : anc m j i = true := by
  have hjl : j < l.length := by
    rcases Nat.lt_or_ge j l.length with h1 | h1
    · exact h1
    · simp [List.getElem?_eq_none h1] at hj
  have h1 := List.all_eq_true.1 h j (List.mem_range.2 hjl)
  have h2 := List.all_eq_true.1 h1 i (List.mem_range.2 hij)
  simp only [hi, hj, hd, Bool.not_true, Bool.false_or] at h2
  exact h2

theorem edgesBack_spec {l : List Oper} (h : edgesBack l = true) {j : Nat} {o : Oper} (hj : l[j]? = some o) : ∀ e ∈ o.after.toList, Region.binds .any e = true → e.on < j := by
  have hjl : j < l.length := by
    rcases Nat.lt_or_ge j l.length with h1 | h1
    · exact h1
    · simp [List.getElem?_eq_none h1] at hj
  have h1 := List.all_eq_true.1 h j (List.mem_range.2 hjl)
  simp only [hj] at h1
  intro e he hb
  have := List.all_eq_true.1 h1 e he
  simpa [hb] using this

theorem pairs_spec {l : List AOper} {m : List Nat} {i s : Nat} {o : AOper} (hi : l[i]? = some o) (hl : isLoad o.op = true) (hs : s ≤ cnt l l.length) (hne : s ≠ cnt l i) (hok : stageOk l m i s = true) : (cntL l i, s) ∈ pairsOf l m := by
  have hil : i < l.length := by
    rcases Nat.lt_or_ge i l.length with h1 | h1
    · exact h1
    · simp [List.getElem?_eq_none h1] at hi
  unfold pairsOf
  rw [List.mem_flatMap]
  refine ⟨i, List.mem_range.2 hil, ?_⟩
  simp only [hi, hl, if_true]
  rw [List.mem_map]
  refine ⟨s, ?_, rfl⟩
  rw [List.mem_filter]
  exact ⟨List.mem_range.2 (by omega), by simp [hne, hok]⟩

theorem guard_congr {g : Option (Tmp × Bool)} {t t' : T} (h : ∀ d w, g = some (d, w) → t d = t' d) : wantedA g t = wantedA g t' := by
  cases g with
  | none => rfl
  | some x =>
    obtain ⟨d, w⟩ := x
    simp only [wantedA]
    rw [h d w rfl]

theorem drawn_sound {l : List AOper} {pairs : List (Nat × Nat)} {id : Nat} {t t' : T} {h h' : Heap} {ι0 : Inj} {a0 : Act} {w0 : World} (hm : P.follows .mixedOrders = true) (hcomp : compileOps P nm nt ops ops.toList = some l) (hdo : drawOk ops.toList l = some pairs)
    (hcalls : CallsOk P nm call) (hs0 : SRel nt ι0 h t a0 w0) (hx : execDrawn call l pairs t h = some (t', h'))
    (hQ : ∀ ι' a' w', SRel nt ι' h' t' a' w' → Step ι0 h w0 ι' h' w' → Q .normal a' w') : (Code.region id ops true).wp P Q a0 w0 := by
  obtain ⟨hll, hget⟩ := compileOps_get hcomp
  have hn : l.length = ops.size := by rw [hll]; simp
  unfold drawOk at hdo
  split at hdo
  case isFalse => cases hdo
  rename_i hcond
  rw [Bool.and_eq_true] at hcond
  obtain ⟨hback, hdeps⟩ := hcond
  injection hdo with hdo
  subst hdo
  unfold execDrawn at hx
  split at hx
  case h_2 => cases hx
  rename_i t1 h1 G L hlog
  split at hx
  case isFalse => cases hx
  rename_i hcheck
  injection hx with hx
  injection hx with e1 e2
  subst e1 e2
  obtain ⟨ts, hs, vs, tr, hts, hhs⟩ := trace_of hlog
  let m := ancs ops.toList []
  -- what is invariant
  let Inv : Array Bool → Act → World → Prop := fun listed a w => listed.size = ops.size ∧
    (∀ j o, ops[j]? = some o → listed.getD j false = true → ∀ e ∈ o.after.toList, Region.binds .any e = true → listed.getD e.on false = true) ∧
    ∃ ι s H, s ≤ cnt l l.length ∧ (h :: G)[s]? = some H ∧ (∀ e o, l[e]? = some o → isE o.op = true → (listed.getD e false = true ↔ cnt l e < s)) ∧
      SRel nt ι H (tD l vs t (fun k => listed.getD k false) l.length) a w ∧ Step ι0 h w0 ι H w
  have closed : ∀ (listed : Array Bool), (∀ j o, ops[j]? = some o → listed.getD j false = true → ∀ e ∈ o.after.toList, Region.binds .any e = true → listed.getD e.on false = true) →
      (∀ e i, listed.getD e false = true → anc m e i = true → listed.getD i false = true) ∧
      (∀ k o, ops[k]? = some o → (∀ e ∈ o.after.toList, Region.binds .any e = true → listed.getD e.on false = true) → ∀ i, anc m k i = true → listed.getD i false = true) := by
    intro listed hcl
    obtain ⟨q1, q2⟩ := ancs_closed (fun k => listed.getD k false) ops.toList [] (fun e i _ hi => by simp at hi) (fun k o ho hd => hcl k o (by simpa using ho) (by simpa using hd))
    exact ⟨fun e i he hi => q1 e i he hi, fun k o ho he i hi => q2 k o (by simpa using ho) he i (by simpa [anc] using hi)⟩
  -- at the end
  have done : ∀ listed a w, Inv listed a w → (∀ j, j < ops.size → listed.getD j false = true) → Q .normal a w := by
    rintro listed a w ⟨hsz, hcl, ι, s, H, hsm, hH, hE, hsr, hst⟩ hall
    have hseq : s = cnt l l.length := by
      rcases Nat.lt_or_ge s (cnt l l.length) with hlt | hge
      · exfalso
        obtain ⟨e, o, g1, g2, g3, g4⟩ := cnt_prev (l := l) (Nat.le_refl _) (by omega)
        have := (hE e o g2 g3).1 (hall e (by omega))
        omega
      · omega
    have hHe : H = hs l.length := by
      have := tr.stages l.length (Nat.le_refl _)
      rw [← hseq, hH] at this
      injection this
    have htt : tD l vs t (fun k => listed.getD k false) l.length = t1 := by
      rw [← hts]
      have h2 := tD_prefix tr l.length l.length (Nat.le_refl _)
      rw [Nat.min_self] at h2
      rw [← h2]
      funext i
      refine tD_agree _ fun k o hk _ _ => ?_
      simp only [hall k (by omega), decide_eq_true hk]
    rw [htt, hHe, hhs] at hsr
    rw [hHe, hhs] at hst
    exact hQ ι a w hsr hst
  -- the induction
  have main : ∀ fuel listed a w, Inv listed a w → (List.range ops.size).countP (fun i => !listed.getD i false) ≤ fuel → wpAny P .any ops Q fuel listed a w := by
    intro fuel
    induction fuel with
    | zero =>
      intro listed a w hinv hc
      have hall : ∀ j, j < ops.size → listed.getD j false = true := by
        intro j hj
        have := List.countP_eq_zero.1 (Nat.le_zero.1 hc) j (List.mem_range.2 hj)
        simpa using this
      refine ⟨?_, done listed a w hinv hall⟩
      apply List.eq_nil_iff_forall_not_mem.2
      intro j hj
      rw [mem_ready] at hj
      obtain ⟨h0, o, ho, _⟩ := hj
      have hjs : j < ops.size := (Array.getElem?_eq_some_iff.1 ho).1
      have := hall j hjs
      have hjl : j < listed.size := by rw [hinv.1]; exact hjs
      simp [hjl] at h0 this
      rw [h0] at this
      cases this
    | succ fuel ih =>
      intro listed a w hinv hc
      constructor
      · intro hnil
        refine done listed a w hinv fun j => ?_
        induction j using Nat.strongRecOn with
        | _ j ihj =>
          intro hj
          rcases Bool.eq_false_or_eq_true (listed.getD j false) with ht | hf
          · exact ht
          · exfalso
            have ho : ops[j]? = some ops[j] := Array.getElem?_eq_getElem hj
            have hmem : j ∈ Region.ready .any ops listed := by
              rw [mem_ready]
              refine ⟨?_, _, ho, fun e he hb => ?_⟩
              · have hjl : j < listed.size := by rw [hinv.1]; exact hj
                simp [hjl] at hf ⊢
                exact hf
              · have hlt := edgesBack_spec hback (j := j) (o := ops[j]) (by simp [hj]) e (by simpa using he) hb
                exact ihj e.on hlt (by omega)
            rw [hnil] at hmem
            cases hmem
      · intro j hj
        rw [mem_ready] at hj
        obtain ⟨h0, o, ho, hpre⟩ := hj
        have hjs : j < ops.size := (Array.getElem?_eq_some_iff.1 ho).1
        obtain ⟨hsz, hcl, ι, s, H, hsm, hH, hE, hsr, hst⟩ := hinv
        have hjl : j < listed.size := by rw [hsz]; exact hjs
        have hjf : listed.getD j false = false := by
          simp [hjl] at h0 ⊢
          exact h0
        obtain ⟨ao, hao, hco⟩ := hget j o (by simpa using ho)
        obtain ⟨c1, c2⟩ := closed listed hcl
        have hancs : ∀ i, anc m j i = true → listed.getD i false = true := c2 j o ho (fun e he hb => hpre e (by simpa using he) hb)
        have hlater : ∀ e, anc m e j = true → listed.getD e false = false := fun e he => by
          rcases Bool.eq_false_or_eq_true (listed.getD e false) with ht | hf
          · have := c1 e j ht he
            rw [hjf] at this; cases this
          · exact hf
        -- what the operation reads is what it read in the order of the text
        have hreads : ∀ d, d ∈ readsOf ao → tD l vs t (fun k => listed.getD k false) l.length d = ts j d := by
          intro d hd
          have h2 := tD_prefix tr j l.length (Nat.le_refl _)
          rw [show min l.length j = j by omega] at h2
          rw [← h2]
          refine tD_agree _ fun k x hk hkx hkd => ?_
          rcases Nat.lt_trichotomy k j with hlt | heq | hgt
          · rw [decide_eq_true hlt]
            exact hancs k (depsOk_spec hdeps hlt hkx hao (read_dep hkd hd))
          · subst heq
            rw [hjf]; simp
          · rw [show decide (k < j) = false by simp; omega]
            exact hlater k (depsOk_spec hdeps hgt hao hkx (read_dep2 hkd hd))
        have hguard : wantedA ao.guard (tD l vs t (fun k => listed.getD k false) l.length) = wantedA ao.guard (ts j) := by
          refine guard_congr fun d wv hg => hreads d ?_
          simp [readsOf, hg]
        have hev : ∀ K, evalA call ao.op (tD l vs t (fun k => listed.getD k false) l.length) K = evalA call ao.op (ts j) K := fun K => by
          refine evalA_congr fun x hxm => ev_congr fun i hi => hreads i ?_
          subst hi
          simp only [readsOf, List.mem_append]
          exact .inl (mem_tmpsOf hxm)
        -- the stage
        have hlow : (isE ao.op = true ∨ isR ao.op = true) → cnt l j ≤ s := by
          intro her
          rcases Nat.eq_zero_or_pos (cnt l j) with hz | hz
          · omega
          · obtain ⟨e, x, g1, g2, g3, g4⟩ := cnt_prev (l := l) (show j ≤ l.length by omega) hz
            have hdep : depends x ao = true := by
              rcases her with her | her
              · exact eff_dep g3 her
              · exact effr_dep g3 her
            have := (hE e x g2 g3).1 (hancs e (depsOk_spec hdeps g1 g2 hao hdep))
            omega
        have hhigh : (isE ao.op = true ∨ isR ao.op = true) → s ≤ cnt l j := by
          intro her
          rcases Nat.lt_or_ge (cnt l j) s with hlt | hge
          · exfalso
            obtain ⟨e, x, g1, g2, g3, g4, g5⟩ := cnt_next (l := l) (j := j) (n := l.length) (by omega) (Nat.le_refl _) (by omega)
            have hle := (hE e x g3 g4).2 (by omega)
            rcases Nat.eq_or_lt_of_le g1 with heq | hgt
            · subst heq; rw [hjf] at hle; cases hle
            · have hdep : depends ao x = true := by
                rcases her with her | her
                · exact eff_dep her g4
                · exact reff_dep her g4
              have := hlater e (depsOk_spec hdeps hgt hao g3 hdep)
              rw [this] at hle; cases hle
          · exact hge
        have hstage : s = cnt l j → H = hs j := fun he => by
          have := tr.stages j (by omega)
          rw [← he, hH] at this
          injection this
        -- the abstract step at this stage
        obtain ⟨htn, hcase⟩ := tr.step j ao hao
        have hstep : ∃ H', stepA call ao (tD l vs t (fun k => listed.getD k false) l.length) H = some (put (tD l vs t (fun k => listed.getD k false) l.length) ao.dst (vs j), H') ∧
            ((isE ao.op = true ∧ s = cnt l j ∧ H' = hs (j + 1)) ∨ (isE ao.op = false ∧ H' = H)) := by
          rcases hcase with ⟨hwt, hval⟩ | ⟨hwf, hvu, hhe⟩
          · rcases Bool.eq_false_or_eq_true (isE ao.op) with hee | hee
            · have hsj : s = cnt l j := Nat.le_antisymm (hhigh (.inl hee)) (hlow (.inl hee))
              refine ⟨hs (j + 1), ?_, .inl ⟨hee, hsj, rfl⟩⟩
              unfold stepA
              rw [hguard, if_pos hwt, hev, hstage hsj, hval]
            · have hval2 : evalA call ao.op (ts j) H = some (vs j, H) := by
                have hsame := heap_same hee hval
                rcases Bool.eq_false_or_eq_true (isR ao.op) with hrr | hrr
                · have hsj : s = cnt l j := Nat.le_antisymm (hhigh (.inr hrr)) (hlow (.inr hrr))
                  rw [hstage hsj, hval, hsame]
                · rcases Bool.eq_false_or_eq_true (isLoad ao.op) with hld | hld
                  · by_cases hsj : s = cnt l j
                    · rw [hstage hsj, hval, hsame]
                    · have hpair : (cntL l j, s) ∈ pairsOf l m := by
                        refine pairs_spec hao hld hsm hsj ?_
                        unfold stageOk
                        rw [List.all_eq_true]
                        intro e he
                        cases hle : l[e]? with
                        | none => rfl
                        | some x =>
                          simp only
                          rcases Bool.eq_false_or_eq_true (isE x.op) with hxe | hxe
                          · simp only [hxe, Bool.not_true, Bool.false_or, Bool.and_eq_true]
                            constructor
                            · rcases Bool.eq_false_or_eq_true (anc m j e) with ha | ha
                              · have := (hE e x hle hxe).1 (hancs e ha)
                                simp [this]
                              · simp [ha]
                            · rcases Bool.eq_false_or_eq_true (anc m e j) with ha | ha
                              · have hf := hlater e ha
                                have : ¬ cnt l e < s := fun hlt => by
                                  have := (hE e x hle hxe).2 hlt
                                  rw [hf] at this; cases this
                                simp [show s ≤ cnt l e by omega]
                              · simp [ha]
                          · simp [hxe]
                      have hsat := checkPairs_mem hcheck _ hpair
                      obtain ⟨r, hr1, hr2⟩ := tr.loads j ao hao hld
                      unfold sameAt at hsat
                      simp only [hr1, hH] at hsat
                      cases hop : ao.op <;> rw [hop] at hld <;> first | (cases hld; done) | skip
                      rename_i n x
                      rw [hop] at hval
                      simp only [evalA, aOp, Option.map_eq_some_iff] at hval
                      obtain ⟨u, hu, hux⟩ := hval
                      injection hux with e1 e2
                      have hlr : loadRec ao (ts j) (hs j) = [some (n, Ev (ts j) x, u)] := by
                        unfold loadRec
                        rw [hop]
                        simp only [hwt, if_true, hu]
                      rw [hlr] at hr2
                      injection hr2 with hr2
                      rw [hr2] at hsat
                      simp only at hsat
                      simp only [evalA, aOp, hsat, Option.map_some, e1]
                  · exact (pure_any hee hrr hld hval).2
              refine ⟨H, ?_, .inr ⟨hee, rfl⟩⟩
              unfold stepA
              rw [hguard, if_pos hwt, hev, hval2]
          · rcases Bool.eq_false_or_eq_true (isE ao.op) with hee | hee
            · have hsj : s = cnt l j := Nat.le_antisymm (hhigh (.inl hee)) (hlow (.inl hee))
              refine ⟨hs (j + 1), ?_, .inl ⟨hee, hsj, rfl⟩⟩
              unfold stepA
              rw [hguard, hwf, hvu, hhe, ← hstage hsj]
              rfl
            · refine ⟨H, ?_, .inr ⟨hee, rfl⟩⟩
              unfold stepA
              rw [hguard, hwf, hvu]
              rfl
        obtain ⟨H', hsa, hkind⟩ := hstep
        -- the temporaries behind it
        have hD : ∀ k, (listed.setIfInBounds j true).getD k false = (listed.getD k false || k == j) := by
          intro k
          by_cases hk : k = j
          · subst hk
            simp [hjl]
          · have : (k == j) = false := by simpa using hk
            rw [this, Bool.or_false]
            exact getD_set_ne false (Ne.symm hk)
        have htd : tD l vs t (fun k => (listed.setIfInBounds j true).getD k false) l.length = put (tD l vs t (fun k => listed.getD k false) l.length) ao.dst (vs j) := by
          rcases tD_insert (vs := vs) (t := t) (D := fun k => listed.getD k false) (D' := fun k => (listed.setIfInBounds j true).getD k false) hao hD l.length (by omega) (fun k x hjk hk hkx hdk i hi hxi => by
              have := hlater k (depsOk_spec hdeps hjk hao hkx (write_dep hi hxi))
              rw [this] at hdk; cases hdk) with hh | hh
          · exact hh
          · simp only [hjf] at hh; cases hh
        have hinv' : ∀ ι' a' w', SRel nt ι' H' (put (tD l vs t (fun k => listed.getD k false) l.length) ao.dst (vs j)) a' w' → Step ι H w ι' H' w' → Inv (listed.setIfInBounds j true) a' w' := by
          intro ι' a' w' hsr' hst'
          refine ⟨by simp [hsz], ?_, ι', ?_⟩
          · intro k ok hok hk e he hb
            rw [hD] at hk ⊢
            by_cases hkj : k = j
            · subst hkj
              rw [ho] at hok
              injection hok with hok
              subst hok
              rw [hpre e (by simpa using he) hb, Bool.true_or]
            · have : (k == j) = false := by simpa using hkj
              rw [this, Bool.or_false] at hk
              rw [hcl k ok hok hk e he hb, Bool.true_or]
          · rcases hkind with ⟨hee, hsj, hH'⟩ | ⟨hee, hH'⟩
            · have hc1 := cnt_succ hao
              rw [if_pos hee] at hc1
              refine ⟨s + 1, H', ?_, ?_, ?_, by rw [htd]; exact hsr', hst.trans hst'⟩
              · have := cnt_mono (l := l) (show j + 1 ≤ l.length by omega) (Nat.le_refl _)
                omega
              · have := tr.stages (j + 1) (by omega)
                rw [hc1, ← hsj] at this
                rw [this, hH']
              · intro e x hex hxe
                rw [hD]
                by_cases hej : e = j
                · subst hej
                  simp
                  omega
                · have hb : (e == j) = false := by simpa using hej
                  rw [hb, Bool.or_false, hE e x hex hxe]
                  constructor
                  · intro; omega
                  · intro hlt
                    rcases Nat.lt_or_ge (cnt l e) s with h3 | h3
                    · exact h3
                    · exfalso
                      have hes : cnt l e = cnt l j := by omega
                      rcases Nat.lt_trichotomy e j with h4 | h4 | h4
                      · have h5 := cnt_succ hex
                        rw [if_pos hxe] at h5
                        have := cnt_mono (l := l) (show e + 1 ≤ j by omega) (by omega)
                        omega
                      · exact hej h4
                      · have hel : e < l.length := by
                          rcases Nat.lt_or_ge e l.length with h6 | h6
                          · exact h6
                          · simp [List.getElem?_eq_none h6] at hex
                        have := cnt_mono (l := l) (show j + 1 ≤ e by omega) (by omega)
                        omega
            · subst hH'
              refine ⟨s, H', hsm, hH, ?_, by rw [htd]; exact hsr', hst.trans hst'⟩
              intro e x hex hxe
              rw [hD]
              by_cases hej : e = j
              · subst hej
                rw [hao] at hex
                injection hex with hex
                subst hex
                rw [hee] at hxe; cases hxe
              · have hb : (e == j) = false := by simpa using hej
                rw [hb, Bool.or_false]
                exact hE e x hex hxe
        have hcount : (List.range ops.size).countP (fun i => !(listed.setIfInBounds j true).getD i false) ≤ fuel := by
          have := countP_lt (p := fun i => !listed.getD i false) (q := fun i => !(listed.setIfInBounds j true).getD i false) (j := j) (fun i hi => by
              rw [hD] at hi
              simp only [Bool.not_or, Bool.and_eq_true] at hi
              exact hi.1) (l := List.range ops.size) (List.mem_range.2 hjs) (by simp only [hjf]; rfl) (by rw [hD]; simp)
          omega
        obtain ⟨s1, s2⟩ := oper_sound (P := P) (nm := nm) (nt := nt) (Q := Q) hcalls hsr hco hsa
        unfold wpOp
        rw [ho]
        simp only
        split
        · rename_i hw
          left
          refine Oper.wp_mono ?_ (s1 hw)
          rintro a' w' ⟨ι', g1, g2⟩
          exact ih _ a' w' (hinv' ι' a' w' g1 g2) hcount
        · rename_i hw
          obtain ⟨g1, g2⟩ := s2 (by simpa using hw)
          refine ih _ _ w (hinv' ι _ w g1 ?_) hcount
          rw [g2]
          exact .refl hsr.rel
  refine wp_region_any hm (main ops.size _ a0 _ ?_ ?_)
  · have hz : ∀ k, (Array.replicate ops.size false).getD k false = false := fun k => by rw [Array.getD_eq_getD_getElem?, Array.getElem?_replicate]; split <;> rfl
    refine ⟨by simp, ?_, ι0, 0, h, Nat.zero_le _, rfl, ?_, ?_, Step.drawn hs0.rel _⟩
    · intro j o _ hj
      rw [hz] at hj
      cases hj
    · intro e o _ _
      rw [hz]
      simp
    · have : tD l vs t (fun k => (Array.replicate ops.size false).getD k false) l.length = t := by
        have h2 := tD_prefix tr 0 l.length (Nat.le_refl _)
        rw [Nat.min_zero, tr.t0] at h2
        refine Eq.trans ?_ h2
        funext i
        refine tD_agree _ fun k o _ _ _ => ?_
        rw [hz]
        simp
      rw [this]
      exact ⟨hs0.rel.drawn _, hs0.tmps, hs0.defers, hs0.size⟩
  · have := List.countP_le_length (p := fun i => !(Array.replicate ops.size false).getD i false) (l := List.range ops.size)
    simpa using this

end
end Go.Wb

/- More fuel gives the same; what is come to with some fuel at all; and the rows by which it is reckoned. -/
namespace Go.Wb
open Go

def LeC (c c' : CallF) : Prop := ∀ f args h r, c f args h = some r → c' f args h = some r

theorem evalA_mono {c c' : CallF} (hc : LeC c c') {o : AOp} {t : T} {h : Heap} {r : Value × Heap} (hx : evalA c o t h = some r) : evalA c' o t h = some r := by
  cases o <;> first | exact hx | exact hc _ _ _ _ hx

theorem stepA_mono {c c' : CallF} (hc : LeC c c') {o : AOper} {t : T} {h : Heap} {r : T × Heap} (hx : stepA c o t h = some r) : stepA c' o t h = some r := by
  unfold stepA at hx ⊢
  split
  · rename_i hw
    rw [if_pos hw] at hx
    split at hx
    · rename_i v h1 hev
      rw [evalA_mono hc hev]
      exact hx
    · cases hx
  · rename_i hw
    rw [if_neg hw] at hx
    exact hx

theorem execOps_mono {c c' : CallF} (hc : LeC c c') : ∀ {l : List AOper} {t : T} {h : Heap} {r : T × Heap}, execOps c l t h = some r → execOps c' l t h = some r
  | [], _, _, _, hx => hx
  | o :: l, t, h, r, hx => by
    simp only [execOps] at hx ⊢
    split at hx
    · rename_i t1 h1 hst
      rw [stepA_mono hc hst]
      exact execOps_mono hc hx
    · cases hx

theorem execLog_mono {c c' : CallF} (hc : LeC c c') : ∀ {l : List AOper} {t : T} {h : Heap} {r : T × Heap × List Heap × List LoadRec}, execLog c l t h = some r → execLog c' l t h = some r
  | [], _, _, _, hx => hx
  | o :: l, t, h, r, hx => by
    simp only [execLog] at hx ⊢
    split at hx
    · rename_i t1 h1 hst
      rw [stepA_mono hc hst]
      simp only
      split at hx
      · rename_i t2 h2 G L hr
        rw [execLog_mono hc hr]
        exact hx
      · cases hx
    · cases hx

theorem execDrawn_mono {c c' : CallF} (hc : LeC c c') {l : List AOper} {ps : List (Nat × Nat)} {t : T} {h : Heap} {r : T × Heap} (hx : execDrawn c l ps t h = some r) : execDrawn c' l ps t h = some r := by
  unfold execDrawn at hx ⊢
  split at hx
  · rename_i t1 h1 G L hr
    rw [execLog_mono hc hr]
    exact hx
  · cases hx

section
variable {E : Env} {n : Nat} {t : T} {h : Heap}
theorem runN_ops {l : List AOper} : runN E (n + 1) (.ops l) t h = (execOps (callN E n) l t h).map fun x => (.normal, x.1, x.2) := by simp only [runN]
theorem runN_drawn {l : List AOper} {ps : List (Nat × Nat)} : runN E (n + 1) (.drawn l ps) t h = (execDrawn (callN E n) l ps t h).map fun x => (.normal, x.1, x.2) := by simp only [runN]
theorem runN_seq {a b : ACode} : runN E (n + 1) (.seq a b) t h = match runN E n a t h with
      | some (.normal, t', h') => runN E n b t' h'
      | r => r := by simp only [runN]; rfl
theorem runN_cond {c : Operand} {x y : ACode} : runN E (n + 1) (.cond c x y) t h = match Ev t c with
      | .bool true => runN E n x t h
      | .bool false => runN E n y t h
      | _ => none := by simp only [runN]; rfl
theorem runN_block {id : Nat} {b : ACode} : runN E (n + 1) (.block id b) t h = match runN E n b t h with
      | some (.exit i, t', h') => if i = id then some (.normal, t', h') else some (.exit i, t', h')
      | r => r := by simp only [runN]; rfl
theorem runN_loop {b : ACode} : runN E (n + 1) (.loop b) t h = match runN E n b t h with
      | some (.normal, t', h') => runN E n (.loop b) t' h'
      | r => r := by simp only [runN]; rfl
theorem runN_exit {id : Nat} : runN E (n + 1) (.exit id) t h = some (.exit id, t, h) := by simp only [runN]
theorem runN_ret : runN E (n + 1) .ret t h = some (.ret, t, h) := by simp only [runN]
theorem runN_skip : runN E (n + 1) .skip t h = some (.normal, t, h) := by simp only [runN]
end

theorem fuel_mono (E : Env) : ∀ n, LeC (callN E n) (callN E (n + 1)) ∧ ∀ c t h r, runN E n c t h = some r → runN E (n + 1) c t h = some r := by
  intro n
  induction n with
  | zero => exact ⟨fun f args h r hx => (by simp only [callN] at hx; cases hx), fun c t h r hx => (by simp only [runN] at hx; cases hx)⟩
  | succ n ih =>
    obtain ⟨ihc, ihr⟩ := ih
    constructor
    · intro f args h r hx
      rw [callN] at hx ⊢
      split at hx
      · cases hx
      · exact hx
      · split at hx
        · split at hx
          · exact ihc _ _ _ _ hx
          · cases hx
        · cases hx
      · rename_i rs body hb
        split at hx
        · rename_i t1 h1 hr
          rw [ihr _ _ _ _ hr]
          exact hx
        · rename_i t1 h1 hr
          rw [ihr _ _ _ _ hr]
          exact hx
        · cases hx
    · intro c t h r hx
      cases c with
      | skip => rw [runN_skip] at hx ⊢; exact hx
      | ops l =>
        rw [runN_ops, Option.map_eq_some_iff] at hx ⊢
        obtain ⟨y, hy, hx⟩ := hx
        exact ⟨y, execOps_mono ihc hy, hx⟩
      | drawn l ps =>
        rw [runN_drawn, Option.map_eq_some_iff] at hx ⊢
        obtain ⟨y, hy, hx⟩ := hx
        exact ⟨y, execDrawn_mono ihc hy, hx⟩
      | seq a b =>
        rw [runN_seq] at hx ⊢
        split at hx
        · rename_i t1 h1 hr
          rw [ihr _ _ _ _ hr]
          exact ihr _ _ _ _ hx
        · rename_i hne
          have := ihr _ _ _ _ hx
          rw [this]
          split
          · rename_i t1 h1 he
            exact (hne t1 h1 (by rw [hx]; exact he)).elim
          · rfl
      | cond cnd x y =>
        rw [runN_cond] at hx ⊢
        split at hx
        · rename_i hb
          exact ihr _ _ _ _ hx
        · rename_i hb
          exact ihr _ _ _ _ hx
        · cases hx
      | block id b =>
        rw [runN_block] at hx ⊢
        split at hx
        · rename_i i t1 h1 hr
          rw [ihr _ _ _ _ hr]
          exact hx
        · rename_i hne
          have := ihr _ _ _ _ hx
          rw [this]
          split
          · rename_i i t1 h1 he
            exact (hne i t1 h1 (by rw [hx]; exact he)).elim
          · rfl
      | loop b =>
        rw [runN_loop] at hx ⊢
        split at hx
        · rename_i t1 h1 hr
          rw [ihr _ _ _ _ hr]
          exact ihr _ _ _ _ hx
        · rename_i hne
          have := ihr _ _ _ _ hx
          rw [this]
          split
          · rename_i t1 h1 he
            exact (hne t1 h1 (by rw [hx]; exact he)).elim
          · rfl
      | exit id => rw [runN_exit] at hx ⊢; exact hx
      | ret => rw [runN_ret] at hx ⊢; exact hx

theorem runN_le {E : Env} {n m : Nat} (hle : n ≤ m) {c : ACode} {t : T} {h : Heap} {r : AExit × T × Heap} (hx : runN E n c t h = some r) : runN E m c t h = some r := by
  induction hle with
  | refl => exact hx
  | step _ ih => exact (fuel_mono E _).2 _ _ _ _ ih

theorem callN_le {E : Env} {n m : Nat} (hle : n ≤ m) {f : String} {args : List Value} {h : Heap} {r : Value × Heap} (hx : callN E n f args h = some r) : callN E m f args h = some r := by
  induction hle with
  | refl => exact hx
  | step _ ih => exact (fuel_mono E _).1 _ _ _ _ ih

theorem callN_leC {E : Env} {n m : Nat} (hle : n ≤ m) : LeC (callN E n) (callN E m) := fun _ _ _ _ hx => callN_le hle hx

end Go.Wb

/- Code and calls: what the abstract machine comes to, the model comes to. -/
namespace Go.Wb
open Go

def compileCode (P : Program) (nm : Names) (nt : Nat) : Code → Option ACode
  | .skip => some .skip
  | .label _ => some .skip
  | .region _ ops draw => match compileOps P nm nt ops ops.toList with
    | some l => if draw then (drawOk ops.toList l).map (ACode.drawn l) else some (.ops l)
    | none => none
  | .seq a b => match compileCode P nm nt a, compileCode P nm nt b with
    | some x, some y => some (.seq x y)
    | _, _ => none
  | .cond c x y => match compileCode P nm nt x, compileCode P nm nt y with
    | some x, some y => if operOk c then some (.cond c x y) else none
    | _, _ => none
  | .block id b => (compileCode P nm nt b).map (.block id)
  | .loop b => (compileCode P nm nt b).map .loop
  | .exit id => some (.exit id)
  | .ret => some .ret
  | _ => none

def compileRes (P : Program) : List ResultVar → Option (List ARes)
  | [] => some []
  | .tmp t :: l => (compileRes P l).map (.tmp t :: ·)
  | .cell a e :: l => match aggN P e, compileRes P l with
    | some n, some r => some (.cell a n :: r)
    | _, _ => none

def compileFun (P : Program) (nm : Names) (fn : Func) : Option AFun :=
  match fn.body with
  | some c => match compileCode P nm fn.ntmps c, compileRes P fn.results.toList with
    | some b, some r => some (.code r b)
    | _, _ => none
  | none => none

def exitOf : AExit → Exit
  | .normal => .normal
  | .exit id => .exit id
  | .ret => .ret

/-- What is known of the functions that have names: the code is taken over, or what is done is proved otherwise. -/
def EnvOk (P : Program) (nm : Names) (E : Env) : Prop :=
  ∀ f n, nm f = some n → ∀ af, E n = some af → (∃ fn, P.funcs[f]? = some fn ∧ compileFun P nm fn = some af) ∨ (∃ g, af = .prim g ∧ ∀ args h v h', g args h = some (v, h') → CallOk P f args h v h')

/-- What is known of the functions that are called as values. -/
def DynTab (P : Program) (nm : Names) (tbl : List (Nat × String)) : Prop :=
  ∀ e ∈ tbl, nm e.1 = some e.2 ∧ ∃ fn, P.funcs[e.1]? = some fn ∧ fn.body.isSome = true ∧ fn.name ≠ "runtime.NumGoroutine"

def DynOk (P : Program) (nm : Names) (E : Env) : Prop := E "@dyn" = none ∨ ∃ tbl, E "@dyn" = some (.dyn tbl) ∧ DynTab P nm tbl

section
variable {P : Program} {nm : Names} {nt : Nat} {call : CallF} {E : Env}

theorem ops_sound {ops : Array Oper} {Q : Exit → Act → World → Prop} (hcalls : CallsOk P nm call) : ∀ (os : List Oper) (l : List AOper) (k : Nat) (ι : Inj) (h h' : Heap) (t t' : T) (a : Act) (w : World), ops.toList.drop k = os → compileOps P nm nt ops os = some l → execOps call l t h = some (t', h') → SRel nt ι h t a w →
    (∀ ι' a' w', SRel nt ι' h' t' a' w' → Step ι h w ι' h' w' → Q .normal a' w') → wpOps P ops Q ((List.range' k os.length)) a w
  | [], l, k, ι, h, h', t, t', a, w, _, hc, hx, hs, hQ => by
    simp only [compileOps] at hc
    injection hc with hc
    subst hc
    simp only [execOps] at hx
    injection hx with hx
    injection hx with e1 e2
    subst e1 e2
    exact hQ ι a w hs (.refl hs.rel)
  | o :: os, l, k, ι, h, h', t, t', a, w, hd, hc, hx, hs, hQ => by
    simp only [compileOps] at hc
    split at hc
    · rename_i ao r h1 h2
      injection hc with hc
      subst hc
      simp only [execOps] at hx
      split at hx
      · rename_i t1 h1' hst
        have ho : ops[k]? = some o := by
          have := congrArg (fun l => l[0]?) hd
          simpa using this
        obtain ⟨s1, s2⟩ := oper_sound (P := P) (nm := nm) (nt := nt) (Q := Q) hcalls hs h1 hst
        have hrest : ops.toList.drop (k + 1) = os := by
          have := congrArg (List.drop 1) hd
          simpa [List.drop_drop, Nat.add_comm] using this
        rw [List.length_cons, List.range'_succ]
        simp only [wpOps, ho]
        split
        · rename_i hw
          left
          refine Oper.wp_mono ?_ (s1 hw)
          rintro a' w' ⟨ι', g1, g2⟩
          exact ops_sound hcalls os r (k + 1) ι' _ h' _ t' a' w' hrest h2 hx g1 (fun ι2 a2 w2 q1 q2 => hQ ι2 a2 w2 q1 (g2.trans q2))
        · rename_i hw
          obtain ⟨g1, g2⟩ := s2 (by simpa using hw)
          refine ops_sound hcalls os r (k + 1) ι _ h' _ t' _ w hrest h2 hx g1 (fun ι2 a2 w2 q1 q2 => hQ ι2 a2 w2 q1 ?_)
          rw [g2] at q2
          exact q2
      · cases hx
    · cases hc

theorem exists_least {p : Nat → Prop} (h : ∃ n, p n) : ∃ n, p n ∧ ∀ m, m < n → ¬ p m := by
  obtain ⟨n, hn⟩ := h
  induction n using Nat.strongRecOn with
  | _ n ih =>
    by_cases hm : ∃ m, m < n ∧ p m
    · obtain ⟨m, h1, h2⟩ := hm
      exact ih m h1 h2
    · exact ⟨n, hn, fun m h1 h2 => hm ⟨m, h1, h2⟩⟩

open Classical in
noncomputable def least (p : Nat → Prop) : Nat := if h : ∃ n, p n then Classical.choose (exists_least h) else 0

theorem least_spec {p : Nat → Prop} (h : ∃ n, p n) : p (least p) := by
  unfold least
  rw [dif_pos h]
  exact (Classical.choose_spec (exists_least h)).1

theorem least_le {p : Nat → Prop} {n : Nat} (h : p n) : least p ≤ n := by
  unfold least
  rw [dif_pos ⟨n, h⟩]
  rcases Nat.lt_or_ge n (Classical.choose (exists_least ⟨n, h⟩)) with h1 | h1
  · exact absurd h ((Classical.choose_spec (exists_least ⟨n, h⟩)).2 n h1)
  · exact h1

theorem loadVar_sound {ι : Inj} {h : Heap} {w : World} {x x' v : Value} {n : Option Nat} {e : TypeId} (hr : Rel ι h w) (ha : aggN P e = some n) (hv : readV h n x = some v) (hxr : VRel ι h.length x x') :
    ∃ A v', x' = .pointer (some A) ∧ (loadVar e A).run P w = .ok v' w ∧ VRel ι h.length v v' := by
  unfold readV at hv
  split at hv
  · rename_i b o
    obtain ⟨hb, hp⟩ := hxr.ptr_inv
    unfold read1 at hv
    split at hv
    · rename_i ro cs hcs
      obtain ⟨v', c1, c2, c3⟩ := rel_read hr hcs hv
      obtain ⟨i, u, hi, hu, hag⟩ := aggN_none ha
      refine ⟨_, v', hp, ?_, c2⟩
      simp only [loadVar, Sem.run_bind, run_isAgg hu, hag, Result.andThen_ok, Bool.false_eq_true, if_false]
      rw [run_load, c1]
    · cases hv
  · rename_i b o m
    obtain ⟨hb, hp⟩ := hxr.ptr_inv
    rw [Option.map_eq_some_iff] at hv
    obtain ⟨cs, hcs, hv⟩ := hv
    subst hv
    obtain ⟨i, u, hi, hu, hag, hsz⟩ := aggN_some ha
    obtain ⟨hl, vs', hrun, hrel, hone⟩ := rel_readN (P := P) hr hcs
    refine ⟨_, .agg vs'.toArray, hp, ?_, agg_crel hrel hone⟩
    simp only [loadVar, Sem.run_bind, run_isAgg hu, hag, Result.andThen_ok, if_true, run_size hi, hsz, hrun, Sem.run_pure]
  · cases hv

theorem run_results {fn : Func} {rs : List ARes} {ι : Inj} {h : Heap} {t : T} {a : Act} {w : World} {v : Value} (hs : SRel nt ι h t a w) (hc : compileRes P fn.results.toList = some rs) (hv : resVal t h rs = some v) :
    ∃ v', (results fn a.tmps).run P w = .ok v' w ∧ VRel ι h.length v v' := by
  have key : ∀ (l : List ResultVar) (rs : List ARes) (vs : List Value), compileRes P l = some rs → resVals t h rs = some vs →
      ∃ vs', (l.mapM (fun | .tmp t => Pure.pure (a.tmps.getD t undef) | .cell c e => do loadVar e (← asAddr (a.tmps.getD c undef)) : ResultVar → Sem Value)).run P w = .ok vs' w ∧ CRel ι h.length vs vs' := by
    intro l
    induction l with
    | nil =>
      intro rs vs hc hv
      simp only [compileRes] at hc
      injection hc with hc
      subst hc
      simp only [resVals] at hv
      injection hv with hv
      subst hv
      exact ⟨[], by simp, rfl, fun _ => .undef⟩
    | cons r l ih =>
      intro rs vs hc hv
      cases r with
      | tmp i =>
        simp only [compileRes, Option.map_eq_some_iff] at hc
        obtain ⟨rs', hc', rfl⟩ := hc
        simp only [resVals] at hv
        split at hv
        · rename_i vs1 hv1
          injection hv with hv
          subst hv
          obtain ⟨vs', h1, h2⟩ := ih rs' vs1 hc' hv1
          refine ⟨a.tmps.getD i undef :: vs', ?_, ?_⟩
          · simp only [List.mapM_cons, pure_bind, Sem.run_bind, h1, Result.andThen_ok, Sem.run_pure]
          · refine ⟨by simp [h2.1], fun j => ?_⟩
            cases j with
            | zero => simpa using hs.tmps i
            | succ j => simpa using h2.2 j
        · cases hv
      | cell c e =>
        simp only [compileRes] at hc
        split at hc
        · rename_i n rs' hn hc'
          injection hc with hc
          subst hc
          simp only [resVals] at hv
          split at hv
          · rename_i v1 vs1 hr1 hv1
            injection hv with hv
            subst hv
            obtain ⟨vs', h1, h2⟩ := ih rs' vs1 hc' hv1
            obtain ⟨A, v', hA, hrun, hvr⟩ := loadVar_sound hs.rel hn hr1 (hs.tmps c)
            refine ⟨v' :: vs', ?_, ?_⟩
            · have has : asAddr (.pointer (some A)) = Pure.pure A := rfl
              simp only [List.mapM_cons, Sem.run_bind, hA, has, Sem.run_pure, hrun, h1, Result.andThen_ok]
            · refine ⟨by simp [h2.1], fun j => ?_⟩
              cases j with
              | zero => simpa using hvr
              | succ j => simpa using h2.2 j
          · cases hv
        · cases hc
  unfold resVal at hv
  unfold results
  rw [Array.mapM_eq_mapM_toList]
  simp only [Sem.run_bind, Sem.run_map]
  split at hv
  · rename_i v1 hrs
    injection hv with hv
    subst hv
    obtain ⟨vs', h1, h2⟩ := key _ _ _ hc hrs
    match vs', h2 with
    | [u], h2 =>
      refine ⟨u, ?_, by simpa using h2.2 0⟩
      erw [h1]
      simp
    | [], h2 => have := h2.1; simp at this
    | _ :: _ :: _, h2 => have := h2.1; simp at this
  · rename_i vs hne hrs
    injection hv with hv
    subst hv
    obtain ⟨vs', h1, h2⟩ := key _ _ _ hc hrs
    refine ⟨.tuple vs'.toArray, ?_, ?_⟩
    · erw [h1]
      have hl : vs'.length ≠ 1 := by
        intro hl
        rw [← h2.1] at hl
        obtain ⟨u, hu⟩ := List.length_eq_one_iff.1 hl
        exact hne u hu
      simp [hl]
    · refine .tuple _ _ (by simpa using h2.1) fun i => ?_
      have := h2.2 i
      simpa [Array.getD_eq_getD_getElem?, List.getD] using this
  · cases hv

/-- CODE: what the abstract machine comes to with some fuel, the model comes to. -/
theorem run_sound (hm : P.follows .mixedOrders = true) (hE : EnvOk P nm E) (hD : DynOk P nm E) : ∀ (n : Nat),
    (CallsOk P nm (callN E n)) ∧
    (∀ (nt : Nat) (c : Code) (ac : ACode) (t : T) (h : Heap) (e : AExit) (t' : T) (h' : Heap), compileCode P nm nt c = some ac → runN E n ac t h = some (e, t', h') → ∀ (ι : Inj) (a : Act) (w : World), SRel nt ι h t a w →
      c.wp P (fun ex a' w' => ex = exitOf e ∧ ∃ ι', SRel nt ι' h' t' a' w' ∧ Step ι h w ι' h' w') a w) := by
  intro n
  induction n with
  | zero =>
    refine ⟨⟨fun nn args h v h' hx => ?_, fun fv args h v h' hx => ?_⟩, fun nt c ac t h e t' h' _ hx => ?_⟩
    · simp only [callN] at hx; cases hx
    · simp only [callN] at hx; cases hx
    · simp only [runN] at hx; cases hx
  | succ n ih =>
    obtain ⟨ihc, ihr⟩ := ih
    constructor
    · constructor
      rotate_left
      · intro fv args h v h' hx
        simp only [callN] at hx
        rcases hD with hD | ⟨tbl, hD, hT⟩
        · rw [hD] at hx; cases hx
        · rw [hD] at hx
          simp only at hx
          split at hx
          · rename_i f first caps rest he
            injection he with he1 he2
            subst he1 he2
            split at hx
            · rename_i e hfind
              have hmem := List.mem_of_find?_eq_some hfind
              have hef : e.1 = f := by simpa using List.find?_some hfind
              obtain ⟨hnm, fn, q1, q2, q3⟩ := hT e hmem
              rw [hef] at hnm q1
              exact ⟨f, first, caps, fn, rfl, q1, q2, q3, ihc.1 _ _ _ _ _ hx f hnm⟩
            · cases hx
          · cases hx
      intro name args h v h' hx f hf
      simp only [callN] at hx
      split at hx
      · cases hx
      · rename_i g hg
        rcases hE f name hf _ hg with ⟨fn, hfn, hcf⟩ | ⟨g', hgg, hok⟩
        · exfalso
          unfold compileFun at hcf
          split at hcf
          · split at hcf
            · injection hcf with hcf; cases hcf
            · cases hcf
          · cases hcf
        · injection hgg with hgg
          subst hgg
          exact hok args h v h' hx
      · rename_i tbl hb
        rcases hE f name hf _ hb with ⟨fn, hfn, hcf⟩ | ⟨g', hgg, _⟩
        · exfalso
          unfold compileFun at hcf
          split at hcf
          · split at hcf
            · injection hcf with hcf; cases hcf
            · cases hcf
          · cases hcf
        · cases hgg
      · rename_i rs body hb
        rcases hE f name hf _ hb with ⟨fn, hfn, hcf⟩ | ⟨g', hgg, _⟩
        · unfold compileFun at hcf
          split at hcf
          · rename_i c hbody
            split at hcf
            · rename_i b r hcb hcr
              injection hcf with hcf
              injection hcf with e1 e2
              subst e1 e2
              have fin : ∀ (ex : AExit) (t1 : T) (h1 : Heap), runN E n b (argT args) h = some (ex, t1, h1) → (ex = .ret ∨ ex = .normal) → (resVal t1 h1 r).map (fun v => (v, h1)) = some (v, h') → CallOk P f args h v h' := by
                intro ex t1 h1 hrun hex hres ι w args' hrel hargs
                rw [Option.map_eq_some_iff] at hres
                obtain ⟨v1, hv1, hres⟩ := hres
                injection hres with e1 e2
                subst e1 e2
                have hs0 : SRel fn.ntmps ι h (argT args) { tmps := args'.toArray ++ Array.replicate (fn.ntmps - args'.toArray.size) undef, defers := [] } w := by
                  refine ⟨hrel, fun i => ?_, rfl, by simp; omega⟩
                  have h1 := hargs.2 i
                  simp only [argT]
                  rcases Nat.lt_or_ge i args'.length with hi | hi
                  · have e : (args'.toArray ++ Array.replicate (fn.ntmps - args'.toArray.size) undef).getD i undef = args'.getD i undef := by
                      simp [Array.getD_eq_getD_getElem?, Array.getElem?_append, hi, List.getD]
                    rw [e]; exact h1
                  · have e : (args'.toArray ++ Array.replicate (fn.ntmps - args'.toArray.size) undef).getD i undef = undef := by
                      rw [Array.getD_eq_getD_getElem?, Array.getElem?_append]
                      simp only [List.size_toArray]
                      rw [if_neg (by omega), Array.getElem?_replicate]
                      split <;> rfl
                    rw [e]
                    have e2 : args'.getD i undef = undef := by simp [List.getD, List.getElem?_eq_none hi]
                    rw [e2] at h1
                    exact h1
                refine calls_of_wp hfn hbody (wp_mono (ihr fn.ntmps c b _ _ _ _ _ hcb hrun ι _ w hs0) ?_)
                rintro ex' a' w' ⟨rfl, ι', hs', hst⟩
                obtain ⟨v', hr1, hr2⟩ := run_results (P := P) (fn := fn) hs' hcr hv1
                have hfin : a'.defers = [] ∧ ∃ v, (results fn a'.tmps).run P w' = .ok v w' ∧ ∃ ι'' v'', Ending.returned v = .returned v'' ∧ Step ι h w ι'' h1 w' ∧ VRel ι'' h1.length v1 v'' :=
                  ⟨hs'.defers, v', hr1, ι', v', rfl, hst, hr2⟩
                rcases hex with rfl | rfl
                · exact hfin
                · exact hfin
              split at hx
              · rename_i t1 h1 hrun
                exact fin _ t1 h1 hrun (.inl rfl) hx
              · rename_i t1 h1 hrun
                exact fin _ t1 h1 hrun (.inr rfl) hx
              · cases hx
            · cases hcf
          · cases hcf
        · cases hgg
    · intro nt c ac t h e t' h' hc hx ι a w hs
      cases c with
      | skip =>
        simp only [compileCode] at hc
        injection hc with hc; subst hc
        simp only [runN] at hx
        injection hx with hx; injection hx with e1 hx; injection hx with e2 e3
        subst e1 e2 e3
        exact wp_skip ⟨rfl, ι, hs, .refl hs.rel⟩
      | label l =>
        simp only [compileCode] at hc
        injection hc with hc; subst hc
        simp only [runN] at hx
        injection hx with hx; injection hx with e1 hx; injection hx with e2 e3
        subst e1 e2 e3
        exact wp_label ⟨rfl, ι, hs, .refl hs.rel⟩
      | region id ops draw =>
        simp only [compileCode] at hc
        split at hc
        · rename_i l hl
          split at hc
          · rename_i hd
            subst hd
            rw [Option.map_eq_some_iff] at hc
            obtain ⟨ps, hps, hc⟩ := hc
            subst hc
            simp only [runN, Option.map_eq_some_iff] at hx
            obtain ⟨⟨t1, h1⟩, hx1, hx⟩ := hx
            injection hx with e1 hx; injection hx with e2 e3
            subst e1 e2 e3
            exact drawn_sound hm hl hps ihc hs hx1 (fun ι' a' w' q1 q2 => ⟨rfl, ι', q1, q2⟩)
          · rename_i hd
            have hd : draw = false := by simpa using hd
            subst hd
            injection hc with hc; subst hc
            simp only [runN, Option.map_eq_some_iff] at hx
            obtain ⟨⟨t1, h1⟩, hx1, hx⟩ := hx
            injection hx with e1 hx; injection hx with e2 e3
            subst e1 e2 e3
            refine wp_region ?_
            have := ops_sound (P := P) (nm := nm) (nt := nt) (ops := ops) (Q := fun ex a' w' => ex = exitOf .normal ∧ ∃ ι', SRel nt ι' h1 t1 a' w' ∧ Step ι h w ι' h1 w') ihc ops.toList l 0 ι h h1 t t1 a w rfl hl hx1 hs (fun ι' a' w' q1 q2 => ⟨rfl, ι', q1, q2⟩)
            rw [List.range_eq_range']
            simpa using this
        · cases hc
      | seq x y =>
        simp only [compileCode] at hc
        split at hc
        · rename_i ax ay hcx hcy
          injection hc with hc; subst hc
          simp only [runN] at hx
          refine wp_seq ?_
          split at hx
          · rename_i t1 h1 hr1
            refine wp_mono (ihr nt x ax t h .normal t1 h1 hcx hr1 ι a w hs) ?_
            rintro ex a' w' ⟨rfl, ι', hs', hst⟩
            simp only [exitOf, Exit.then]
            refine wp_mono (ihr nt y ay t1 h1 e t' h' hcy hx ι' a' w' hs') ?_
            rintro ex2 a2 w2 ⟨rfl, ι2, hs2, hst2⟩
            exact ⟨rfl, ι2, hs2, hst.trans hst2⟩
          · rename_i hne
            refine wp_mono (ihr nt x ax t h e t' h' hcx hx ι a w hs) ?_
            rintro ex a' w' ⟨rfl, ι', hs', hst⟩
            have hen : e ≠ .normal := fun he => hne t' h' (by rw [he] at hx; exact hx)
            cases e with
            | normal => exact absurd rfl hen
            | exit i => exact ⟨rfl, ι', hs', hst⟩
            | ret => exact ⟨rfl, ι', hs', hst⟩
        · cases hc
      | cond cnd x y =>
        simp only [compileCode] at hc
        split at hc
        · rename_i ax ay hcx hcy
          split at hc
          · rename_i hok
            injection hc with hc; subst hc
            simp only [runN] at hx
            have hv := hs.erel cnd hok
            split at hx
            · rename_i hb
              rw [hb] at hv
              exact wp_cond_true hv.bool_inv (ihr nt x ax t h e t' h' hcx hx ι a w hs)
            · rename_i hb
              rw [hb] at hv
              exact wp_cond_false hv.bool_inv (ihr nt y ay t h e t' h' hcy hx ι a w hs)
            · cases hx
          · cases hc
        · cases hc
      | block id b =>
        simp only [compileCode, Option.map_eq_some_iff] at hc
        obtain ⟨ab, hcb, hc⟩ := hc
        subst hc
        simp only [runN] at hx
        refine wp_block ?_
        split at hx
        · rename_i i t1 h1 hr1
          refine wp_mono (ihr nt b ab t h (.exit i) t1 h1 hcb hr1 ι a w hs) ?_
          rintro ex a' w' ⟨rfl, ι', hs', hst⟩
          simp only [exitOf, Exit.inBlock]
          split at hx
          · rename_i hi
            injection hx with hx; injection hx with e1 hx; injection hx with e2 e3
            subst e1 e2 e3
            rw [if_pos hi]
            exact ⟨rfl, ι', hs', hst⟩
          · rename_i hi
            injection hx with hx; injection hx with e1 hx; injection hx with e2 e3
            subst e1 e2 e3
            rw [if_neg hi]
            exact ⟨rfl, ι', hs', hst⟩
        · rename_i hne
          refine wp_mono (ihr nt b ab t h e t' h' hcb hx ι a w hs) ?_
          rintro ex a' w' ⟨rfl, ι', hs', hst⟩
          cases e with
          | normal => exact ⟨rfl, ι', hs', hst⟩
          | exit i => exact (hne i t' h' hx).elim
          | ret => exact ⟨rfl, ι', hs', hst⟩
      | loop b =>
        simp only [compileCode, Option.map_eq_some_iff] at hc
        obtain ⟨ab, hcb, hc⟩ := hc
        subst hc
        let J : Nat → Act → World → Prop := fun k a' w' => k ≤ n + 1 ∧ ∃ t1 h1 ι1, runN E k (.loop ab) t1 h1 = some (e, t', h') ∧ SRel nt ι1 h1 t1 a' w' ∧ Step ι h w ι1 h1 w'
        refine wp_loop (fun a' w' => ∃ k, J k a' w') (fun a' w' => least fun k => J k a' w') ⟨n + 1, Nat.le_refl _, t, h, ι, hx, hs, .refl hs.rel⟩ ?_
        intro a1 w1 hI
        have hJ := least_spec hI
        generalize hk : least (fun k => J k a1 w1) = k at hJ
        obtain ⟨hkn, t1, h1, ι1, hr1, hs1, hst1⟩ := hJ
        cases k with
        | zero => simp only [runN] at hr1; cases hr1
        | succ k =>
          simp only [runN] at hr1
          have hbody : ∀ e2 t2 h2, runN E k ab t1 h1 = some (e2, t2, h2) → b.wp P (fun ex a' w' => ex = exitOf e2 ∧ ∃ ι', SRel nt ι' h2 t2 a' w' ∧ Step ι1 h1 w1 ι' h2 w') a1 w1 := by
            intro e2 t2 h2 hr2
            exact ihr nt b ab t1 h1 e2 t2 h2 hcb (runN_le (by omega) hr2) ι1 a1 w1 hs1
          split at hr1
          · rename_i t2 h2 hr2
            refine wp_mono (hbody .normal t2 h2 hr2) ?_
            rintro ex a' w' ⟨rfl, ι', hs', hst'⟩
            simp only [exitOf, Exit.then]
            have hJ' : J k a' w' := ⟨by omega, t2, h2, ι', hr1, hs', hst1.trans hst'⟩
            exact ⟨⟨k, hJ'⟩, Nat.lt_of_le_of_lt (least_le hJ') (by omega)⟩
          · rename_i hne
            refine wp_mono (hbody e t' h' hr1) ?_
            rintro ex a' w' ⟨rfl, ι', hs', hst'⟩
            cases e with
            | normal => exact (hne t' h' hr1).elim
            | exit i => exact ⟨rfl, ι', hs', hst1.trans hst'⟩
            | ret => exact ⟨rfl, ι', hs', hst1.trans hst'⟩
      | exit id =>
        simp only [compileCode] at hc
        injection hc with hc; subst hc
        simp only [runN] at hx
        injection hx with hx; injection hx with e1 hx; injection hx with e2 e3
        subst e1 e2 e3
        exact wp_exit ⟨rfl, ι, hs, .refl hs.rel⟩
      | ret =>
        simp only [compileCode] at hc
        injection hc with hc; subst hc
        simp only [runN] at hx
        injection hx with hx; injection hx with e1 hx; injection hx with e2 e3
        subst e1 e2 e3
        exact wp_ret ⟨rfl, ι, hs, .refl hs.rel⟩
      | rangeFunc f ps as b => simp only [compileCode] at hc; cases hc
      | scope b => simp only [compileCode] at hc; cases hc
      | goto l => simp only [compileCode] at hc; cases hc
      | refuse why => simp only [compileCode] at hc; cases hc

end
end Go.Wb

/- What is come to with some fuel: calls and code without fuel, and the equations by which they are reckoned. -/
namespace Go.Wb
open Go

open Classical in
noncomputable def callA (E : Env) : CallF := fun f args h => if hx : ∃ n r, callN E n f args h = some r then some (Classical.choose (Classical.choose_spec hx)) else none

open Classical in
noncomputable def runA (E : Env) (c : ACode) (t : T) (h : Heap) : Option (AExit × T × Heap) := if hx : ∃ n r, runN E n c t h = some r then some (Classical.choose (Classical.choose_spec hx)) else none

section
variable {E : Env}

theorem callA_iff {f : String} {args : List Value} {h : Heap} {r : Value × Heap} : callA E f args h = some r ↔ ∃ n, callN E n f args h = some r := by
  unfold callA
  constructor
  · intro hx
    split at hx
    · rename_i hex
      have := Classical.choose_spec (Classical.choose_spec hex)
      injection hx with hx
      rw [hx] at this
      exact ⟨_, this⟩
    · cases hx
  · rintro ⟨n, hn⟩
    have hex : ∃ n r, callN E n f args h = some r := ⟨n, r, hn⟩
    rw [dif_pos hex]
    have h1 := Classical.choose_spec (Classical.choose_spec hex)
    have h2 := callN_le (Nat.le_max_left n (Classical.choose hex)) hn
    have h3 := callN_le (Nat.le_max_right n (Classical.choose hex)) h1
    rw [h2] at h3
    injection h3 with h3
    rw [← h3]

theorem runA_iff {c : ACode} {t : T} {h : Heap} {r : AExit × T × Heap} : runA E c t h = some r ↔ ∃ n, runN E n c t h = some r := by
  unfold runA
  constructor
  · intro hx
    split at hx
    · rename_i hex
      have := Classical.choose_spec (Classical.choose_spec hex)
      injection hx with hx
      rw [hx] at this
      exact ⟨_, this⟩
    · cases hx
  · rintro ⟨n, hn⟩
    have hex : ∃ n r, runN E n c t h = some r := ⟨n, r, hn⟩
    rw [dif_pos hex]
    have h1 := Classical.choose_spec (Classical.choose_spec hex)
    have h2 := runN_le (Nat.le_max_left n (Classical.choose hex)) hn
    have h3 := runN_le (Nat.le_max_right n (Classical.choose hex)) h1
    rw [h2] at h3
    injection h3 with h3
    rw [← h3]

theorem callN_A (n : Nat) : LeC (callN E n) (callA E) := fun _ _ _ _ hx => callA_iff.2 ⟨n, hx⟩

theorem opt_ext {α : Type} {x y : Option α} (h : ∀ r, x = some r ↔ y = some r) : x = y := by
  cases x with
  | none => cases y with
    | none => rfl
    | some b => exact absurd ((h b).2 rfl) (by simp)
  | some a => exact ((h a).1 rfl).symm

theorem evalA_fin {o : AOp} {t : T} {h : Heap} {r : Value × Heap} (hx : evalA (callA E) o t h = some r) : ∃ n, evalA (callN E n) o t h = some r := by
  cases o <;> first | exact ⟨0, hx⟩ | exact callA_iff.1 hx

theorem stepA_fin {o : AOper} {t : T} {h : Heap} {r : T × Heap} (hx : stepA (callA E) o t h = some r) : ∃ n, stepA (callN E n) o t h = some r := by
  unfold stepA at hx
  split at hx
  · rename_i hw
    split at hx
    · rename_i v h1 hev
      obtain ⟨n, hn⟩ := evalA_fin hev
      exact ⟨n, by unfold stepA; rw [if_pos hw, hn]; exact hx⟩
    · cases hx
  · rename_i hw
    exact ⟨0, by unfold stepA; rw [if_neg hw]; exact hx⟩

theorem execOps_fin : ∀ {l : List AOper} {t : T} {h : Heap} {r : T × Heap}, execOps (callA E) l t h = some r → ∃ n, execOps (callN E n) l t h = some r
  | [], _, _, _, hx => ⟨0, hx⟩
  | o :: l, t, h, r, hx => by
    simp only [execOps] at hx
    split at hx
    · rename_i t1 h1 hst
      obtain ⟨n, hn⟩ := stepA_fin hst
      obtain ⟨m, hm⟩ := execOps_fin hx
      refine ⟨max n m, ?_⟩
      simp only [execOps]
      rw [stepA_mono (callN_leC (Nat.le_max_left n m)) hn]
      exact execOps_mono (callN_leC (Nat.le_max_right n m)) hm
    · cases hx

theorem execLog_fin : ∀ {l : List AOper} {t : T} {h : Heap} {r : T × Heap × List Heap × List LoadRec}, execLog (callA E) l t h = some r → ∃ n, execLog (callN E n) l t h = some r
  | [], _, _, _, hx => ⟨0, hx⟩
  | o :: l, t, h, r, hx => by
    simp only [execLog] at hx
    split at hx
    · rename_i t1 h1 hst
      split at hx
      · rename_i t2 h2 G L hr
        obtain ⟨n, hn⟩ := stepA_fin hst
        obtain ⟨m, hm⟩ := execLog_fin hr
        refine ⟨max n m, ?_⟩
        simp only [execLog]
        rw [stepA_mono (callN_leC (Nat.le_max_left n m)) hn]
        simp only
        rw [execLog_mono (callN_leC (Nat.le_max_right n m)) hm]
        exact hx
      · cases hx
    · cases hx

theorem execDrawn_fin {l : List AOper} {ps : List (Nat × Nat)} {t : T} {h : Heap} {r : T × Heap} (hx : execDrawn (callA E) l ps t h = some r) : ∃ n, execDrawn (callN E n) l ps t h = some r := by
  unfold execDrawn at hx
  split at hx
  · rename_i t1 h1 G L hr
    obtain ⟨n, hn⟩ := execLog_fin hr
    exact ⟨n, by unfold execDrawn; rw [hn]; exact hx⟩
  · cases hx

theorem runA_ops {l : List AOper} {t : T} {h : Heap} : runA E (.ops l) t h = (execOps (callA E) l t h).map fun x => (.normal, x.1, x.2) := by
  apply opt_ext
  intro r
  rw [runA_iff]
  constructor
  · rintro ⟨n, hn⟩
    cases n with
    | zero => simp only [runN] at hn; cases hn
    | succ n =>
      rw [runN_ops, Option.map_eq_some_iff] at hn
      obtain ⟨x, hx, hn⟩ := hn
      rw [execOps_mono (callN_A n) hx]
      simp [hn]
  · intro hx
    rw [Option.map_eq_some_iff] at hx
    obtain ⟨x, hx, hr⟩ := hx
    obtain ⟨n, hn⟩ := execOps_fin hx
    exact ⟨n + 1, by rw [runN_ops, hn]; simp [hr]⟩

theorem runA_drawn {l : List AOper} {ps : List (Nat × Nat)} {t : T} {h : Heap} : runA E (.drawn l ps) t h = (execDrawn (callA E) l ps t h).map fun x => (.normal, x.1, x.2) := by
  apply opt_ext
  intro r
  rw [runA_iff]
  constructor
  · rintro ⟨n, hn⟩
    cases n with
    | zero => simp only [runN] at hn; cases hn
    | succ n =>
      rw [runN_drawn, Option.map_eq_some_iff] at hn
      obtain ⟨x, hx, hn⟩ := hn
      rw [execDrawn_mono (callN_A n) hx]
      simp [hn]
  · intro hx
    rw [Option.map_eq_some_iff] at hx
    obtain ⟨x, hx, hr⟩ := hx
    obtain ⟨n, hn⟩ := execDrawn_fin hx
    exact ⟨n + 1, by rw [runN_drawn, hn]; simp [hr]⟩

theorem runA_skip {t : T} {h : Heap} : runA E .skip t h = some (.normal, t, h) := runA_iff.2 ⟨1, by rw [runN_skip]⟩
theorem runA_exit {id : Nat} {t : T} {h : Heap} : runA E (.exit id) t h = some (.exit id, t, h) := runA_iff.2 ⟨1, by rw [runN_exit]⟩
theorem runA_ret {t : T} {h : Heap} : runA E .ret t h = some (.ret, t, h) := runA_iff.2 ⟨1, by rw [runN_ret]⟩

theorem runA_seq {a b : ACode} {t : T} {h : Heap} : runA E (.seq a b) t h = match runA E a t h with
      | some (.normal, t', h') => runA E b t' h'
      | r => r := by
  apply opt_ext
  intro r
  rw [runA_iff]
  constructor
  · rintro ⟨n, hn⟩
    cases n with
    | zero => simp only [runN] at hn; cases hn
    | succ n =>
      rw [runN_seq] at hn
      split at hn
      · rename_i t1 h1 h2
        rw [runA_iff.2 ⟨n, h2⟩]
        exact runA_iff.2 ⟨n, hn⟩
      · rename_i hne
        rw [runA_iff.2 ⟨n, hn⟩]
        split
        · rename_i t1 h1 he
          exact (hne t1 h1 (by rw [hn]; exact he)).elim
        · rfl
  · intro hx
    split at hx
    · rename_i t1 h1 h2
      obtain ⟨n, hn⟩ := runA_iff.1 h2
      obtain ⟨m, hm⟩ := runA_iff.1 hx
      refine ⟨max n m + 1, ?_⟩
      rw [runN_seq, runN_le (Nat.le_max_left n m) hn]
      exact runN_le (Nat.le_max_right n m) hm
    · rename_i hne
      obtain ⟨n, hn⟩ := runA_iff.1 hx
      refine ⟨n + 1, ?_⟩
      rw [runN_seq, hn]
      split
      · rename_i t1 h1 he
        injection he with he
        exact (hne t1 h1 (by rw [hx, he])).elim
      · rfl

theorem runA_cond {c : Operand} {x y : ACode} {t : T} {h : Heap} : runA E (.cond c x y) t h = match Ev t c with
      | .bool true => runA E x t h
      | .bool false => runA E y t h
      | _ => none := by
  apply opt_ext
  intro r
  rw [runA_iff]
  constructor
  · rintro ⟨n, hn⟩
    cases n with
    | zero => simp only [runN] at hn; cases hn
    | succ n =>
      rw [runN_cond] at hn
      split at hn
      · rename_i hb
        (try rw [hb])
        exact runA_iff.2 ⟨n, hn⟩
      · rename_i hb
        (try rw [hb])
        exact runA_iff.2 ⟨n, hn⟩
      · cases hn
  · intro hx
    split at hx
    · rename_i hb
      obtain ⟨n, hn⟩ := runA_iff.1 hx
      exact ⟨n + 1, by rw [runN_cond, hb]; exact hn⟩
    · rename_i hb
      obtain ⟨n, hn⟩ := runA_iff.1 hx
      exact ⟨n + 1, by rw [runN_cond, hb]; exact hn⟩
    · cases hx

theorem runA_block {id : Nat} {b : ACode} {t : T} {h : Heap} : runA E (.block id b) t h = match runA E b t h with
      | some (.exit i, t', h') => if i = id then some (.normal, t', h') else some (.exit i, t', h')
      | r => r := by
  apply opt_ext
  intro r
  rw [runA_iff]
  constructor
  · rintro ⟨n, hn⟩
    cases n with
    | zero => simp only [runN] at hn; cases hn
    | succ n =>
      rw [runN_block] at hn
      split at hn
      · rename_i i t1 h1 h2
        rw [runA_iff.2 ⟨n, h2⟩]
        exact hn
      · rename_i hne
        rw [runA_iff.2 ⟨n, hn⟩]
        split
        · rename_i i t1 h1 he
          exact (hne i t1 h1 (by rw [hn]; exact he)).elim
        · rfl
  · intro hx
    split at hx
    · rename_i i t1 h1 h2
      obtain ⟨n, hn⟩ := runA_iff.1 h2
      exact ⟨n + 1, by rw [runN_block, hn]; exact hx⟩
    · rename_i hne
      obtain ⟨n, hn⟩ := runA_iff.1 hx
      refine ⟨n + 1, ?_⟩
      rw [runN_block, hn]
      split
      · rename_i i t1 h1 he
        injection he with he
        exact (hne i t1 h1 (by rw [hx, he])).elim
      · rfl

theorem runA_loop {b : ACode} {t : T} {h : Heap} : runA E (.loop b) t h = match runA E b t h with
      | some (.normal, t', h') => runA E (.loop b) t' h'
      | r => r := by
  apply opt_ext
  intro r
  rw [runA_iff]
  constructor
  · rintro ⟨n, hn⟩
    cases n with
    | zero => simp only [runN] at hn; cases hn
    | succ n =>
      rw [runN_loop] at hn
      split at hn
      · rename_i t1 h1 h2
        rw [runA_iff.2 ⟨n, h2⟩]
        exact runA_iff.2 ⟨n, hn⟩
      · rename_i hne
        rw [runA_iff.2 ⟨n, hn⟩]
        split
        · rename_i t1 h1 he
          exact (hne t1 h1 (by rw [hn]; exact he)).elim
        · rfl
  · intro hx
    split at hx
    · rename_i t1 h1 h2
      obtain ⟨n, hn⟩ := runA_iff.1 h2
      obtain ⟨m, hm⟩ := runA_iff.1 hx
      refine ⟨max n m + 1, ?_⟩
      rw [runN_loop, runN_le (Nat.le_max_left n m) hn]
      exact runN_le (Nat.le_max_right n m) hm
    · rename_i hne
      obtain ⟨n, hn⟩ := runA_iff.1 hx
      refine ⟨n + 1, ?_⟩
      rw [runN_loop, hn]
      split
      · rename_i t1 h1 he
        injection he with he
        exact (hne t1 h1 (by rw [hx, he])).elim
      · rfl

/-- What a function's code comes to. -/
def leave (res : List ARes) : Option (AExit × T × Heap) → Option (Value × Heap)
  | some (.ret, t, h) => (resVal t h res).map fun v => (v, h)
  | some (.normal, t, h) => (resVal t h res).map fun v => (v, h)
  | _ => none

theorem callA_code {f : String} {res : List ARes} {body : ACode} {args : List Value} {h : Heap} (hE : E f = some (.code res body)) : callA E f args h = leave res (runA E body (argT args) h) := by
  apply opt_ext
  intro r
  rw [callA_iff]
  constructor
  · rintro ⟨n, hn⟩
    cases n with
    | zero => simp only [callN] at hn; cases hn
    | succ n =>
      simp only [callN, hE] at hn
      split at hn
      · rename_i t1 h1 h2
        rw [runA_iff.2 ⟨n, h2⟩]
        exact hn
      · rename_i t1 h1 h2
        rw [runA_iff.2 ⟨n, h2⟩]
        exact hn
      · cases hn
  · intro hx
    unfold leave at hx
    split at hx
    · rename_i t1 h1 h2
      obtain ⟨n, hn⟩ := runA_iff.1 h2
      exact ⟨n + 1, by simp only [callN, hE, hn]; exact hx⟩
    · rename_i t1 h1 h2
      obtain ⟨n, hn⟩ := runA_iff.1 h2
      exact ⟨n + 1, by simp only [callN, hE, hn]; exact hx⟩
    · cases hx

theorem callA_prim {f : String} {g : List Value → Heap → Option (Value × Heap)} {args : List Value} {h : Heap} (hE : E f = some (.prim g)) : callA E f args h = g args h := by
  apply opt_ext
  intro r
  rw [callA_iff]
  constructor
  · rintro ⟨n, hn⟩
    cases n with
    | zero => simp only [callN] at hn; cases hn
    | succ n => simp only [callN, hE] at hn; exact hn
  · intro hx
    exact ⟨1, by simp only [callN, hE]; exact hx⟩

theorem callA_dyn {tbl : List (Nat × String)} {f : Nat} {first caps : Array Value} {rest : List Value} {h : Heap} {e : Nat × String} (hE : E "@dyn" = some (.dyn tbl)) (he : tbl.find? (fun e => e.1 == f) = some e) :
    callA E "@dyn" (.func (.func f) first caps :: rest) h = callA E e.2 (first.toList ++ rest ++ caps.toList) h := by
  apply opt_ext
  intro r
  rw [callA_iff, callA_iff]
  constructor
  · rintro ⟨n, hn⟩
    cases n with
    | zero => simp only [callN] at hn; cases hn
    | succ n =>
      simp only [callN, hE, he] at hn
      exact ⟨n, hn⟩
  · rintro ⟨n, hn⟩
    exact ⟨n + 1, by simp only [callN, hE, he]; exact hn⟩

/-- THE WHOLE: what the abstract machine's call comes to, the model's call comes to. -/
theorem calls_sound {P : Program} {nm : Names} (hm : P.follows .mixedOrders = true) (hE : EnvOk P nm E) (hD : DynOk P nm E) : CallsOk P nm (callA E) := by
  refine ⟨?_, fun fv args h v h' hx => by
    obtain ⟨k, hk⟩ := callA_iff.1 hx
    exact (run_sound hm hE hD k).1.2 fv args h v h' hk⟩
  intro n args h v h' hx f hf
  obtain ⟨k, hk⟩ := callA_iff.1 hx
  exact (run_sound hm hE hD k).1.1 n args h v h' hk f hf

end
end Go.Wb

/- What a law is handed, as the abstract machine has it: the shape of a type, and that whatever can be read is of it. -/
namespace Go.Wb
open Go

inductive Ty where
  | int (k : IntKind)
  | bool
  | str
  | arr (n : Nat) (e : Ty)
  | st (fs : List Ty)
  | sl (size bytes : Nat) (e : Ty)

/-- The types of a struct's fields, one behind the other. -/
def fieldsTy (P : Program) (rec : TypeId → Option Ty) : Nat → List Field → Option (List Ty)
  | _, [] => some []
  | off, f :: fs =>
    if f.offset = off then
      match rec f.type, fieldsTy P rec (off + P.cellsOf f.type) fs with
      | some ty, some l => some (ty :: l)
      | _, _ => none
    else none

def fieldsEnd (P : Program) : Nat → List Field → Nat
  | off, [] => off
  | off, f :: fs => fieldsEnd P (off + P.cellsOf f.type) fs

def tyOf (P : Program) : Nat → TypeId → Option Ty
  | 0, _ => none
  | d + 1, t =>
    match P.underlying t with
    | some .bool => some .bool
    | some (.int k) => some (.int k)
    | some .string => some .str
    | some (.struct fs) => if fieldsEnd P 0 fs.toList = P.cellsOf t then (fieldsTy P (tyOf P d) 0 fs.toList).map .st else none
    | some (.array n e) => if P.cellsOf t = n * P.cellsOf e then (tyOf P d e).map (.arr n) else none
    | some (.slice e) => if 1 ≤ P.cellsOf e then (tyOf P d e).map (.sl (P.cellsOf e) (P.bytesOf e)) else none
    | _ => none

def reach : Nat := reachBytes

mutual
/-- How many values and letters a reading holds. -/
def bulkW {H : Type} : DataW H → Nat
  | .lit (.string bytes) => bytes.length + 1
  | .lit _ => 1
  | .nil => 1
  | .ptr d => bulkW d + 1
  | .slice elems spare => bulkWs elems + bulkWs spare + 1
  | .agg parts => bulkWs parts + 1
  | .iface _ d => bulkW d + 1
  | .map entries => bulkWe entries + 1
  | .held _ => 1
def bulkWs {H : Type} : List (DataW H) → Nat
  | [] => 0
  | d :: r => bulkW d + bulkWs r
def bulkWe {H : Type} : List (Lit × DataW H) → Nat
  | [] => 0
  | x :: r => bulkWx x + bulkWe r
def bulkWx {H : Type} : Lit × DataW H → Nat
  | (.string bytes, d) => bytes.length + bulkW d + 1
  | (_, d) => bulkW d + 1
end

theorem bulk_pos {H : Type} (d : DataW H) : 1 ≤ bulkW d := by
  cases d with
  | lit l => cases l <;> simp [bulkW]
  | _ => simp [bulkW]

theorem bulk_len {H : Type} : ∀ (l : List (DataW H)), l.length ≤ bulkWs l
  | [] => by simp [bulkWs]
  | d :: l => by
    have h1 := bulk_pos d
    have h2 := bulk_len l
    simp only [bulkWs, List.length_cons]
    omega

theorem bulk_part {H : Type} {d : DataW H} : ∀ {l : List (DataW H)}, d ∈ l → bulkW d ≤ bulkWs l
  | x :: l, h => by
    simp only [bulkWs]
    cases h with
    | head => omega
    | tail _ h => have := bulk_part h; omega

section
variable (B : Nat)
mutual
/-- Cells of a type, over a heap; what slices hold may not be written; no slice and no string is longer than 'B'. -/
def AOk : Ty → Heap → List Value → Prop
  | .int k, _, cs => ∃ n, cs = [.int k n] ∧ (Lit.int k n).wf = true
  | .bool, _, cs => ∃ b, cs = [.bool b]
  | .str, _, cs => ∃ s : ByteArray, cs = [.string s] ∧ s.size ≤ reach ∧ s.size ≤ B
  | .arr n e, h, cs => ∃ rows : List (List Value), rows.length = n ∧ cs = rows.flatten ∧ ∀ r ∈ rows, AOk e h r
  | .st fs, h, cs => AOks fs h cs
  | .sl s bytes e, h, cs => cs = [.slice none 0 0] ∨ ∃ (b : Nat) (rows : List (List Value)), cs = [.slice (some ⟨b, 0, none⟩) rows.length s] ∧ 1 ≤ s ∧ h[b]? = some (Blk.mem true rows.flatten) ∧ rows.length * bytes ≤ reach ∧ rows.length ≤ B ∧ ∀ r ∈ rows, r.length = s ∧ AOk e h r
def AOks : List Ty → Heap → List Value → Prop
  | [], _, cs => cs = []
  | t :: ts, h, cs => ∃ a b, cs = a ++ b ∧ AOk t h a ∧ AOks ts h b
end
end

theorem get_append {h x : Heap} {b : Nat} {y : Blk} (hb : h[b]? = some y) : (h ++ x)[b]? = some y := by
  rw [List.getElem?_append_left (get_lt hb)]
  exact hb

mutual
theorem AOk.mono {B : Nat} {h x : Heap} : ∀ {ty : Ty} {cs : List Value}, AOk B ty h cs → AOk B ty (h ++ x) cs
  | .int k, _, hh => by simpa only [AOk] using hh
  | .bool, _, hh => by simpa only [AOk] using hh
  | .str, _, hh => by simpa only [AOk] using hh
  | .arr n e, _, hh => by
    simp only [AOk] at hh ⊢
    obtain ⟨rows, h1, h2, h3⟩ := hh
    exact ⟨rows, h1, h2, fun r hr => (h3 r hr).mono⟩
  | .st fs, _, hh => by
    simp only [AOk] at hh ⊢
    exact AOks.mono hh
  | .sl s bytes e, _, hh => by
    simp only [AOk] at hh ⊢
    rcases hh with hh | ⟨b, rows, h1, h2, h3, h4, h4', h5⟩
    · exact .inl hh
    · exact .inr ⟨b, rows, h1, h2, get_append h3, h4, h4', fun r hr => ⟨(h5 r hr).1, (h5 r hr).2.mono⟩⟩
theorem AOks.mono {B : Nat} {h x : Heap} : ∀ {ts : List Ty} {cs : List Value}, AOks B ts h cs → AOks B ts (h ++ x) cs
  | [], _, hh => by simpa only [AOks] using hh
  | t :: ts, _, hh => by
    simp only [AOks] at hh ⊢
    obtain ⟨a, b, h1, h2, h3⟩ := hh
    exact ⟨a, b, h1, h2.mono, AOks.mono h3⟩
end

/-- More blocks that may not be written, and nothing else. -/
structure RO (w : World) (ι : Inj) (h : Heap) (ι' : Inj) (h' : Heap) : Prop where
  ext : ∃ x, h' = h ++ x
  agree : ∀ b, b < h.length → ι' b = ι b
  rel : Rel ι' h' w
  ro : ∀ (b : Nat) (cs : List Value), h'[b]? = some (Blk.mem false cs) → h[b]? = some (Blk.mem false cs)

theorem RO.refl {w : World} {ι : Inj} {h : Heap} (hr : Rel ι h w) : RO w ι h ι h := ⟨⟨[], by simp⟩, fun _ _ => rfl, hr, fun _ _ hb => hb⟩

theorem RO.trans {w : World} {ι ι1 ι2 : Inj} {h h1 h2 : Heap} (a : RO w ι h ι1 h1) (b : RO w ι1 h1 ι2 h2) : RO w ι h ι2 h2 := by
  obtain ⟨x, rfl⟩ := a.ext
  obtain ⟨y, rfl⟩ := b.ext
  refine ⟨⟨x ++ y, by simp⟩, fun c hc => ?_, b.rel, fun c cs hc => a.ro c cs (b.ro c cs hc)⟩
  rw [b.agree c (by simp; omega), a.agree c hc]

theorem RO.len {w : World} {ι ι1 : Inj} {h h1 : Heap} (a : RO w ι h ι1 h1) : h.length ≤ h1.length := by
  obtain ⟨x, rfl⟩ := a.ext
  simp

theorem RO.crel {w : World} {ι ι1 : Inj} {h h1 : Heap} (a : RO w ι h ι1 h1) {l l' : List Value} (hc : CRel ι h.length l l') : CRel ι1 h1.length l l' :=
  hc.mono a.agree a.len

/-- A row of the model's memory, taken in as a block that may not be written. -/
theorem ro_block {w : World} {ι : Inj} {h : Heap} (hr : Rel ι h w) (cs cs' : List Value) (B off size : Nat) (hc : CRel ι h.length cs cs') (h1 : ∀ v ∈ cs', v.oneCell' = true) (hcell : ∀ i, i < cs.length → w.cell? ⟨B, off + i, none⟩ = some (cs'.getD i undef))
    (hs : off + cs.length ≤ size) (hne : ∀ (b : Nat) (cs0 : List Value), h[b]? = some (Blk.mem false cs0) → (ι b).blk ≠ B) : RO w ι h (ι.set h.length ⟨B, off, size⟩) (h ++ [Blk.mem true cs]) := by
  have hold : ∀ b, b < h.length → ι.set h.length ⟨B, off, size⟩ b = ι b := fun b hb => Inj.set_other (by omega)
  have look : ∀ (b : Nat) (ro : Bool) (c : List Value), (h ++ [Blk.mem true cs])[b]? = some (Blk.mem ro c) → (b < h.length ∧ h[b]? = some (Blk.mem ro c)) ∨ (b = h.length ∧ ro = true ∧ c = cs) := by
    intro b ro c hb
    rw [List.getElem?_append] at hb
    split at hb
    · rename_i hlt
      exact .inl ⟨hlt, hb⟩
    · rename_i hge
      rcases Nat.eq_or_lt_of_le (Nat.le_of_not_lt hge) with heq | hgt
      · rw [← heq] at hb
        simp only [Nat.sub_self, List.getElem?_cons_zero] at hb
        injection hb with hb
        injection hb with e1 e2
        exact .inr ⟨heq.symm, e1.symm, e2.symm⟩
      · rw [List.getElem?_eq_none (by simp; omega)] at hb
        cases hb
  refine ⟨⟨_, rfl⟩, hold, ⟨?_, ?_, ?_, ?_, ?_⟩, ?_⟩
  · intro b ro c hb i hi
    rcases look b ro c hb with ⟨hlt, hb'⟩ | ⟨heq, _, hc'⟩
    · obtain ⟨v', q1, q2, q3⟩ := hr.cell b ro c hb' i hi
      refine ⟨v', by rw [hold b hlt]; exact q1, q2.mono (fun x hx => hold x hx) (by simp), q3⟩
    · subst heq hc'
      rw [Inj.set_same]
      refine ⟨_, hcell i hi, (hc.2 i).mono (fun x hx => hold x hx) (by simp), ?_⟩
      have hi' : i < cs'.length := by rw [← hc.1]; exact hi
      rw [getD_eq (List.getElem?_eq_getElem hi')]
      exact h1 _ (List.getElem_mem hi')
  · intro b ro c hb hz
    rcases look b ro c hb with ⟨hlt, hb'⟩ | ⟨heq, hro, hc'⟩
    · rw [hold b hlt]; exact hr.inside b ro c hb' hz
    · subst heq hc' hro
      rw [Inj.set_same]
      have hz : c ≠ [] := by simpa using hz
      have := hcell 0 (List.length_pos_iff.2 hz)
      exact World.block_lt_of_cell? w _ this
  · intro b ro c hb
    rcases look b ro c hb with ⟨hlt, hb'⟩ | ⟨heq, _, hc'⟩
    · rw [hold b hlt]; exact hr.fits b ro c hb'
    · subst heq hc'
      rw [Inj.set_same]
      exact hs
  · intro b c hb
    rcases look b false c hb with ⟨hlt, hb'⟩ | ⟨_, hro, _⟩
    · rw [hold b hlt]; exact hr.own b c hb'
    · cases hro
  · intro b b' c ro c' hb hb' hn hz
    rcases look b false c hb with ⟨hlt, hb1⟩ | ⟨_, hro, _⟩
    · rcases look b' ro c' hb' with ⟨hlt', hb1'⟩ | ⟨heq, _, _⟩
      · rw [hold b hlt, hold b' hlt']
        exact hr.apart b b' c ro c' hb1 hb1' hn hz
      · subst heq
        rw [hold b hlt, Inj.set_same]
        exact hne b c hb1
    · cases hro
  · intro b c hb
    rcases look b false c hb with ⟨_, hb'⟩ | ⟨_, hro, _⟩
    · exact hb'
    · cases hro

/-- What it is to take cells in: some cells of the abstract machine, of a type, that stand to them. -/
def Opens (B : Nat) (w : World) (ty : Ty) (cs : List Value) : Prop :=
  ∀ ι h, Rel ι h w → (∀ (b : Nat) (c : List Value), h[b]? = some (Blk.mem false c) → False) → ∃ (ι' : Inj) (h' : Heap) (acs : List Value), RO w ι h ι' h' ∧ CRel ι' h'.length acs cs ∧ AOk B ty h' acs ∧ ∀ v ∈ cs, v.oneCell' = true

theorem opens_rows {B : Nat} {w : World} {ty : Ty} : ∀ (css : List (List Value)), (∀ cs ∈ css, Opens B w ty cs) → ∀ ι h, Rel ι h w → (∀ (b : Nat) (c : List Value), h[b]? = some (Blk.mem false c) → False) →
    ∃ (ι' : Inj) (h' : Heap) (rows : List (List Value)), RO w ι h ι' h' ∧ rows.map List.length = css.map List.length ∧ CRel ι' h'.length rows.flatten css.flatten ∧ (∀ r ∈ rows, AOk B ty h' r) ∧ ∀ cs ∈ css, ∀ v ∈ cs, v.oneCell' = true
  | [], _, ι, h, hr, _ => ⟨ι, h, [], .refl hr, rfl, ⟨rfl, fun _ => .undef⟩, by simp, by simp⟩
  | cs :: css, hall, ι, h, hr, hno => by
    obtain ⟨ι1, h1, acs, r1, c1, a1, o1⟩ := hall cs (by simp) ι h hr hno
    obtain ⟨ι2, h2, rows, r2, e2, c2, a2, o2⟩ := opens_rows css (fun c hc => hall c (by simp [hc])) ι1 h1 r1.rel (fun b c hb => hno b c (r1.ro b c hb))
    refine ⟨ι2, h2, acs :: rows, r1.trans r2, by simp [e2, c1.1], ?_, ?_, ?_⟩
    · rw [List.flatten_cons, List.flatten_cons]
      exact crel_append (r2.crel c1) c2
    · intro r hr
      obtain ⟨x, hx⟩ := r2.ext
      cases hr with
      | head => rw [hx]; exact a1.mono
      | tail _ hr => exact a2 r hr
    · intro c hc
      cases hc with
      | head => exact o1
      | tail _ hc => exact o2 c hc

theorem take_drop_flatten (n s : Nat) : ∀ (cs : List Value), cs.length = n * s → cs = ((List.range n).map fun i => (cs.drop (i * s)).take s).flatten := by
  induction n with
  | zero => intro cs h; simp at h; simp [h]
  | succ n ih =>
    intro cs h
    rw [List.range_succ_eq_map, List.map_cons, List.flatten_cons]
    have h1 : (cs.drop s).length = n * s := by rw [List.length_drop, h, Nat.succ_mul]; omega
    have h2 := ih (cs.drop s) h1
    conv => lhs; rw [← List.take_append_drop s cs]
    simp only [Nat.zero_mul, List.drop_zero]
    congr 1
    rw [h2]
    congr 1
    rw [List.map_map]
    apply List.map_congr_left
    intro i _
    simp only [Function.comp, List.drop_drop]
    congr 2
    rw [Nat.succ_mul]; omega

section
variable {H : Type} {enc : TypeId × Value → H} {P : Program} {w : World} {spare : Nat → Bool} {held : Bool}

theorem weights_all {e : TypeId} : ∀ {l : List (DataW H)} {d : DataW H}, d ∈ l → ∀ q ∈ d.weights P e, q ∈ DataW.weightsAll P e l
  | d' :: l, d, hm, q, hq => by
    simp only [DataW.weightsAll, List.mem_append]
    cases hm with
    | head => exact .inl hq
    | tail _ hm => exact .inr (weights_all hm q hq)

theorem weights_each : ∀ {ts : List TypeId} {l : List (DataW H)} {j : Nat} {t : TypeId} {d : DataW H}, ts[j]? = some t → l[j]? = some d → ∀ q ∈ d.weights P t, q ∈ DataW.weightsEach P ts l
  | [], _, j, t, d, ht, _, _, _ => by simp at ht
  | _ :: _, [], j, t, d, _, hd, _, _ => by simp at hd
  | t' :: ts, d' :: l, 0, t, d, ht, hd, q, hq => by
    simp only [List.getElem?_cons_zero, Option.some.injEq] at ht hd
    subst ht hd
    simp only [DataW.weightsEach, List.mem_append]
    exact .inl hq
  | t' :: ts, d' :: l, j + 1, t, d, ht, hd, q, hq => by
    simp only [DataW.weightsEach, List.mem_append]
    exact .inr (weights_each (j := j) (by simpa using ht) (by simpa using hd) q hq)

theorem cells?_len {a : Addr} {n : Nat} {l : List Value} (hc : w.cells? 0 a n = some l) : l.length = n ∧ ∀ i, i < n → w.cell? (a.add i) = some (l.getD i undef) := by
  unfold World.cells? at hc
  rw [if_pos (Nat.zero_le _)] at hc
  have hlen := mapM_some_length hc
  refine ⟨by simpa using hlen, fun i hi => ?_⟩
  have := mapM_some_get hc i i (by simp [hi])
  rw [this, List.getD, List.getElem?_eq_getElem (by simp at hlen; omega)]
  rfl

theorem flatten_getD {s : Nat} : ∀ (css : List (List Value)), (∀ c ∈ css, c.length = s) → ∀ j, j < css.length * s → css.flatten.getD j undef = (css.getD (j / s) []).getD (j % s) undef
  | [], _, j, hj => by simp at hj
  | c :: css, hall, j, hj => by
    have hc : c.length = s := hall c (by simp)
    have hs : 0 < s := by
      rcases Nat.eq_zero_or_pos s with h0 | h0
      · subst h0; simp at hj
      · exact h0
    rw [List.flatten_cons]
    rcases Nat.lt_or_ge j s with h1 | h1
    · rw [Nat.div_eq_of_lt h1, Nat.mod_eq_of_lt h1]
      simp only [List.getD_eq_getElem?_getD, List.getElem?_cons_zero, Option.getD_some]
      rw [List.getElem?_append_left (by omega)]
    · have h2 := flatten_getD css (fun c hc => hall c (by simp [hc])) (j - s) (by simp only [List.length_cons, Nat.succ_mul] at hj; omega)
      have e1 : j / s = (j - s) / s + 1 := by rw [Nat.div_eq_sub_div hs h1]
      have e2 : j % s = (j - s) % s := by rw [Nat.mod_eq_sub_mod h1]
      rw [e1, e2]
      simp only [List.getD_eq_getElem?_getD, List.getElem?_cons_succ] at h2 ⊢
      rw [List.getElem?_append_right (by omega), hc, h2]

theorem flatten_len {s : Nat} : ∀ (css : List (List Value)), (∀ c ∈ css, c.length = s) → css.flatten.length = css.length * s
  | [], _ => by simp
  | c :: css, hall => by
    rw [List.flatten_cons, List.length_append, flatten_len css (fun c hc => hall c (by simp [hc])), hall c (by simp), List.length_cons, Nat.succ_mul]
    omega

def OpensS (B : Nat) (w : World) (tys : List Ty) (cs : List Value) : Prop :=
  ∀ ι h, Rel ι h w → (∀ (b : Nat) (c : List Value), h[b]? = some (Blk.mem false c) → False) → ∃ (ι' : Inj) (h' : Heap) (acs : List Value), RO w ι h ι' h' ∧ CRel ι' h'.length acs cs ∧ AOks B tys h' acs ∧ ∀ v ∈ cs, v.oneCell' = true

theorem OpensS.nil {B : Nat} : OpensS B w [] [] := fun ι h hr _ => ⟨ι, h, [], .refl hr, ⟨rfl, fun _ => .undef⟩, by simp only [AOks], by simp⟩

theorem OpensS.cons {B : Nat} {ty : Ty} {tys : List Ty} {a b : List Value} (h1 : Opens B w ty a) (h2 : OpensS B w tys b) : OpensS B w (ty :: tys) (a ++ b) := by
  intro ι h hr hno
  obtain ⟨ι1, g1, acs, r1, c1, a1, o1⟩ := h1 ι h hr hno
  obtain ⟨ι2, g2, bcs, r2, c2, a2, o2⟩ := h2 ι1 g1 r1.rel (fun b c hb => hno b c (r1.ro b c hb))
  refine ⟨ι2, g2, acs ++ bcs, r1.trans r2, crel_append (r2.crel c1) c2, ?_, ?_⟩
  · obtain ⟨x, hx⟩ := r2.ext
    simp only [AOks]
    exact ⟨acs, bcs, rfl, by rw [hx]; exact a1.mono, a2⟩
  · intro v hv
    rcases List.mem_append.1 hv with hv | hv
    · exact o1 v hv
    · exact o2 v hv

theorem fields_open {B n d : Nat} {cs : List Value}
    (ih : ∀ t cs x ty, DataW.trod enc P w 0 (fun _ => true) held n t cs = some x → tyOf P d t = some ty → (∀ q ∈ x.1.weights P t, q ≤ reach) → bulkW x.1 ≤ B → Opens B w ty cs) :
    ∀ (fs : List Field) (xs : List (DataW H × List MemPlace)) (off : Nat) (tys : List Ty), fieldsTy P (tyOf P d) off fs = some tys → cs.length = fieldsEnd P off fs → xs.length = fs.length →
      (∀ (i : Nat) (f : Field), fs[i]? = some f → DataW.trod enc P w 0 (fun _ => true) held n f.type ((cs.drop f.offset).take (P.cellsOf f.type)) = xs[i]?) →
      (∀ q ∈ DataW.weightsEach P (fs.map (·.type)) (xs.map (·.1)), q ≤ reach) → bulkWs (xs.map (·.1)) ≤ B → OpensS B w tys (cs.drop off)
  | [], xs, off, tys, hf, hl, _, _, _, _ => by
    simp only [fieldsTy, Option.some.injEq] at hf
    subst hf
    simp only [fieldsEnd] at hl
    rw [List.drop_eq_nil_of_le (by omega)]
    exact .nil
  | f :: fs, xs, off, tys, hf, hl, hxl, hx, hw, hB => by
    simp only [fieldsTy] at hf
    split at hf
    · rename_i hoff
      split at hf
      · rename_i ty l h1 h2
        injection hf with hf
        subst hf
        cases xs with
        | nil => simp at hxl
        | cons x xs =>
          have h0 := hx 0 f (by simp)
          rw [hoff] at h0
          simp only [List.getElem?_cons_zero] at h0
          simp only [List.map_cons, DataW.weightsEach, List.mem_append] at hw
          simp only [List.map_cons, bulkWs] at hB
          have a := ih f.type _ x ty h0 h1 (fun q hq => hw q (.inl hq)) (by omega)
          have b := fields_open ih fs xs (off + P.cellsOf f.type) l h2 hl (by simpa using hxl) (fun i g hg => by simpa using hx (i + 1) g (by simpa using hg)) (fun q hq => hw q (.inr hq)) (by omega)
          rw [← List.take_append_drop (P.cellsOf f.type) (cs.drop off), List.drop_drop]
          exact OpensS.cons a b
      · cases hf
    · cases hf

theorem opens_one {B : Nat} {v : Value} {ty : Ty} (h1 : v.oneCell' = true) (hv : ∀ ι n, VRel ι n v v) (ha : ∀ h, AOk B ty h [v]) : Opens B w ty [v] := fun ι h hr _ =>
  ⟨ι, h, [v], .refl hr, crel_of rfl (fun i a _ => by have : i = 0 := by simpa using a
                                                     subst this; exact hv _ _), ha h, by simpa using h1⟩

theorem open_cells {B : Nat} : ∀ (d : Nat) (fuel : Nat) (t : TypeId) (cs : List Value) (x : DataW H × List MemPlace) (ty : Ty),
    DataW.trod enc P w 0 (fun _ => true) held fuel t cs = some x → tyOf P d t = some ty → (∀ q ∈ x.1.weights P t, q ≤ reach) → bulkW x.1 ≤ B → Opens B w ty cs
  | 0, _, _, _, _, _, _, hty, _, _ => by simp [tyOf] at hty
  | d + 1, fuel, t, cs, x, ty, hx, hty, hw, hB => by
    simp only [tyOf] at hty
    split at hty
    · rename_i ht
      injection hty with hty
      subst hty
      obtain ⟨b, rfl, rfl⟩ := DataW.trod_bool ht hx
      exact opens_one rfl (fun _ _ => .bool b) (fun h => by simp only [AOk]; exact ⟨b, rfl⟩)
    · rename_i k ht
      injection hty with hty
      subst hty
      obtain ⟨n, rfl, rfl, hwf⟩ := DataW.trod_int ht hx
      exact opens_one rfl (fun _ _ => .int k n) (fun h => by simp only [AOk]; exact ⟨n, rfl, hwf⟩)
    · rename_i ht
      injection hty with hty
      subst hty
      obtain ⟨s, rfl, rfl, hs⟩ := DataW.trod_string ht hx
      refine opens_one rfl (fun _ _ => .string s) (fun h => ?_)
      simp only [AOk]
      have := hw s.data.toList.length (by simp only [DataW.weights, List.mem_singleton])
      simp only [bulkW] at hB
      rw [Array.length_toList] at this hB
      exact ⟨s, rfl, this, by show s.data.size ≤ B; omega⟩
    · rename_i fs ht
      split at hty
      · rename_i hend
        rw [Option.map_eq_some_iff] at hty
        obtain ⟨tys, h1, rfl⟩ := hty
        obtain ⟨xs, n, rfl, rfl, hl, hxl, hall⟩ := DataW.trod_struct ht hx
        have := fields_open (B := B) (cs := cs) (fun t cs x ty a b c e => open_cells d n t cs x ty a b c e) fs.toList xs 0 tys h1 (by rw [hl, hend]) (by simpa using hxl) (fun i f hf => hall i f (by simpa using hf))
          (fun q hq => hw q (by simp only [DataW.weights, ht]; exact hq)) (by simp only [bulkW] at hB; omega)
        intro ι h hr hno
        obtain ⟨ι', h', acs, r, c, a, o⟩ := this ι h hr hno
        exact ⟨ι', h', acs, r, c, by simpa only [AOk] using a, o⟩
      · cases hty
    · rename_i n e ht
      split at hty
      · rename_i hce
        rw [Option.map_eq_some_iff] at hty
        obtain ⟨ty', h1, rfl⟩ := hty
        obtain ⟨xs, m, rfl, rfl, hl, hxl, hall⟩ := DataW.trod_array ht hx
        have hrows : ∀ cs' ∈ ((List.range n).map fun i => (cs.drop (i * P.cellsOf e)).take (P.cellsOf e)), Opens B w ty' cs' := by
          intro cs' hm
          obtain ⟨i, hi, rfl⟩ := List.mem_map.1 hm
          have hi' : i < n := List.mem_range.1 hi
          have h2 := hall i hi'
          rw [List.getElem?_eq_getElem (by omega : i < xs.length)] at h2
          refine open_cells d m e _ _ ty' h2 h1 (fun q hq => hw q ?_) (by
            have := bulk_part (d := xs[i].1) (List.mem_map.2 ⟨xs[i], List.getElem_mem _, rfl⟩ : xs[i].1 ∈ xs.map (·.1))
            simp only [bulkW] at hB
            omega)
          simp only [DataW.weights, ht]
          exact weights_all (d := xs[i].1) (List.mem_map.2 ⟨xs[i], List.getElem_mem _, rfl⟩) q hq
        intro ι h hr hno
        obtain ⟨ι', h', rows, r, e1, c, a, o⟩ := opens_rows _ hrows ι h hr hno
        have hcs := take_drop_flatten n (P.cellsOf e) cs (by rw [hl, hce])
        rw [← hcs] at c
        refine ⟨ι', h', rows.flatten, r, c, ?_, ?_⟩
        · simp only [AOk]
          refine ⟨rows, ?_, rfl, a⟩
          have := congrArg List.length e1
          simpa using this
        · intro v hv
          rw [hcs] at hv
          obtain ⟨l, hl1, hl2⟩ := List.mem_flatten.1 hv
          exact o l hl1 v hl2
      · cases hty
    · rename_i e ht
      split at hty
      · rename_i hs1
        rw [Option.map_eq_some_iff] at hty
        obtain ⟨ty', h1, rfl⟩ := hty
        rcases DataW.trod_slice ht hx with ⟨rfl, rfl⟩ | ⟨a, len, cap, elems, rest, n, rfl, rfl, rfl, _, hlc, _, hel, he, hrest, _⟩
        · exact opens_one rfl (fun _ _ => .nilSlice) (fun h => by simp only [AOk]; exact .inl trivial)
        · obtain ⟨hrl, hrest⟩ := hrest rfl
          generalize hsz : P.cellsOf e = s at *
          let css : List (List Value) := (List.range len).map fun i => (w.cells? 0 (a.add (i * s)) s).getD []
          have hget : ∀ i, i < len → ∃ l y, w.cells? 0 (a.add (i * s)) s = some l ∧ css[i]? = some l ∧ DataW.trod enc P w 0 (fun _ => true) held n e l = some y ∧ elems[i]? = some y := by
            intro i hi
            have h2 := he i hi
            rw [List.getElem?_eq_getElem (by omega : i < elems.length)] at h2
            obtain ⟨l, h3, h4⟩ := Option.bind_eq_some_iff.1 h2
            refine ⟨l, _, h3, ?_, h4, List.getElem?_eq_getElem _⟩
            simp [css, hi, h3]
          have hwx : ∀ q, q = (elems.length + rest.length) * P.bytesOf e ∨ q ∈ DataW.weightsAll P e (elems.map (·.1)) → q ≤ reach := by
            intro q hq
            refine hw q ?_
            simp only [DataW.weights, ht, List.mem_cons, List.mem_append, List.length_map]
            rcases hq with h | h
            · exact .inl h
            · exact .inr (.inl h)
          have hopen : ∀ l ∈ css, Opens B w ty' l := by
            intro l hm
            obtain ⟨i, hi, rfl⟩ := List.mem_map.1 hm
            obtain ⟨l, y, q1, q2, q3, q4⟩ := hget i (List.mem_range.1 hi)
            rw [q1]
            refine open_cells d n e _ y ty' q3 h1 (fun q hq => hwx q (.inr ?_)) (by
              have := bulk_part (List.mem_map.2 ⟨y, List.mem_of_getElem? q4, rfl⟩ : y.1 ∈ elems.map (·.1))
              simp only [bulkW] at hB
              omega)
            exact weights_all (d := y.1) (List.mem_map.2 ⟨y, List.mem_of_getElem? q4, rfl⟩) q hq
          have hlen : ∀ l ∈ css, l.length = s := by
            intro l hm
            obtain ⟨i, hi, rfl⟩ := List.mem_map.1 hm
            obtain ⟨l, y, q1, q2, q3, q4⟩ := hget i (List.mem_range.1 hi)
            rw [q1]
            exact (cells?_len q1).1
          have hcl : css.length = len := by simp [css]
          have hspot : 0 < cap → a = ⟨a.block, a.off, none⟩ := by
            intro hc
            have hz : ∃ l, w.cells? 0 (a.add 0) s = some l := by
              rcases Nat.eq_zero_or_pos len with h0 | h0
              · have h2 := hrest 0 (by omega)
                rw [List.getElem?_eq_getElem (by omega : 0 < rest.length)] at h2
                obtain ⟨l, h3, h4⟩ := Option.bind_eq_some_iff.1 h2
                exact ⟨l, by simpa [h0] using h3⟩
              · obtain ⟨l, y, q1, _⟩ := hget 0 h0
                exact ⟨l, by simpa using q1⟩
            obtain ⟨l, hl⟩ := hz
            have h5 := (cells?_len hl).2 0 (by omega)
            simp only [Addr.add, if_true] at h5
            obtain ⟨ab, ao, asp⟩ := a
            cases asp with
            | none => rfl
            | some z =>
              exfalso
              simp only [World.cell?] at h5
              split at h5 <;> simp at h5
          intro ι h hr hno
          obtain ⟨ι1, g1, rows, r1, e1, c1, a1, o1⟩ := opens_rows css hopen ι h hr hno
          have hrlen : rows.length = len := by
            have := congrArg List.length e1
            simpa [hcl] using this
          have hrs : ∀ r ∈ rows, r.length = s := by
            intro r hm
            have : r.length ∈ rows.map List.length := List.mem_map.2 ⟨r, hm, rfl⟩
            rw [e1] at this
            obtain ⟨l, hl, heq⟩ := List.mem_map.1 this
            rw [← heq, hlen l hl]
          have hfl : rows.flatten.length = len * s := by rw [flatten_len rows hrs, hrlen]
          have hno1 : ∀ (b : Nat) (c : List Value), g1[b]? = some (Blk.mem false c) → False := fun b c hb => hno b c (r1.ro b c hb)
          have hls : len * s ≤ cap * s := Nat.mul_le_mul_right s hlc
          have r2 := ro_block r1.rel rows.flatten css.flatten a.block a.off (a.off + cap * s) c1
            (fun v hv => by obtain ⟨l, hl1, hl2⟩ := List.mem_flatten.1 hv; exact o1 l hl1 v hl2)
            (fun i hi => by
              rw [hfl] at hi
              have hs0 : 0 < s := by omega
              have hi1 : i / s < len := by rw [Nat.div_lt_iff_lt_mul hs0]; exact hi
              obtain ⟨l, y, q1, q2, q3, q4⟩ := hget (i / s) hi1
              have h5 := (cells?_len q1).2 (i % s) (Nat.mod_lt _ hs0)
              have hcap : 0 < cap := by
                rcases Nat.eq_zero_or_pos cap with h0 | h0
                · subst h0; omega
                · exact h0
              rw [hspot hcap, Addr.add_lit, Addr.add_lit] at h5
              rw [flatten_getD css hlen i (by rw [hcl]; exact hi), List.getD_eq_getElem?_getD (l := css), q2, Option.getD_some, ← h5]
              congr 2
              have := Nat.div_add_mod i s
              rw [Nat.mul_comm] at this
              omega)
            (by rw [hfl]; omega) (fun b c hb => (hno1 b c hb).elim)
          refine ⟨_, _, [.slice (some ⟨g1.length, 0, none⟩) len s], r1.trans r2, ?_, ?_, by simp [Value.oneCell']⟩
          · refine crel_of rfl fun i hi _ => ?_
            have : i = 0 := by simpa using hi
            subst this
            refine .slice _ _ _ _ _ _ (by simp) hlc fun hc => ⟨a.off, ?_, fun _ => ?_, ?_⟩
            · rw [Inj.set_same]; exact hspot hc
            · rw [Inj.set_same]; rfl
            · rw [Inj.set_same]; exact Nat.le_refl _
          · simp only [AOk]
            refine .inr ⟨g1.length, rows, by rw [hrlen], hs1, by simp, ?_, ?_, fun r hm => ⟨hrs r hm, (a1 r hm).mono⟩⟩
            have := hwx _ (.inl rfl)
            rw [hel, hrl] at this
            rw [hrlen]
            refine Nat.le_trans ?_ this
            exact Nat.mul_le_mul_right _ (by omega)
            have h1 := bulk_len (elems.map (·.1))
            simp only [bulkW, List.length_map] at hB h1
            omega
      · cases hty
    · cases hty

end
end Go.Wb

/- From the abstract machine's answer to a law's row: a law that answers true over all that it may be handed returns true over all inputs, and no old memory is other than it was. -/
namespace Go.Wb
open Go Go.ChangeShapes Go.RowKit

def Ty.agg : Ty → Bool
  | .arr .. | .st .. => true
  | _ => false

def AVal (B : Nat) (ty : Ty) (h : Heap) (v : Value) : Prop := if ty.agg then ∃ cs, v = .agg cs ∧ AOk B ty h cs.toList else AOk B ty h [v]

def AArgs (B : Nat) : List Ty → Heap → List Value → Prop
  | [], _, vs => vs = []
  | ty :: tys, h, vs => ∃ v r, vs = v :: r ∧ AVal B ty h v ∧ AArgs B tys h r

theorem AVal.mono {B : Nat} {h x : Heap} {ty : Ty} {v : Value} (hv : AVal B ty h v) : AVal B ty (h ++ x) v := by
  unfold AVal at *
  split
  · rename_i ha
    rw [if_pos ha] at hv
    obtain ⟨cs, h1, h2⟩ := hv
    exact ⟨cs, h1, h2.mono⟩
  · rename_i ha
    rw [if_neg ha] at hv
    exact hv.mono

def tysOf (P : Program) : List TypeId → Option (List Ty)
  | [] => some []
  | t :: ts => match tyOf P 12 t, tysOf P ts with
    | some ty, some tys => some (ty :: tys)
    | _, _ => none

def NoOwn (h : Heap) : Prop := ∀ (b : Nat) (c : List Value), h[b]? = some (Blk.mem false c) → False

section
variable {H : Type} {enc : TypeId × Value → H} {P : Program} {w : World} {held : Bool} {base : Nat}

theorem tyOf_agg {d : Nat} {t : TypeId} {ty : Ty} (h : tyOf P d t = some ty) {v : Value} (hv : Value.okWide P w .any base t v) : if ty.agg then ∃ cs, v = .agg cs else v.cells.toList = [v] := by
  cases d with
  | zero => simp [tyOf] at h
  | succ d =>
    simp only [tyOf] at h
    unfold Value.okWide at hv
    split at h
    · rename_i ht; rw [ht] at hv
      injection h with h; subst h
      unfold Cell.okWide Cell.ok at hv; rw [ht] at hv
      cases v <;> first | exact hv.elim | rfl
    · rename_i ht; rw [ht] at hv
      injection h with h; subst h
      unfold Cell.okWide Cell.ok at hv; rw [ht] at hv
      cases v <;> first | exact hv.elim | rfl
    · rename_i ht; rw [ht] at hv
      injection h with h; subst h
      unfold Cell.okWide Cell.ok at hv; rw [ht] at hv
      cases v <;> first | exact hv.elim | rfl
    · rename_i ht; rw [ht] at hv
      split at h
      · rw [Option.map_eq_some_iff] at h; obtain ⟨_, _, rfl⟩ := h
        obtain ⟨cs, h1, _⟩ := hv
        exact ⟨cs, h1⟩
      · cases h
    · rename_i ht; rw [ht] at hv
      split at h
      · rw [Option.map_eq_some_iff] at h; obtain ⟨_, _, rfl⟩ := h
        obtain ⟨cs, h1, _⟩ := hv
        exact ⟨cs, h1⟩
      · cases h
    · rename_i ht; rw [ht] at hv
      split at h
      · rw [Option.map_eq_some_iff] at h; obtain ⟨_, _, rfl⟩ := h
        unfold Cell.okWide Cell.ok at hv; rw [ht] at hv
        cases v <;> first | exact hv.elim | rfl
      · cases h
    · cases h

theorem open_args {B : Nat} : ∀ (ts : List TypeId) (tys : List Ty) (vs : List Value) (ds : List (DataW H)) (p : List MemPlace), tysOf P ts = some tys →
    (∀ (j : Nat) t v, ts[j]? = some t → vs[j]? = some v → Value.okWide P w .any base t v) → DataW.TrodAll enc P w 0 (fun _ => true) held ts vs ds p → (∀ q ∈ DataW.weightsEach P ts ds, q ≤ reach) → bulkWs ds ≤ B →
    ∀ ι h, Rel ι h w → NoOwn h → ∃ (ι' : Inj) (h' : Heap) (avs : List Value), RO w ι h ι' h' ∧ CRel ι' h'.length avs vs ∧ AArgs B tys h' avs
  | [], tys, vs, ds, p, hty, _, hA, _, _, ι, h, hr, _ => by
    simp only [tysOf, Option.some.injEq] at hty
    subst hty
    obtain ⟨rfl, _, _⟩ := trodAll_nil hA
    exact ⟨ι, h, [], .refl hr, ⟨rfl, fun _ => .undef⟩, by simp only [AArgs]⟩
  | t :: ts, tys, vs, ds, p, hty, hval, hA, hsz, hB, ι, h, hr, hno => by
    simp only [tysOf] at hty
    split at hty
    · rename_i ty tys' h1 h2
      injection hty with hty
      subst hty
      obtain ⟨v, vs', d, ds', p1, q1, rfl, rfl, rfl, ⟨fuel, hT⟩, hR⟩ := trodAll_cons hA
      simp only [DataW.weightsEach, List.mem_append] at hsz
      simp only [bulkWs] at hB
      obtain ⟨ι1, g1, acs, r1, c1, a1, o1⟩ := open_cells (B := B) 12 fuel t _ (d, p1) ty hT h1 (fun q hq => hsz q (.inl hq)) (by show bulkW d ≤ B; omega) ι h hr hno
      obtain ⟨ι2, g2, avs, r2, c2, a2⟩ := open_args (B := B) ts tys' vs' ds' q1 h2 (fun j t v a b => hval (j + 1) t v (by simpa using a) (by simpa using b)) hR (fun q hq => hsz q (.inr hq)) (by omega) ι1 g1 r1.rel (fun b c hb => hno b c (r1.ro b c hb))
      have hag := tyOf_agg h1 (hval 0 t v rfl rfl)
      obtain ⟨x, hx⟩ := r2.ext
      have key : ∃ av, VRel ι2 g2.length av v ∧ AVal B ty g2 av := by
        cases hb : ty.agg with
        | true =>
          rw [hb, if_pos rfl] at hag
          obtain ⟨cs, rfl⟩ := hag
          refine ⟨.agg acs.toArray, ?_, ?_⟩
          · have := agg_crel (r2.crel c1) (fun v hv => o1 v hv)
            simpa [Value.cells] using this
          · unfold AVal
            rw [hb, if_pos rfl]
            exact ⟨_, rfl, by rw [hx]; exact a1.mono⟩
        | false =>
          rw [hb] at hag
          simp only [Bool.false_eq_true, if_false] at hag
          rw [hag] at c1
          have hl : acs.length = 1 := c1.1
          match acs, hl with
          | [av], _ =>
            refine ⟨av, ?_, ?_⟩
            · have := (r2.crel c1).2 0
              simpa using this
            · unfold AVal
              rw [hb]
              simp only [Bool.false_eq_true, if_false]
              rw [hx]; exact a1.mono
      obtain ⟨av, k1, k2⟩ := key
      refine ⟨ι2, g2, av :: avs, r1.trans r2, ?_, ?_⟩
      · have : CRel ι2 g2.length [av] [v] := crel_of rfl fun i hi _ => by
          have : i = 0 := by simpa using hi
          subst this; exact k1
        exact crel_append this c2
      · simp only [AArgs]
        exact ⟨av, avs, rfl, k2, a2⟩
    · cases hty

theorem rel_nil {w : World} : Rel (fun _ => ⟨0, 0, 0⟩) [] w := ⟨fun b ro cs hb => by simp at hb, fun b ro cs hb => by simp at hb, fun b ro cs hb => by simp at hb, fun b cs hb => by simp at hb, fun b b' cs ro cs' hb => by simp at hb⟩

theorem law_calls {nm : Names} {E : Env} (hcalls : CallsOk P nm (callA E)) {f : FuncId} {name : String} (hnm : nm f = some name) {ts : List TypeId} {tys : List Ty} (hty : tysOf P ts = some tys)
    {args : Array Value} {ds : List (DataW H)} {p : List MemPlace} (hval : ∀ (j : Nat) t v, ts[j]? = some t → args.toList[j]? = some v → Value.okWide P w .any base t v)
    (hA : DataW.TrodAll enc P w 0 (fun _ => true) held ts args.toList ds p) (hsz : ∀ q ∈ DataW.weightsEach P ts ds, q ≤ reach)
    (B : Nat) (hB : bulkWs ds ≤ B) (hlaw : ∀ avs h, NoOwn h → AArgs B tys h avs → ∃ h', callA E name avs h = some (.bool true, h')) :
    Calls P f args w fun e w' => e = .returned (.bool true) ∧ Below w.heap.size w w' := by
  obtain ⟨ι, h, avs, r, c, a⟩ := open_args (B := B) ts tys args.toList ds p hty hval hA hsz hB _ [] rel_nil (fun b c hb => by simp at hb)
  have hno : NoOwn h := fun b c hb => by have := r.ro b c hb; simp at this
  obtain ⟨h', hx⟩ := hlaw avs h hno a
  have := hcalls.1 name avs h _ h' hx f hnm ι w args.toList r.rel c
  rw [Array.toArray_toList] at this
  refine this.mono fun e w' hh => ?_
  obtain ⟨ι', v', he, hs, hv⟩ := hh
  rw [hv.bool_inv] at he
  refine ⟨he, ⟨hs.os, hs.tape, hs.output, hs.size, fun k hk => hs.frame k hk ?_⟩⟩
  rintro ⟨b, cs, hb, _⟩
  exact hno b cs hb

def rowed (P : Program) (ts : List TypeId) : Bool := ts.all fun t => P.readableRec t && decide (t < P.types.size)

theorem trodAll_below (hl : laidOutB P = true) {w' : World} (hb : Below w.heap.size w w') : ∀ (ts : List TypeId) (vs : List Value) (ds : List (DataW H)) (p : List MemPlace), rowed P ts = true →
    DataW.TrodAll enc P w 0 (fun _ => true) true ts vs ds p → DataW.TrodAll enc P w' 0 (fun b => decide (b < w.heap.size)) true ts vs ds p
  | [], vs, ds, p, _, hA => by
    obtain ⟨rfl, rfl, rfl⟩ := trodAll_nil hA
    exact rfl
  | t :: ts, vs, ds, p, hr, hA => by
    simp only [rowed, List.all_cons, Bool.and_eq_true, decide_eq_true_eq] at hr
    obtain ⟨v, vs', d, ds', p1, q1, rfl, rfl, rfl, hT, hR⟩ := trodAll_cons hA
    obtain ⟨fuel, hF⟩ := hT
    exact trodAll_cons_mk (Below.trod hl hr.1.1 hr.1.2 ⟨fuel, hF⟩ hb (DataW.trod_lt fuel t _ _ hF)) (trodAll_below hl hb ts vs' ds' q1 hr.2 hR)

theorem trodAll_length : ∀ (ts : List TypeId) (vs : List Value) (ds : List (DataW H)) (p : List MemPlace) {sp : Nat → Bool}, DataW.TrodAll enc P w 0 sp held ts vs ds p → ds.length = ts.length
  | [], vs, ds, p, _, hA => by
    obtain ⟨_, rfl, _⟩ := trodAll_nil hA
    rfl
  | t :: ts, vs, ds, p, _, hA => by
    obtain ⟨v, vs', d, ds', p1, q1, rfl, rfl, rfl, _, hR⟩ := trodAll_cons hA
    simp [trodAll_length ts vs' ds' q1 hR]

theorem law_contract {nm : Names} {E : Env} (hcalls : CallsOk P nm (callA E)) (hlaid : laidOutB P = true) {f : FuncId} {fn : Func} {name : String} (hnm : nm f = some name) {tys : List Ty} {tb : TypeId} {s : ChangeSpec}
    (hty : tysOf P fn.params.toList = some tys) (hrow : rowed P fn.params.toList = true) (hrt : fn.resultTypes = #[tb]) (htb : P.underlying tb = some .bool) (hvars : s.vars = [])
    (hs : ∀ ds : List (DataW H), ds.length = fn.params.toList.length → s.fn H ds = { results := [.lit (.bool true)], args := ds })
    (B : Nat) (hlaw : ∀ avs h, NoOwn h → AArgs B tys h avs → ∃ h', callA E name avs h = some (.bool true, h'))
    {args : Array Value} {ds gs : List (DataW H)} {before : List MemPlace} (hval : ∀ (j : Nat) t v, fn.params[j]? = some t → args[j]? = some v → Value.okWide P w .any base t v)
    (hW : DataW.Whole enc P fn.params.toList s.vars false w args.toList ds gs before)
    (hsz : (DataW.weightsEach P (fn.params.toList ++ s.plain.varTypes P) (ds ++ gs)).all (· ≤ reachBytes) = true) (hB : bulkWs (ds ++ gs) ≤ B) :
    Calls P f args w fun e w' => ∃ v, e = .returned v ∧ s.post enc P fn false true false false w args v w' := by
  have hW' := hW
  obtain ⟨p, q, hA, hV, rfl, hfz, hnd⟩ := hW
  have hA' := hA
  rw [hvars] at hV
  obtain ⟨rfl, rfl⟩ := trodVars_none hV
  have hlen := trodAll_length _ _ _ _ hA
  have hsz' : ∀ q ∈ DataW.weightsEach P fn.params.toList ds, q ≤ reach := by
    intro q hq
    have hsub : ∀ (ts us : List TypeId) (l : List (DataW H)), q ∈ DataW.weightsEach P ts l → q ∈ DataW.weightsEach P (ts ++ us) l := by
      intro ts
      induction ts with
      | nil => intro us l hm; simp [DataW.weightsEach] at hm
      | cons t ts ih =>
        intro us l hm
        cases l with
        | nil => simp [DataW.weightsEach] at hm
        | cons d l =>
          simp only [DataW.weightsEach, List.mem_append, List.cons_append] at hm ⊢
          rcases hm with hm | hm
          · exact .inl hm
          · exact .inr (ih us l hm)
    rw [List.append_nil] at hsz
    have := List.all_eq_true.1 hsz q (hsub _ _ _ hq)
    simpa [reach] using this
  refine (law_calls hcalls hnm hty (fun j t v a b => hval j t v (by simpa using a) (by simpa using b)) hA hsz' B (by rw [List.append_nil] at hB; exact hB) hlaw).mono fun e w' hh => ?_
  obtain ⟨rfl, bel⟩ := hh
  refine ⟨_, rfl, ds, [], p ++ [], [], p, [], hW', ?_, ?_, ?_, bel.frame _, fun h => by cases h⟩
  · rw [List.append_nil, hs ds hlen, hrt]
    exact trodAll_mk1 (shut_bool htb true)
  · rw [List.append_nil, hs ds hlen]
    exact trodAll_below hlaid bel _ _ _ _ hrow hA'
  · rw [List.append_nil, hs ds hlen, hvars]
    rfl

end
end Go.Wb

/- The abstract machine by reckoning alone: a twin that the kernel can run; and a function of no arguments whose heap is thrown away. -/
namespace Go.Wb
open Go

/-- Cells that can be told to be the same. -/
def sameV1 : Value → Value → Bool
  | .bool a, .bool b => a == b
  | .int k a, .int k' b => decide (k = k') && decide (a = b)
  | .string a, .string b => decide (a = b)
  | .pointer a, .pointer b => decide (a = b)
  | .slice a n m, .slice b n' m' => decide (a = b) && decide (n = n') && decide (m = m')
  | _, _ => false

theorem sameV1_eq {a b : Value} (h : sameV1 a b = true) : a = b := by
  cases a <;> cases b <;> simp_all [sameV1]

def sameL : List Value → List Value → Bool
  | [], [] => true
  | a :: l, b :: m => sameV1 a b && sameL l m
  | _, _ => false

theorem sameL_eq : ∀ {l m : List Value}, sameL l m = true → l = m
  | [], [], _ => rfl
  | a :: l, b :: m, h => by
    simp only [sameL, Bool.and_eq_true] at h
    rw [sameV1_eq h.1, sameL_eq h.2]
  | [], _ :: _, h => by simp [sameL] at h
  | _ :: _, [], h => by simp [sameL] at h

def sameV (a b : Value) : Bool :=
  match a, b with
  | .agg x, .agg y => sameL x.toList y.toList
  | a, b => sameV1 a b

theorem sameV_eq {a b : Value} (h : sameV a b = true) : a = b := by
  unfold sameV at h
  split at h
  · have := sameL_eq h
    rename_i x y
    have : x = y := by cases x; cases y; simpa using this
    rw [this]
  · exact sameV1_eq h

def sameAtB (G : List Heap) (L : List LoadRec) (p : Nat × Nat) : Bool :=
  match L[p.1]?, G[p.2]? with
  | some (some (n, a, v)), some h => match readV h n a with
    | some u => sameV u v
    | none => false
  | some none, some _ => true
  | _, _ => false

def checkPairsB (G : List Heap) (L : List LoadRec) : List (Nat × Nat) → Bool
  | [] => true
  | p :: ps => sameAtB G L p && checkPairsB G L ps

theorem checkPairsB_ok {G : List Heap} {L : List LoadRec} : ∀ {ps : List (Nat × Nat)}, checkPairsB G L ps = true → checkPairs G L ps
  | [], _ => trivial
  | p :: ps, h => by
    simp only [checkPairsB, Bool.and_eq_true] at h
    refine ⟨?_, checkPairsB_ok h.2⟩
    have h1 := h.1
    unfold sameAtB at h1
    unfold sameAt
    split at h1
    · rename_i n a v h0 e1 e2
      split at h1
      · rename_i u hu
        rw [e1, e2]
        show readV h0 n a = some v
        rw [hu, sameV_eq h1]
      · cases h1
    · rename_i e1 e2
      rw [e1, e2]
      trivial
    · cases h1

def drawnE (call : CallF) (l : List AOper) (pairs : List (Nat × Nat)) (t : T) (h : Heap) : Option (T × Heap) :=
  match pairs with
  | [] => execOps call l t h
  | pairs => match execLog call l t h with
    | some (t', h', G, L) => if checkPairsB (h :: G) L pairs then some (t', h') else none
    | none => none

theorem execLog_ops {call : CallF} : ∀ {l : List AOper} {t : T} {h : Heap} {t' : T} {h' : Heap}, execOps call l t h = some (t', h') → ∃ G L, execLog call l t h = some (t', h', G, L)
  | [], t, h, t', h', hx => by
    simp only [execOps, Option.some.injEq, Prod.mk.injEq] at hx
    obtain ⟨rfl, rfl⟩ := hx
    exact ⟨[], [], rfl⟩
  | o :: l, t, h, t', h', hx => by
    simp only [execOps] at hx
    split at hx
    · rename_i t1 h1 hst
      obtain ⟨G, L, hl⟩ := execLog_ops hx
      simp only [execLog, hst, hl]
      exact ⟨_, _, rfl⟩
    · cases hx

theorem drawnE_ok {call : CallF} {l : List AOper} {ps : List (Nat × Nat)} {t : T} {h : Heap} {r : T × Heap} (hx : drawnE call l ps t h = some r) : execDrawn call l ps t h = some r := by
  unfold drawnE at hx
  unfold execDrawn
  split at hx
  · obtain ⟨t', h'⟩ := r
    obtain ⟨G, L, hl⟩ := execLog_ops hx
    rw [hl]
    simp only [checkPairs]
    exact if_pos trivial
  · split at hx
    · rename_i t' h' G L hl
      rw [hl]
      simp only
      split at hx
      · rename_i hc
        rw [if_pos (checkPairsB_ok hc)]
        exact hx
      · cases hx
    · cases hx

def leaveE (res : List ARes) : Option (AExit × T × Heap) → Option (Value × Heap)
  | some (.ret, t, h) => (resVal t h res).map fun v => (v, h)
  | some (.normal, t, h) => (resVal t h res).map fun v => (v, h)
  | _ => none

def callE1 (E : Env) (run : ACode → T → Heap → Option (AExit × T × Heap)) : CallF := fun f args h =>
  match E f with
  | some (.prim g) => g args h
  | some (.code res body) => leaveE res (run body (argT args) h)
  | _ => none

def callE (E : Env) (run : ACode → T → Heap → Option (AExit × T × Heap)) : CallF := fun f args h =>
  match E f with
  | none => none
  | some (.prim g) => g args h
  | some (.dyn tbl) => if f = "@dyn" then match args with
    | .func (.func f) first caps :: rest => match tbl.find? (fun e => e.1 == f) with
      | some e => callE1 E run e.2 (first.toList ++ rest ++ caps.toList) h
      | none => none
    | _ => none
    else none
  | some (.code res body) => leaveE res (run body (argT args) h)

def runE (E : Env) : Nat → ACode → T → Heap → Option (AExit × T × Heap)
  | 0, _, _, _ => none
  | n + 1, c, t, h => match c with
    | .skip => some (.normal, t, h)
    | .ops l => (execOps (callE E (runE E n)) l t h).map fun x => (.normal, x.1, x.2)
    | .drawn l ps => (drawnE (callE E (runE E n)) l ps t h).map fun x => (.normal, x.1, x.2)
    | .seq a b => match runE E n a t h with
      | some (.normal, t', h') => runE E n b t' h'
      | r => r
    | .cond c x y => match Ev t c with
      | .bool true => runE E n x t h
      | .bool false => runE E n y t h
      | _ => none
    | .block id b => match runE E n b t h with
      | some (.exit i, t', h') => if i = id then some (.normal, t', h') else some (.exit i, t', h')
      | r => r
    | .loop b => match runE E n b t h with
      | some (.normal, t', h') => runE E n (.loop b) t' h'
      | r => r
    | .exit id => some (.exit id, t, h)
    | .ret => some (.ret, t, h)

theorem runE_ok {E : Env} : ∀ (n : Nat) (c : ACode) (t : T) (h : Heap) (r : AExit × T × Heap), runE E n c t h = some r → runA E c t h = some r
  | 0, _, _, _, _, hx => by simp [runE] at hx
  | n + 1, c, t, h, r, hx => by
    have hcall1 : LeC (callE1 E (runE E n)) (callA E) := by
      intro f args h r hx
      unfold callE1 at hx
      split at hx
      · rename_i g hg
        rw [callA_prim hg]
        exact hx
      · rename_i res body hb
        rw [callA_code hb]
        unfold leaveE at hx
        unfold leave
        split at hx
        · rename_i t1 h1 h2
          rw [runE_ok n _ _ _ _ h2]
          exact hx
        · rename_i t1 h1 h2
          rw [runE_ok n _ _ _ _ h2]
          exact hx
        · cases hx
      · cases hx
    have hcall : LeC (callE E (runE E n)) (callA E) := by
      intro f args h r hx
      unfold callE at hx
      split at hx
      · cases hx
      · rename_i g hg
        rw [callA_prim hg]
        exact hx
      · rename_i tbl hb
        split at hx
        · rename_i hf
          subst hf
          split at hx
          · split at hx
            · rename_i e he
              rw [callA_dyn hb he]
              exact hcall1 _ _ _ _ hx
            · cases hx
          · cases hx
        · cases hx
      · rename_i res body hb
        rw [callA_code hb]
        unfold leaveE at hx
        unfold leave
        split at hx
        · rename_i t1 h1 h2
          rw [runE_ok n _ _ _ _ h2]
          exact hx
        · rename_i t1 h1 h2
          rw [runE_ok n _ _ _ _ h2]
          exact hx
        · cases hx
    unfold runE at hx
    split at hx
    · rw [runA_skip]; exact hx
    · rename_i l
      rw [runA_ops]
      rw [Option.map_eq_some_iff] at hx
      obtain ⟨x, h1, h2⟩ := hx
      rw [execOps_mono hcall h1]
      exact congrArg some h2
    · rename_i l ps
      rw [runA_drawn]
      rw [Option.map_eq_some_iff] at hx
      obtain ⟨x, h1, h2⟩ := hx
      rw [execDrawn_mono hcall (drawnE_ok h1)]
      exact congrArg some h2
    · rename_i a b
      rw [runA_seq]
      split at hx
      · rename_i t1 h1 h2
        rw [runE_ok n _ _ _ _ h2]
        exact runE_ok n _ _ _ _ hx
      · rename_i hne
        rw [runE_ok n _ _ _ _ hx]
        obtain ⟨e, t1, h1⟩ := r
        cases e with
        | normal => exact (hne t1 h1 hx).elim
        | exit _ => rfl
        | ret => rfl
    · rename_i c x y
      rw [runA_cond]
      split at hx
      · rename_i hb
        (try rw [hb]); exact runE_ok n _ _ _ _ hx
      · rename_i hb
        (try rw [hb]); exact runE_ok n _ _ _ _ hx
      · cases hx
    · rename_i id b
      rw [runA_block]
      split at hx
      · rename_i i t1 h1 h2
        rw [runE_ok n _ _ _ _ h2]
        exact hx
      · rename_i hne
        rw [runE_ok n _ _ _ _ hx]
        obtain ⟨e, t1, h1⟩ := r
        cases e with
        | exit i => exact (hne i t1 h1 hx).elim
        | normal => rfl
        | ret => rfl
    · rename_i b
      rw [runA_loop]
      split at hx
      · rename_i t1 h1 h2
        rw [runE_ok n _ _ _ _ h2]
        exact runE_ok n _ _ _ _ hx
      · rename_i hne
        rw [runE_ok n _ _ _ _ hx]
        obtain ⟨e, t1, h1⟩ := r
        cases e with
        | normal => exact (hne t1 h1 hx).elim
        | exit _ => rfl
        | ret => rfl
    · rw [runA_exit]; exact hx
    · rw [runA_ret]; exact hx

/-- A function of no arguments, run by the twin from the empty heap: what scalar it gives. -/
def aloneE (E : Env) (n : Nat) (res : List ARes) (body : ACode) (b : Bool) : Bool :=
  match leaveE res (runE E n body (argT []) []) with
  | some (.bool c, _) => c == b
  | _ => false

theorem aloneE_ok {E : Env} {n : Nat} {f : String} {res : List ARes} {body : ACode} {b : Bool} (hE : E f = some (.code res body)) (h : aloneE E n res body b = true) : ∃ h', callA E f [] [] = some (.bool b, h') := by
  unfold aloneE at h
  rw [callA_code hE]
  split at h
  · rename_i c h' hx
    refine ⟨h', ?_⟩
    have hc : c = b := by simpa using h
    subst hc
    unfold leaveE at hx
    unfold leave
    split at hx
    · rename_i t1 h1 h2
      rw [runE_ok n _ _ _ _ h2]
      exact hx
    · rename_i t1 h1 h2
      rw [runE_ok n _ _ _ _ h2]
      exact hx
    · cases hx
  · cases h

/-- What a function of no arguments leaves behind is nothing to the caller's heap. -/
def alone (b : Bool) : List Value → Heap → Option (Value × Heap) := fun args h => match args with
  | [] => some (.bool b, h)
  | _ => none

theorem alone_ok {P : Program} {f : FuncId} {b : Bool} {h1 : Heap} (hc : CallOk P f [] [] (.bool b) h1) : ∀ args h v h', alone b args h = some (v, h') → CallOk P f args h v h' := by
  intro args h v h' hx
  unfold alone at hx
  split at hx
  · injection hx with hx
    injection hx with e1 e2
    subst e1 e2
    intro ι w args' hr hcr
    have hnil : args' = [] := by
      have := hcr.1
      cases args' with
      | nil => rfl
      | cons _ _ => simp at this
    subst hnil
    have hr0 : Rel ι ([] : Heap) w := ⟨fun b ro cs hb => by simp at hb, fun b ro cs hb => by simp at hb, fun b ro cs hb => by simp at hb, fun b cs hb => by simp at hb, fun b b' cs ro cs' hb => by simp at hb⟩
    refine (hc ι w [] hr0 ⟨rfl, fun _ => .undef⟩).mono fun e w' hh => ?_
    obtain ⟨ι', v', he, hs, hv⟩ := hh
    have hfr : ∀ B, B < w.heap.size → w'.heap[B]? = w.heap[B]? := fun B hB => hs.frame B hB (by rintro ⟨b, cs, hb, _⟩; simp at hb)
    refine ⟨ι, .bool b, by rw [he, hv.bool_inv], ?_, .bool b⟩
    have hcell : ∀ a x, w.cell? a = some x → w'.cell? a = some x := by
      intro a x hx
      have hlt := World.block_lt_of_cell? w _ hx
      simp only [World.cell?] at hx ⊢
      rw [hfr _ hlt]; exact hx
    refine ⟨Nat.le_refl _, fun _ _ => rfl, ⟨?_, ?_, ?_, ?_, ?_⟩, hs.size, fun B hB _ => hfr B hB, fun B hB => .inr hB, hs.tape, hs.os, hs.output⟩
    · intro b ro cs hb i hi
      obtain ⟨v', q1, q2, q3⟩ := hr.cell b ro cs hb i hi
      exact ⟨v', hcell _ _ q1, q2, q3⟩
    · intro b ro cs hb hz
      exact Nat.lt_of_lt_of_le (hr.inside b ro cs hb hz) hs.size
    · exact hr.fits
    · intro b cs hb
      obtain ⟨c, e, lo, hi, q1, q2, q3⟩ := hr.own b cs hb
      refine ⟨c, e, lo, hi, ?_, q2, q3⟩
      rw [hfr _ (hr.inside b false cs hb (.inl rfl))]; exact q1
    · exact hr.apart
  · cases hx

end Go.Wb

/- The value machine: slices that nobody writes any more are values; what a function has made itself, and its boxes, lie in the temporaries that name them; all else that points to them is a path. No heap. -/
namespace Go.Wb
open Go

/-- A value that shares nothing. -/
inductive PV where
  | sc (v : Value)
  | agg (cs : List PV)
  | sl (n : Nat) (cs : List PV)

instance : Inhabited PV := ⟨.agg []⟩

/-- A box's cell, or a part of a result: a value, or a slice of one's own: how many, how many cells each, the cells. -/
inductive CV where
  | v (p : PV)
  | o (n s : Nat) (cs : List PV)
  | gone

inductive TV where
  | undef
  | val (p : PV)
  | own (n s : Nat) (cs : List PV)
  | box (cs : List CV)
  | ref (k : Nat) (c : Option Nat) (off : Nat)
  | slc (k : Nat) (c : Option Nat) (off n s : Nat)
  | pf (cs : List PV) (off : Nat)
  | tup (l : List CV)
  | hbox (cs : List CV)
  | clo (f : Nat) (caps : List (Nat ⊕ PV))
  | skip

/-- What a function is handed: a value; or what it may change, and gives back. -/
inductive AV where
  | v (p : PV)
  | box (cs : List CV)
  | own (n s : Nat) (cs : List PV)
  | clo (f : Nat) (caps : List (Nat ⊕ PV))

abbrev TT := Nat → TV
def botT : TT := fun _ => .undef
def updT (t : TT) (k : Nat) (v : TV) : TT := fun i => if i = k then v else t i

def names (k : Nat) : List (Nat ⊕ PV) → Bool
  | [] => false
  | .inl j :: l => j == k || names k l
  | .inr _ :: l => names k l

/-- A path to what is gone is none. -/
def kl (k : Nat) : TV → TV
  | .clo f caps => if names k caps then .undef else .clo f caps
  | .ref k' c off => if k' = k then .undef else .ref k' c off
  | .slc k' c off n s => if k' = k then .undef else .slc k' c off n s
  | v => v

/-- A path into a slice in a box is none. -/
def klC (k : Nat) : TV → TV
  | .ref k' (some c) off => if k' = k then .undef else .ref k' (some c) off
  | .slc k' (some c) off n s => if k' = k then .undef else .slc k' (some c) off n s
  | v => v

def setR (t : TT) (k : Nat) (v : TV) : TT := fun i => if i = k then v else kl k (t i)
/-- A box that is written: slices that lay in it may be gone. -/
def setC (t : TT) (k : Nat) (v : TV) : TT := fun i => if i = k then v else klC k (t i)

def isRoot : TV → Bool
  | .own .. | .box .. | .tup .. | .hbox .. => true
  | _ => false

def putT (t : TT) (d : Option Tmp) (v : TV) : TT :=
  match d with
  | some k => if isRoot v then setR t k v else updT t k v
  | none => t

def restr : List Nat → TT → TT
  | [], _ => botT
  | v :: vs, t => updT (restr vs t) v (t v)

def scalar : Value → Bool
  | .bool _ | .int _ _ | .string _ | .nilFunc | .pointer none | .nilIface => true
  | .func (.func _) f c => f.size == 0 && c.size == 0
  | _ => false

def pvC : Value → Option PV
  | .slice none 0 0 => some (.sl 0 [])
  | v => if scalar v then some (.sc v) else none

def isNilS : Value → Bool
  | .slice none 0 0 => true
  | _ => false

def pvCs : List Value → Option (List PV)
  | [] => some []
  | z :: zs => match pvC z, pvCs zs with
    | some p, some l => some (p :: l)
    | _, _ => none

def lookA : List (Nat × Nat) → Nat → Option Nat
  | [], _ => none
  | (j, s) :: l, i => if i = j then some s else lookA l i

/-- New cells; some nil slices among them are slices of one's own. -/
def zcv (ann : List (Nat × Nat)) : Nat → List Value → Option (List CV)
  | _, [] => some []
  | j, z :: zs => match (if isNilS z then lookA ann j else none), pvC z, zcv ann (j + 1) zs with
    | some s, _, some l => some (.o 0 s [] :: l)
    | none, some p, some l => some (.v p :: l)
    | _, _, _ => none

def EvT (t : TT) : Operand → TV
  | .tmp i => t i
  | .const v => match pvC v with
    | some p => .val p
    | none => .undef
  | .global _ => .undef
  | .func f => .val (.sc (.func (.func f) #[] #[]))

def pvOf : TV → Option PV
  | .val p => some p
  | _ => none

def scV : TV → Value
  | .val (.sc v) => v
  | _ => Go.undef
def scT (t : TT) : T := fun i => scV (t i)

/-- Where a pointer points. -/
def plc (t : TT) : Operand → Option (Nat × Option Nat × Nat)
  | .tmp i => match t i with
    | .box _ => some (i, none, 0)
    | .ref k c off => some (k, c, off)
    | _ => none
  | _ => none

def unv : List CV → Option (List PV)
  | [] => some []
  | .v p :: l => (unv l).map (p :: ·)
  | _ :: _ => none

def cellC (cs : List CV) (i : Nat) : Option CV := cs[i]?
def cellP (cs : List PV) (i : Nat) : Option PV := cs[i]?

/-- Cells of a slice of one's own. -/
def sub (n s : Nat) (cs : List PV) (off m : Nat) : Option (List PV) :=
  if off = 0 ∧ m = n then some cs else if off + m * s ≤ cs.length then some ((cs.drop off).take (m * s)) else none

def rdSlc (t : TT) (k : Nat) (c : Option Nat) (off m s : Nat) : Option (List PV) :=
  match c, t k with
  | none, .own n s' cs => if s' = s then sub n s cs off m else none
  | none, .box cs => if off + m * s ≤ cs.length then unv ((cs.drop off).take (m * s)) else none
  | some j, .box cs => match cellC cs j with
    | some (.o n s' l) => if s' = s then sub n s l off m else none
    | _ => none
  | _, _ => none

/-- A slice, as it can be read. -/
def slv (t : TT) (x : Operand) : Option (Nat × List PV) :=
  match EvT t x with
  | .val (.sl n cs) => some (n, cs)
  | .own n _ cs => some (n, cs)
  | .slc k c off n s => (rdSlc t k c off n s).map fun cs => (n, cs)
  | _ => none

def slLen : TV → Option Nat
  | .val (.sl n _) => some n
  | .own n _ _ => some n
  | .slc _ _ _ n _ => some n
  | _ => none

/-- One cell, read. -/
def ld1 (t : TT) (x : Operand) : Option TV :=
  match EvT t x with
  | .pf cs off => (cellP cs off).map .val
  | _ => match plc t x with
    | some (k, none, off) => match t k with
      | .box cs => match cellC cs off with
        | some (.v p) => some (.val p)
        | some (.o n s _) => some (.slc k (some off) 0 n s)
        | _ => none
      | .own _ _ cs => (cellP cs off).map .val
      | _ => none
    | some (k, some j, off) => match t k with
      | .box cs => match cellC cs j with
        | some (.o _ _ l) => (cellP l off).map .val
        | _ => none
      | _ => none
    | none => none

def frz : CV → CV
  | .o n _ cs => .v (.sl n cs)
  | c => c

def isV : CV → Bool
  | .v _ => true
  | _ => false

/-- Some cells, read as one value. Slices of one's own among them are written no more. -/
def ldN (m : Nat) (t : TT) (x : Operand) : Option (TV × TT) :=
  match EvT t x with
  | .pf cs off => if off + m ≤ cs.length then some (.val (.agg ((cs.drop off).take m)), t) else none
  | _ => match plc t x with
    | some (k, none, off) => match t k with
      | .box cs => if off + m ≤ cs.length then
          if cs.all isV then (unv ((cs.drop off).take m)).map fun l => (.val (.agg l), t)
          else (unv (((cs.map frz).drop off).take m)).map fun l => (.val (.agg l), setC t k (.box (cs.map frz)))
        else none
      | .own _ _ cs => if off + m ≤ cs.length then some (.val (.agg ((cs.drop off).take m)), t) else none
      | _ => none
    | _ => none

/-- One cell, written. -/
def st1 (t : TT) (a x : Operand) : Option TT :=
  match plc t a with
  | some (k, none, off) => match t k, EvT t x with
    | .box cs, .val (.agg _) => none
    | .box cs, .val p => match cellC cs off with
      | some (.v _) => some (updT t k (.box (cs.set off (.v p))))
      | some _ => some (setC t k (.box (cs.set off (.v p))))
      | none => none
    | .box cs, .own n s l => match x with
      | .tmp j => if off < cs.length ∧ j ≠ k then some (setC (setR t j .undef) k (.box (cs.set off (.o n s l)))) else none
      | _ => none
    | .own n s cs, .val (.agg _) => none
    | .own n s cs, .val p => if off < cs.length then some (updT t k (.own n s (cs.set off p))) else none
    | _, _ => none
  | some (k, some j, off) => match t k, EvT t x with
    | .box cs, .val (.agg _) => none
    | .box cs, .val p => match cellC cs j with
      | some (.o n s l) => if off < l.length then some (updT t k (.box (cs.set j (.o n s (l.set off p))))) else none
      | _ => none
    | _, _ => none
  | none => none

/-- Some cells, written as one value. -/
def stN (m : Nat) (t : TT) (a x : Operand) : Option TT :=
  match plc t a, EvT t x with
  | some (k, none, off), .val (.agg ps) => if ps.length = m then match t k with
      | .box cs => if off + m ≤ cs.length then
          if cs.all isV then some (updT t k (.box (cs.take off ++ ps.map .v ++ cs.drop (off + m)))) else some (setC t k (.box (cs.take off ++ ps.map .v ++ cs.drop (off + m))))
        else none
      | .own n s cs => if off + m ≤ cs.length then some (updT t k (.own n s (cs.take off ++ ps ++ cs.drop (off + m)))) else none
      | _ => none
    else none
  | some (k, some j, off), .val (.agg ps) => if ps.length = m then match t k with
      | .box cs => match cellC cs j with
        | some (.o n s l) => if off + m ≤ l.length then some (updT t k (.box (cs.set j (.o n s (l.take off ++ ps ++ l.drop (off + m)))))) else none
        | _ => none
      | _ => none
    else none
  | _, _ => none

def pvCells : PV → List PV
  | .agg cs => cs
  | p => [p]

/-- What stands in a part of a new value: also a slice of one's own, which is written no more. -/
def fillP (t : TT) : List PV → List (Nat × Nat × Operand) → Option (List PV)
  | cs, [] => some cs
  | cs, (off, size, x) :: rest => match EvT t x with
    | .val p => if (pvCells p).length = size ∧ off + size ≤ cs.length then fillP t (cs.take off ++ pvCells p ++ cs.drop (off + size)) rest else none
    | _ => none

def repP (n : Nat) : List PV → List PV
  | [z] => List.replicate n z
  | zs => (List.replicate n zs).flatten

def intOfT : TV → Option Int
  | .val (.sc (.int _ i)) => some i
  | _ => none

def boundT (t : TT) (dflt most : Nat) : Option Operand → Option Nat
  | none => if dflt ≤ most then some dflt else none
  | some x => match EvT t x with
    | .val (.sc (.int _ i)) => if 0 ≤ i ∧ i ≤ most then some i.toNat else none
    | _ => none

/-- Is it an operation over values that share nothing, which the machine below does as well? -/
def isSc : AOp → Bool
  | .pick .. | .bin .. | .binB .. | .un .. | .convInt .. | .convStr .. | .idxStr .. | .lenStr .. | .sliceStr .. | .max2 .. | .min2 .. => true
  | _ => false

def scVals : List PV → Option (List Value)
  | [] => some []
  | .sc v :: l => (scVals l).map (v :: ·)
  | _ :: _ => none

def byteOf : PV → Option UInt8
  | .sc (.int .u8 n) => some (UInt8.ofNat n.toNat)
  | _ => none

def bytesOf : List PV → Option (List UInt8)
  | [] => some []
  | p :: l => match byteOf p, bytesOf l with
    | some b, some r => some (b :: r)
    | _, _ => none

/-- What is appended or copied. -/
def srcP (size : Nat) (t : TT) (x : Operand) : Option (Nat × List PV) :=
  match EvT t x with
  | .val (.sc (.string s)) => if size = 1 then some (s.size, s.data.toList.map fun b => .sc (.int .u8 b.toNat)) else none
  | _ => match slv t x with
    | some (n, cs) => if n * size = cs.length then some (n, cs) else none
    | none => none

/-- What a slice of one's own is before something is put behind it; it is gone then. -/
def takeOwn (t : TT) (x : Operand) : Option (Nat × Nat × List PV × TT) :=
  match x with
  | .tmp i => match t i with
    | .own n s cs => some (n, s, cs, setR t i .undef)
    | .slc k none 0 m s => match t k with
      | .own n s' cs => if m = n ∧ s = s' then some (n, s, cs, setR t k .undef) else none
      | _ => none
    | .slc k (some j) 0 m s => match t k with
      | .box bs => match cellC bs j with
        | some (.o n s' cs) => if m = n ∧ s = s' then some (n, s, cs, setC t k (.box (bs.set j .gone))) else none
        | _ => none
      | _ => none
    | _ => none
  | _ => none

def appW (size bytes : Nat) (t : TT) (a x : Operand) : Option (TV × TT) :=
  match srcP size t x with
  | none => none
  | some (m, new) => match takeOwn t a with
    | none => none
    | some (n, s, cs, t') => if s = size ∧ (n + m) * bytes ≤ lim47 then some (.own (n + m) s (cs ++ new), t') else none

def wrSlc (t : TT) (k : Nat) (c : Option Nat) (off m s : Nat) (new : List PV) : Option TT :=
  match c, t k with
  | none, .own n s' cs => if s' = s ∧ off + m * s ≤ cs.length ∧ new.length ≤ m * s then some (updT t k (.own n s (cs.take off ++ new ++ cs.drop (off + new.length)))) else none
  | none, .box cs => if off + m * s ≤ cs.length ∧ new.length ≤ m * s ∧ cs.all isV then some (updT t k (.box (cs.take off ++ new.map .v ++ cs.drop (off + new.length)))) else none
  | _, _ => none

/-- Where a slice that may be written lies. -/
def plcS (t : TT) : Operand → Option (Nat × Option Nat × Nat × Nat × Nat)
  | .tmp i => match t i with
    | .own n s _ => some (i, none, 0, n, s)
    | .slc k c off n s => some (k, c, off, n, s)
    | _ => none
  | _ => none

def copyW (size : Nat) (t : TT) (d x : Operand) : Option (TV × TT) :=
  match plcS t d, srcP size t x with
  | some (k, c, off, n, s), some (m, new) => if s = size then (wrSlc t k c off n s (new.take (Nat.min m n * size))).map fun t' => (.val (.sc (.int .i64 (Nat.min m n : Nat))), t') else none
  | _, _ => none

def tvC : CV → TV
  | .v p => .val p
  | .o n s cs => .own n s cs
  | .gone => .undef

def mvW (r : Bool) (ann : List (Nat × Nat)) (t : TT) (x : Operand) : Option (TV × TT) :=
  match x with
  | .tmp i => match t i with
    | .own n s cs => if r then some (.own n s cs, setR t i .undef) else some (.slc i none 0 n s, t)
    | .box cs => if r then some (.box cs, setR t i .undef) else some (.ref i none 0, t)
    | .tup l => some (.tup l, setR t i .undef)
    | .undef => none
    | .hbox _ => none
    | v => some (v, t)
  | .const v => match isNilS v, ann with
    | true, (_, s) :: _ => some (.own 0 s [], t)
    | _, _ => match pvC v with
      | some p => some (.val p, t)
      | none => none
  | .func f => some (.val (.sc (.func (.func f) #[] #[])), t)
  | .global _ => none

/-- What a function literal takes with it: boxes, or values. -/
def capsW (t : TT) : List Operand → Option (List (Nat ⊕ PV))
  | [] => some []
  | x :: l => match capsW t l with
    | none => none
    | some r => match plc t x with
      | some (k, none, 0) => match t k with
        | .box _ => some (.inl k :: r)
        | _ => none
      | some _ => none
      | none => match EvT t x with
        | .val p => some (.inr p :: r)
        | _ => none

/-- The operations that are no calls. -/
def opW (r : Bool) (ann : List (Nat × Nat)) (op : AOp) (t : TT) : Option (TV × TT) :=
  if isSc op then match aOp op (scT t) [] with
    | some (v, _) => if scalar v then some (.val (.sc v), t) else none
    | none => none
  else match op with
  | .move x => mvW r ann t x
  | .const v => (pvC v).map fun p => (.val p, t)
  | .box x => match x, EvT t x with
    | _, .val p => some (.box ((pvCells p).map .v), t)
    | .tmp i, .own n s cs => some (.box [.o n s cs], setR t i .undef)
    | _, _ => none
  | .alloc z => (zcv ann 0 z).map fun cs => (.box cs, t)
  | .build z ps => match pvCs z with
    | some l => (fillP t l ps).map fun cs => (.val (.agg cs), t)
    | none => none
  | .buildSlice size n z ps => match pvCs z with
    | some l => match fillP t (repP n l) ps with
      | some cs => if cs.length = n * size then some (.own n size cs, t) else none
      | none => none
    | none => none
  | .makeSlice size bytes z l c => match pvCs z, EvT t l, EvT t c with
    | some zs, .val (.sc (.int _ l)), .val (.sc (.int _ c)) => if 0 ≤ l ∧ l ≤ c ∧ bytes * c ≤ lim48 ∧ zs.length = size then some (.own l.toNat size (repP l.toNat zs), t) else none
    | _, _, _ => none
  | .strBytes x => match EvT t x with
    | .val (.sc (.string s)) => some (.own s.size 1 (s.data.toList.map fun b => .sc (.int .u8 b.toNat)), t)
    | _ => none
  | .bytesStr x => match slv t x with
    | some (n, cs) => if n = cs.length then (bytesOf cs).map fun l => (.val (.sc (.string ⟨l.toArray⟩)), t) else none
    | none => none
  | .load none x => (ld1 t x).map fun v => (v, t)
  | .load (some m) x => ldN m t x
  | .store none a x => (st1 t a x).map fun t' => (.undef, t')
  | .store (some m) a x => (stN m t a x).map fun t' => (.undef, t')
  | .nilCheck x => match EvT t x with
    | .pf cs off => some (.pf cs off, t)
    | _ => (plc t x).map fun p => (.ref p.1 p.2.1 p.2.2, t)
  | .eqv neg ks x y => match EvT t x, EvT t y with
    | .val (.agg a), .val (.agg b) => match scVals a, scVals b with
      | some a, some b => (eqCells ks a b).map fun v => (.val (.sc (.bool (neg != v))), t)
      | _, _ => none
    | _, _ => none
  | .nilv neg x => match slLen (EvT t x) with
    | some n => if 0 < n then some (.val (.sc (.bool (neg != false))), t) else none
    | none => none
  | .len x => (slLen (EvT t x)).map fun (n : Nat) => (.val (.sc (.int .i64 n)), t)
  | .sliceSl size x lo hi => match EvT t x with
    | .val (.sl n cs) => match boundT t n n hi with
      | some hh => match boundT t 0 hh lo with
        | some l => if n * size = cs.length then some (.val (.sl (hh - l) ((cs.drop (l * size)).take ((hh - l) * size))), t) else none
        | none => none
      | none => none
    | _ => match plcS t x with
      | some (k, c, off, n, s) => if s = size then match boundT t n n hi with
          | some hh => match boundT t 0 hh lo with
            | some l => some (.slc k c (off + l * size) (hh - l) s, t)
            | none => none
          | none => none
        else none
      | none => none
  | .sliceArr n size x lo hi => match EvT t x with
    | .pf cs off => if off + n * size ≤ cs.length then match boundT t n n hi with
        | some hh => match boundT t 0 hh lo with
          | some l => some (.val (.sl (hh - l) ((cs.drop (off + l * size)).take ((hh - l) * size))), t)
          | none => none
        | none => none
      else none
    | _ => match plc t x with
      | some (k, none, off) => match t k with
        | .box cs => if off + n * size ≤ cs.length then match boundT t n n hi with
          | some hh => match boundT t 0 hh lo with
            | some l => some (.slc k none (off + l * size) (hh - l) size, t)
            | none => none
          | none => none
          else none
        | _ => none
      | _ => none
  | .fieldAddr off x => match EvT t x with
    | .pf cs o => some (.pf cs (o + off), t)
    | _ => (plc t x).map fun p => (.ref p.1 p.2.1 (p.2.2 + off), t)
  | .field none off x => match EvT t x with
    | .val (.agg cs) => (cellP cs off).map fun p => (.val p, t)
    | _ => none
  | .field (some m) off x => match EvT t x with
    | .val (.agg cs) => some (.val (.agg ((cs.drop off).take m)), t)
    | _ => none
  | .idxAddrArr n size x i => match EvT t i with
    | .val (.sc (.int _ j)) => if 0 ≤ j ∧ j < n then match EvT t x with
        | .pf cs o => some (.pf cs (o + j.toNat * size), t)
        | _ => (plc t x).map fun p => (.ref p.1 p.2.1 (p.2.2 + j.toNat * size), t)
      else none
    | _ => none
  | .idxAddrSl size x i => match EvT t i with
    | .val (.sc (.int _ j)) => match EvT t x with
      | .val (.sl n cs) => if 0 ≤ j ∧ j < n ∧ n * size = cs.length then some (.pf cs (j.toNat * size), t) else none
      | _ => match plcS t x with
        | some (k, c, off, n, s) => if 0 ≤ j ∧ j < n ∧ s = size then some (.ref k c (off + j.toNat * size), t) else none
        | none => none
    | _ => none
  | .idxArr n size none x i => match EvT t x, EvT t i with
    | .val (.agg cs), .val (.sc (.int _ j)) => if 0 ≤ j ∧ j < n then (cellP cs (j.toNat * size)).map fun p => (.val p, t) else none
    | _, _ => none
  | .idxArr n size (some m) x i => match EvT t x, EvT t i with
    | .val (.agg cs), .val (.sc (.int _ j)) => if 0 ≤ j ∧ j < n then some (.val (.agg ((cs.drop (j.toNat * size)).take m)), t) else none
    | _, _ => none
  | .append size bytes a x => appW size bytes t a x
  | .copy size d x => copyW size t d x
  | .func (.func f) [] cs => (capsW t cs).map fun l => (.clo f l, t)
  | .extract x i => match x with
    | .tmp k => match t k with
      | .tup l => match cellC l i with
        | some (.v p) => some (.val p, t)
        | some (.o n s cs) => some (.own n s cs, setC t k (.tup (l.set i .gone)))
        | _ => none
      | _ => none
    | _ => none
  | _ => none

end Go.Wb

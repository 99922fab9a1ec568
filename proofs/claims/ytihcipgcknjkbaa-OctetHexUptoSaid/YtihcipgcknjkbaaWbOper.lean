/- An operation of a region, with its guard; calls; a region that does not draw its order. -/
import Derived.Test.YtihcipgcknjkbaaWbStep
namespace Go.Wb
open Go
section
variable {P : Program} {nm : Names} {nt : Nat} {ι : Inj} {h h' : Heap} {w : World} {t t' : T} {a : Act} {v : Value} {call : CallF} {ops : Array Oper} {Q : Exit → Act → World → Prop}

theorem guard_same {o : Oper} {g : Option (Tmp × Bool)} (hs : SRel nt ι h t a w) (hg : guardOf ops o.guard = some g) : Region.wanted o (yielded ops a.tmps) = wantedA g t := by
  obtain ⟨d, oop, ty, pos, af, gd⟩ := o
  cases gd with
  | none =>
    simp only [guardOf] at hg
    injection hg with hg
    subst hg
    rfl
  | some x =>
    obtain ⟨j, want⟩ := x
    simp only [guardOf] at hg
    split at hg
    · rename_i d' hd'
      injection hg with hg
      subst hg
      simp only [Region.wanted, wantedA, yielded, hd', Option.bind_some]
      have hv := hs.tmps d'
      cases hq : a.tmps[d']? with
      | none =>
        have e : a.tmps.getD d' undef = undef := by simp [hq]
        rw [e] at hv
        cases ht : t d' <;> rw [ht] at hv <;> first | rfl | (cases hv; done) | skip
        all_goals (first | rfl | (generalize hu : undef = u at hv; cases hv; exact absurd hu (by simp [undef])))
      | some u =>
        have e : a.tmps.getD d' undef = u := by simp [hq]
        rw [e] at hv
        cases ht : t d' <;> rw [ht] at hv <;> cases hv <;> first | rfl | (cases want <;> rename_i b <;> cases b <;> rfl)
    · cases hg

theorem callNext {o : Oper} {c : Call} {f : FuncId} {fn : Func} (ho : o.op = .call c) (hc : c.callee = .value (.func f)) (hf : P.funcs[f]? = some fn) (hb : fn.body.isSome = true) (hn : fn.name ≠ "runtime.NumGoroutine") (ρ : Operand → Value) (hρ : ρ (.func f) = .func (.func f) #[] #[]) :
    (execOp ρ o).run P w = .ok (.enter f (c.args.map ρ)) w := by
  obtain ⟨d, oop, ty, pos, af, gd⟩ := o
  simp only at ho
  subst ho
  have hbn : fn.body.isNone = false := by cases hx : fn.body <;> simp [hx] at hb ⊢
  have hne : (fn.name == "runtime.NumGoroutine") = false := by simpa using hn
  simp only [execOp, resolve, hc, hρ, Deferred.ofValue, invoke, callFunc, pure_bind, Sem.run_bind, run_program, Result.andThen_ok, hf, hbn, hne, Bool.false_eq_true, if_false, Array.append_empty]
  simp

theorem oper_sound {o : Oper} {ao : AOper} (hcalls : CallsOk P nm call) (hs : SRel nt ι h t a w) (hc : compileOper P nm nt ops o = some ao) (hx : stepA call ao t h = some (t', h')) :
    (Region.wanted o (yielded ops a.tmps) = true → o.wp P a w (fun a' w' => ∃ ι', SRel nt ι' h' t' a' w' ∧ Step ι h w ι' h' w') Q) ∧
    (Region.wanted o (yielded ops a.tmps) = false → SRel nt ι h' t' (a.put o.dst undef) w ∧ h' = h) := by
  unfold compileOper at hc
  split at hc
  case h_2 => cases hc
  rename_i op g hop hg
  have hw := guard_same (nt := nt) hs hg
  have hao : ao = ⟨o.dst, op, g⟩ ∧ ∀ k, o.dst = some k → k < nt := by
    split at hc
    · rename_i hd
      injection hc with hc
      exact ⟨by rw [← hc, hd], fun k hk => by rw [hd] at hk; cases hk⟩
    · rename_i k hd
      split at hc
      · rename_i hlt
        injection hc with hc
        exact ⟨by rw [← hc, hd], fun k' hk => by rw [hd] at hk; injection hk with hk; rw [← hk]; exact hlt⟩
      · cases hc
  obtain ⟨rfl, hd⟩ := hao
  unfold stepA at hx
  simp only at hx
  rw [hw]
  constructor
  · intro hwt
    rw [if_pos hwt] at hx
    split at hx
    case h_2 => cases hx
    rename_i v h1 hev
    injection hx with hx
    injection hx with e1 e2
    subst e1 e2
    have pure_case : ∀ (hcp : compileOp P o.op = some op) (hap : aOp op t h = some (v, h1)), o.wp P a w (fun a' w' => ∃ ι', SRel nt ι' h1 (put t o.dst v) a' w' ∧ Step ι h w ι' h1 w') Q := by
      intro hcp hap
      obtain ⟨ι', v', w', nx, hrun, hnx, hst, hv⟩ := op_sound hs hcp hap
      unfold Oper.wp
      rw [hrun]
      rcases hnx with rfl | ⟨rfl, rfl⟩
      · exact ⟨ι', hs.put hst hd hv, hst⟩
      · exact ⟨ι', hs.put hst hd hv, hst⟩
    have nocall_case : noCall (compileOp P o.op) = some op → o.wp P a w (fun a' w' => ∃ ι', SRel nt ι' h1 (put t o.dst v) a' w' ∧ Step ι h w ι' h1 w') Q := by
      intro hnc
      unfold noCall at hnc
      split at hnc
      · cases hnc
      · rename_i hno
        refine pure_case hnc ?_
        unfold evalA at hev
        split at hev
        · rename_i f args
          exact (hno f args hnc).elim
        · exact hev
    unfold compileOpN at hop
    split at hop
    · rename_i c hoc
      split at hop
      · rename_i f hcal
        split at hop
        · rename_i n fn hn hf
          split at hop
          · rename_i hcond
            obtain ⟨hb, hnn, hoa⟩ := hcond
            injection hop with hop
            subst hop
            simp only [evalA] at hev
            have hargs : CRel ι h.length (c.args.toList.map (Ev t)) (c.args.map a.eval).toList := by
              refine crel_of (by simp) fun i q1 q2 => ?_
              have hi : i < c.args.toList.length := by simpa using q1
              simp only [List.getElem_map, Array.toList_map]
              exact hs.erel _ (List.all_eq_true.1 hoa _ (List.getElem_mem hi))
            have hcl := hcalls n _ _ _ _ hev f hn ι w _ hs.rel hargs
            unfold Oper.wp
            rw [callNext hoc hcal hf hb hnn a.eval rfl]
            simp only [Oper.upon]
            rw [Array.toArray_toList] at hcl
            refine hcl.mono ?_
            rintro e w' ⟨ι', v', rfl, hst, hv⟩
            exact ⟨ι', hs.put hst hd hv, hst⟩
          · cases hop
        · cases hop
      · exact nocall_case hop
    · exact nocall_case hop
  · intro hwf
    rw [hwf] at hx
    simp only [Bool.false_eq_true, if_false] at hx
    injection hx with hx
    injection hx with e1 e2
    subst e1 e2
    exact ⟨hs.put (.refl hs.rel) hd .undef, rfl⟩

end
end Go.Wb

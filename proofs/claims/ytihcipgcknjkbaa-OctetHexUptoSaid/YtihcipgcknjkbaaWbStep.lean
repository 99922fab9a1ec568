/- One operation of the model, taken over and done by the abstract machine. -/
import Derived.Test.YtihcipgcknjkbaaWbRun
import Derived.Test.YtihcipgcknjkbaaWbSound7
namespace Go.Wb
open Go

/-- The frame and the memory stand to the abstract temporaries and the heap. 'nt': how many temporaries the frame has. -/
structure SRel (nt : Nat) (ι : Inj) (h : Heap) (t : T) (a : Act) (w : World) : Prop where
  rel : Rel ι h w
  tmps : ∀ i, VRel ι h.length (t i) (a.tmps.getD i undef)
  defers : a.defers = []
  size : nt ≤ a.tmps.size

/-- What a call of the model's function 'f' does, by the abstract call. -/
def CallOk (P : Program) (f : FuncId) (args : List Value) (h : Heap) (v : Value) (h' : Heap) : Prop :=
  ∀ ι w args', Rel ι h w → CRel ι h.length args args' → Calls P f args'.toArray w fun e w' => ∃ ι' v', e = .returned v' ∧ Step ι h w ι' h' w' ∧ VRel ι' h'.length v v'

def CallsOk (P : Program) (nm : Names) (call : CallF) : Prop :=
  ∀ n args h v h', call n args h = some (v, h') → ∀ f, nm f = some n → CallOk P f args h v h'

theorem SRel.erel {nt : Nat} {ι : Inj} {h : Heap} {t : T} {a : Act} {w : World} (hs : SRel nt ι h t a w) : ERel ι h.length t a.eval := by
  intro x hx
  cases x with
  | tmp i => exact hs.tmps i
  | const v => exact const_rel hx
  | global g => cases hx
  | func f => exact .func _ _ _ _ _ rfl rfl (fun i => by simpa using VRel.undef) (fun i => by simpa using VRel.undef)

theorem SRel.put {nt : Nat} {ι ι' : Inj} {h h' : Heap} {t : T} {a : Act} {w w' : World} (hs : SRel nt ι h t a w) (st : Step ι h w ι' h' w') {d : Option Tmp} (hd : ∀ k, d = some k → k < nt) {v v' : Value} (hv : VRel ι' h'.length v v') :
    SRel nt ι' h' (Wb.put t d v) (a.put d v') w' := by
  cases d with
  | none => exact ⟨st.rel, fun i => st.vrel (hs.tmps i), hs.defers, hs.size⟩
  | some k =>
    have hk := hd k rfl
    refine ⟨st.rel, fun i => ?_, hs.defers, by simpa [Act.put] using hs.size⟩
    have hlt : k < a.tmps.size := Nat.lt_of_lt_of_le hk hs.size
    simp only [Wb.put, upd, Act.put]
    by_cases hi : i = k
    · subst hi
      simpa [hlt] using hv
    · rw [if_neg hi]
      have := st.vrel (hs.tmps i)
      simpa [Array.getElem?_setIfInBounds_ne (Ne.symm hi)] using this

section
variable {P : Program} {nm : Names} {nt : Nat} {ι : Inj} {h h' : Heap} {w : World} {t t' : T} {a : Act} {v : Value}

theorem aggN_one {e : TypeId} (ha : aggN P e = some none) : ∃ i, P.info? e = some i := by
  obtain ⟨i, _, hi, _⟩ := aggN_none ha
  exact ⟨i, hi⟩

/-- Each operation that is taken over, but for calls of functions, does what the abstract one tells. -/
theorem op_sound {o : Oper} {op : AOp} (hs : SRel nt ι h t a w) (hc : compileOp P o.op = some op) (hx : aOp op t h = some (v, h')) : Does P (execOp a.eval o) ι h w v h' := by
  obtain ⟨d, oop, ty, pos, af, g⟩ := o
  have hr := hs.rel
  have he := hs.erel
  have hρ : ∀ v, a.eval (.const v) = v := fun _ => rfl
  simp only at hc
  unfold compileOp at hc
  split at hc
  case isFalse => cases hc
  rename_i hok0
  have hok := List.all_eq_true.1 hok0
  clear hok0
  split at hc
  · injection hc with hc; subst hc
    exact op_move hr he (hok _ (by simp [Op.operands])) hx
  · injection hc with hc; subst hc
    exact op_assign hr he (hok _ (by simp [Op.operands])) hx
  · injection hc with hc; subst hc
    exact op_pick hr he (hok _ (by simp [Op.operands])) (hok _ (by simp [Op.operands])) (hok _ (by simp [Op.operands])) hx
  · rw [Option.map_eq_some_iff] at hc
    obtain ⟨zs, hz, hc⟩ := hc
    subst hc
    exact op_alloc hr hz hx
  · injection hc with hc; subst hc
    exact op_box hr he (hok _ (by simp [Op.operands])) hx
  · rename_i e parts
    have hp : ∀ x ∈ parts.toList, operOk x.2 = true := fun x hx => hok _ (by simp [Op.operands]; exact ⟨x.1, by simpa using hx⟩)
    split at hc
    · rename_i z fs hz hu
      split at hc
      · rename_i l hl
        split at hc
        · rename_i hi
          injection hc with hc; subst hc
          exact op_build_struct hr he hp hz hu hl hi hx
        · cases hc
      · cases hc
    · rename_i z n el hz hu
      split at hc
      · rename_i j hj
        split at hc
        · rename_i l hl
          injection hc with hc; subst hc
          exact op_build_array hr he hp hz hu hj hl hx
        · cases hc
      · cases hc
    · cases hc
  · rename_i e n parts
    have hp : ∀ x ∈ parts.toList, operOk x.2 = true := fun x hx => hok _ (by simp [Op.operands]; exact ⟨x.1, by simpa using hx⟩)
    split at hc
    · rename_i el hu
      split at hc
      · rename_i j z hj hz
        split at hc
        · rename_i hcond
          split at hc
          · rename_i l hl
            injection hc with hc; subst hc
            exact op_buildSlice hr he hp hz hu hj hl hcond.1 hcond.2.1 hx
          · cases hc
        · cases hc
      · cases hc
    · cases hc
  · rw [Option.map_eq_some_iff] at hc
    obtain ⟨n, hn, hc⟩ := hc
    subst hc
    exact op_load hr he (hok _ (by simp [Op.operands])) hn hx
  · rename_i e x y
    split at hc
    · rename_i hsz
      rw [Option.map_eq_some_iff] at hc
      obtain ⟨n, hn, hc⟩ := hc
      subst hc
      refine op_store hr he (hok _ (by simp [Op.operands])) (hok _ (by simp [Op.operands])) hn (fun h0 => ?_) hx
      subst h0
      obtain ⟨i, u, hi, hu, hag⟩ := aggN_none hn
      have := hsz hag
      rw [hi] at this
      exact ⟨i, hi, by simpa using this⟩
    · cases hc
  · injection hc with hc; subst hc
    exact op_nilCheck hr he (hok _ (by simp [Op.operands])) hx
  · rename_i bop e x y e'
    have hox := hok x (by simp [Op.operands])
    have hoy := hok y (by simp [Op.operands])
    unfold compileBin at hc
    split at hc
    · injection hc with hc; subst hc
      exact op_bin hr he hox hoy hx
    · injection hc with hc; subst hc
      exact op_bin hr he hox hoy hx
    · rename_i hu
      injection hc with hc; subst hc
      exact op_binB hr he hox hoy hu hx
    · rename_i el hu
      split at hc
      · injection hc with hc; subst hc
        exact op_nilv (neg := false) (left := false) hr he hox hu hρ hx
      · injection hc with hc; subst hc
        exact op_nilv (neg := true) (left := false) hr he hox hu hρ hx
      · injection hc with hc; subst hc
        exact op_nilv (neg := false) (left := true) hr he hoy hu hρ hx
      · injection hc with hc; subst hc
        exact op_nilv (neg := true) (left := true) hr he hoy hu hρ hx
      · cases hc
    · rename_i fs hu
      split at hc
      · rename_i ks hk
        split at hc
        · rename_i hg
          have hag : isAggT P e = true := by simp [isAggT, isAggC, hu]
          split at hc
          · injection hc with hc; subst hc
            exact op_eqv (neg := false) hr he hox hoy hk hg hag hx
          · injection hc with hc; subst hc
            exact op_eqv (neg := true) hr he hox hoy hk hg hag hx
          · cases hc
        · cases hc
      · cases hc
    · rename_i n el hu
      split at hc
      · rename_i ks hk
        split at hc
        · rename_i hg
          have hag : isAggT P e = true := by simp [isAggT, isAggC, hu]
          split at hc
          · injection hc with hc; subst hc
            exact op_eqv (neg := false) hr he hox hoy hk hg hag hx
          · injection hc with hc; subst hc
            exact op_eqv (neg := true) hr he hox hoy hk hg hag hx
          · cases hc
        · cases hc
      · cases hc
    · cases hc
  · injection hc with hc; subst hc
    exact op_un hr he (hok _ (by simp [Op.operands])) hx
  · rename_i src dst x
    have hox := hok x (by simp [Op.operands])
    split at hc
    · rename_i k k' hu hk
      injection hc with hc; subst hc
      exact op_convInt hr he hox hu hk hx
    · rename_i hu hk
      injection hc with hc; subst hc
      exact op_convStr hr he hox hu hk hx
    · rename_i el hu hk
      split at hc
      · rename_i h8
        injection hc with hc; subst hc
        refine op_strBytes hr he hox hu hk h8 hx
      · cases hc
    · rename_i el hu hk
      split at hc
      · rename_i h8
        injection hc with hc; subst hc
        refine op_bytesStr hr he hox hu hk h8 hx
      · cases hc
    · cases hc
  · rename_i e x
    split at hc
    · cases hc
    · rename_i u hn hu
      injection hc with hc; subst hc
      exact op_iface hr he (hok _ (by simp [Op.operands])) hu (fun ms hms => hn ms hms) hx
    · cases hc
  · rename_i fn f c
    injection hc with hc; subst hc
    exact op_func hr he (fun x hx => hok x (by simp [Op.operands] at *; exact .inl hx)) (fun x hx => hok x (by simp [Op.operands] at *; exact .inr hx)) hx
  · rename_i e l c
    split at hc
    · rename_i el hu
      split at hc
      · rename_i n b z hsb hz
        split at hc
        · rename_i hcond
          injection hc with hc; subst hc
          unfold sizeBytes at hsb
          split at hsb
          · rename_i j hj
            injection hsb with hsb
            injection hsb with e1 e2
            subst e1 e2
            exact op_makeSlice hr he (hok _ (by simp [Op.operands])) (hok _ (by simp [Op.operands])) hz hu hj hcond.2.1 hcond.1 hx
          · cases hsb
        · cases hc
      · cases hc
    · cases hc
  · rename_i e x lo hi mx
    have ol : ∀ y, lo = some y → operOk y = true := fun y hy => hok _ (by subst hy; simp [Op.operands])
    have oh : ∀ y, hi = some y → operOk y = true := fun y hy => hok _ (by subst hy; simp [Op.operands])
    have hox := hok x (by simp [Op.operands])
    split at hc
    · rename_i hu
      injection hc with hc; subst hc
      exact op_sliceStr hr he hox ol oh hu hx
    · rename_i el hu
      split at hc
      · rename_i j hj
        split at hc
        · injection hc with hc; subst hc
          exact op_sliceSl hr he hox ol oh hu hj hx
        · cases hc
      · cases hc
    · rename_i n el hu
      split at hc
      · rename_i j hj
        split at hc
        · injection hc with hc; subst hc
          exact op_sliceArr hr he hox ol oh hu hj hx
        · cases hc
      · cases hc
    · cases hc
  · rename_i s x f
    split at hc
    · rename_i fs hu
      split at hc
      · rename_i fd hf
        split at hc
        · rename_i j hj
          split at hc
          · rename_i h1
            injection hc with hc; subst hc
            exact op_fieldAddr hr he (hok _ (by simp [Op.operands])) hu hf hj h1 hx
          · cases hc
        · cases hc
      · cases hc
    · cases hc
  · rename_i s x f
    split at hc
    · rename_i fs hu
      split at hc
      · rename_i fd hf
        rw [Option.map_eq_some_iff] at hc
        obtain ⟨n, hn, hc⟩ := hc
        subst hc
        exact op_field hr he (hok _ (by simp [Op.operands])) hu hf hn hx
      · cases hc
    · cases hc
  · rename_i s x i
    split at hc
    · rename_i n el hu
      split at hc
      · rename_i j hj
        injection hc with hc; subst hc
        exact op_idxAddrArr hr he (hok _ (by simp [Op.operands])) (hok _ (by simp [Op.operands])) hu hj hx
      · cases hc
    · rename_i el hu
      split at hc
      · rename_i j hj
        split at hc
        · injection hc with hc; subst hc
          exact op_idxAddrSl hr he (hok _ (by simp [Op.operands])) (hok _ (by simp [Op.operands])) hu hj hx
        · cases hc
      · cases hc
    · cases hc
  · rename_i s x i
    split at hc
    · rename_i n el hu
      split at hc
      · rename_i j m hj hm
        injection hc with hc; subst hc
        exact op_idxArr hr he (hok _ (by simp [Op.operands])) (hok _ (by simp [Op.operands])) hu hj hm hx
      · cases hc
    · rename_i hu
      injection hc with hc; subst hc
      exact op_idxStr hr he (hok _ (by simp [Op.operands])) (hok _ (by simp [Op.operands])) hu hx
    · cases hc
  · injection hc with hc; subst hc
    exact op_extract hr he (hok _ (by simp [Op.operands])) hx
  · rename_i c
    obtain ⟨callee, args, ats⟩ := c
    obtain ⟨args⟩ := args
    obtain ⟨ats⟩ := ats
    have hop : ∀ y ∈ args, operOk y = true := fun y hy => hok y (by simp [Op.operands, Call.operands]; exact .inr hy)
    unfold compileCall at hc
    split at hc
    · split at hc
      · split at hc
        · injection hc with hc; subst hc
          simp [aOp] at hx
        · cases hc
      · cases hc
    · rename_i hcal
      simp only at hcal
      subst hcal
      split at hc
      · rename_i x e hx1 he1
        simp only at hx1 he1
        subst hx1 he1
        have hox := hop x (by simp)
        split at hc
        · rename_i hu
          injection hc with hc; subst hc
          exact op_lenStr hr he hox hu hx
        · rename_i el hu
          injection hc with hc; subst hc
          exact op_len hr he hox hu hx
        · rename_i n el hu
          injection hc with hc; subst hc
          exact op_lenArr hr (.inl ⟨el, hu⟩) hx
        · rename_i e2 hu
          split at hc
          · rename_i n el hu2
            injection hc with hc; subst hc
            exact op_lenArr hr (.inr ⟨e2, el, hu, hu2⟩) hx
          · cases hc
        · cases hc
      · cases hc
    · rename_i hcal
      simp only at hcal
      subst hcal
      split at hc
      · rename_i s x e tx hx1 he1
        simp only at hx1 he1
        subst hx1 he1
        have hos := hop s (by simp)
        have hox := hop x (by simp)
        have key : ∀ (el : TypeId) (dx : TypeDesc), P.underlying e = some (.slice el) → P.underlying tx = some dx → ((∃ e2, dx = .slice e2) ∨ dx = .string) →
            (match sizeBytes P el, zeroOf P el with
              | some (n, b), some z => if 1 ≤ b ∧ 1 ≤ n ∧ z.length = n then some (AOp.append n b s x) else none
              | _, _ => none) = some op → Does P (execOp a.eval ⟨d, .call ⟨.builtin .append, #[s, x], #[e, tx]⟩, ty, pos, af, g⟩) ι h w v h' := by
          intro el dx hu hut hdx hc
          split at hc
          · rename_i n b z hsb hz
            split at hc
            · rename_i hcond
              injection hc with hc; subst hc
              unfold sizeBytes at hsb
              split at hsb
              · rename_i j hj
                injection hsb with hsb
                injection hsb with e1 e2
                subst e1 e2
                obtain ⟨i, zz, hi, hzz, hzv, hzl, _⟩ := zeroOf_some hz
                rw [hj] at hi
                injection hi with hi
                subst hi
                exact op_append hr he hos hox hu hut hdx hj hzz (by rw [← hzv, valCells_eq] at hzl; simpa using hzl) hcond.1 hcond.2.1 hx
              · cases hsb
            · cases hc
          · cases hc
        split at hc
        · rename_i el e2 hu hut
          exact key el _ hu hut (.inl ⟨e2, rfl⟩) hc
        · rename_i el hu hut
          exact key el _ hu hut (.inr rfl) hc
        · cases hc
      · cases hc
    · rename_i hcal
      simp only at hcal
      subst hcal
      split at hc
      · rename_i dd s e e2 hx1 he1
        simp only at hx1 he1
        subst hx1 he1
        split at hc
        · rename_i el hu
          split at hc
          · rename_i n b hsb
            split at hc
            · rename_i hcond
              injection hc with hc; subst hc
              unfold sizeBytes at hsb
              split at hsb
              · rename_i j hj
                injection hsb with hsb
                injection hsb with e1 e2
                subst e1 e2
                exact op_copy hr he (hop dd (by simp)) (hop s (by simp)) hu hj hcond hx
              · cases hsb
            · cases hc
          · cases hc
        · cases hc
      · cases hc
    · rename_i hcal
      simp only at hcal
      subst hcal
      split at hc
      · rename_i x y hx1
        simp only at hx1
        subst hx1
        injection hc with hc; subst hc
        exact op_max2 hr he (hop x (by simp)) (hop y (by simp)) hx
      · cases hc
    · rename_i hcal
      simp only at hcal
      subst hcal
      split at hc
      · rename_i x y hx1
        simp only at hx1
        subst hx1
        injection hc with hc; subst hc
        exact op_min2 hr he (hop x (by simp)) (hop y (by simp)) hx
      · cases hc
    · cases hc
  · cases hc

end
end Go.Wb

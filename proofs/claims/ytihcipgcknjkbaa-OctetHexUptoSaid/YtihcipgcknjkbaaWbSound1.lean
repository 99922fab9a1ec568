/- The abstract machine's operations are sound: those that leave the heap alone. -/
import Derived.Test.YtihcipgcknjkbaaWbCompile
import Derived.Test.YtihcipgcknjkbaaWbWrite
namespace Go.Wb
open Go

/-- The model's operation does what the abstract one tells: the result and the heap stand to each other. -/
def Does (P : Program) (s : Sem Next) (ι : Inj) (h : Heap) (w : World) (v : Value) (h' : Heap) : Prop :=
  ∃ ι' v' w' nx, s.run P w = .ok nx w' ∧ (nx = .value v' ∨ (nx = .skip ∧ v' = undef)) ∧ Step ι h w ι' h' w' ∧ VRel ι' h'.length v v'

section
variable {P : Program} {ι : Inj} {h h' : Heap} {w : World} {t : T} {ρ : Operand → Value} {v : Value}

theorem Does.value {s : Sem Value} {ι' : Inj} {v' : Value} {w' : World} (hrun : s.run P w = .ok v' w') (hs : Step ι h w ι' h' w') (hv : VRel ι' h'.length v v') :
    Does P (do pure (.value (← s))) ι h w v h' :=
  ⟨ι', v', w', .value v', by simp [hrun], .inl rfl, hs, hv⟩

theorem Does.pure {s : Sem Value} {v' : Value} (hr : Rel ι h w) (hrun : s.run P w = .ok v' w) (hv : VRel ι h.length v v') :
    Does P (do pure (.value (← s))) ι h w v h :=
  .value hrun (.refl hr) hv

theorem Does.unit {s : Sem Unit} {ι' : Inj} {w' : World} (hrun : s.run P w = .ok () w') (hs : Step ι h w ι' h' w') :
    Does P (do s; Pure.pure .skip) ι h w undef h' :=
  ⟨ι', undef, w', .skip, by simp [hrun], .inr ⟨rfl, rfl⟩, hs, .undef⟩

theorem const_rel {n : Nat} {x : Value} (hx : constOk x = true) : VRel ι n x x := by
  unfold constOk at hx
  split at hx <;> first | constructor | cases hx

theorem const_crel {n : Nat} {l : List Value} (hx : l.all constOk = true) : CRel ι n l l :=
  crel_of rfl fun _ _ _ => const_rel (List.all_eq_true.1 hx _ (List.getElem_mem _))

/-- The operands of the model's frame stand to the abstract temporaries. -/
def ERel (ι : Inj) (n : Nat) (t : T) (ρ : Operand → Value) : Prop := ∀ x, operOk x = true → VRel ι n (Ev t x) (ρ x)

theorem run_under {ty : TypeId} {d : TypeDesc} (hd : P.underlying ty = some d) : (underlying ty).run P w = .ok d w := run_underlying hd w
theorem run_info {ty : TypeId} {i : TypeInfo} (hi : P.info? ty = some i) : (typeInfo ty).run P w = .ok i w := by simp [typeInfo, hi]
theorem run_size {ty : TypeId} {i : TypeInfo} (hi : P.info? ty = some i) : (sizeOf ty).run P w = .ok i.size w := by simp [sizeOf, run_info hi]
theorem run_zero {ty : TypeId} {i : TypeInfo} {z : Value} (hi : P.info? ty = some i) (hz : i.zero = some z) : (zeroValue ty).run P w = .ok z w := by simp [zeroValue, run_info hi, hz]

theorem aInt_sound {op : BinOp} {k : IntKind} {a b : Int} {ty : TypeId} (ho : isShift op = false) (hx : aInt op k a b = some v) :
    (binOp op ty (.int k a) (.int k b)).run P w = .ok v w := by
  cases op <;> simp only [aInt, isShift] at hx ho <;> first
    | (injection hx with hx; subst hx; simp [binOp, Op.intArith, Op.intCmp, Op.intBits, bits])
    | (split at hx
       · cases hx
       · rename_i hb
         injection hx with hx
         subst hx
         simp [binOp, Op.intDiv, hb])
    | (cases ho; done)

theorem aShift_sound {op : BinOp} {k k' : IntKind} {a b : Int} {ty : TypeId} (hx : aShift op k a b = some v) :
    (binOp op ty (.int k a) (.int k' b)).run P w = .ok v w := by
  cases op <;> simp only [aShift] at hx <;> first
    | (split at hx
       · cases hx
       · rename_i hb
         injection hx with hx
         subst hx
         simp [binOp, Op.shift, hb])
    | (cases hx; done)

theorem aStr_sound {op : BinOp} {a b : ByteArray} {ty : TypeId} (hx : aStr op a b = some v) :
    (binOp op ty (.string a) (.string b)).run P w = .ok v w := by
  cases op <;> simp only [aStr] at hx <;> first
    | (injection hx with hx; subst hx; simp [binOp, Op.stringOp])
    | (split at hx
       · cases hx
       · rename_i hb
         injection hx with hx
         subst hx
         have hb' : ¬ 9223372036854775807 < (a.size : Int) + (b.size : Int) := by simpa using hb
         simp [binOp, Op.stringOp, hb'])
    | (cases hx; done)

theorem eqGuard_scalar {op : BinOp} {ty : TypeId} {x y : Operand} {a b : Value} (ha : ∀ cs, a ≠ .agg cs) (ha' : a ≠ .nilIface) : eqGuard op ty x y a b = Pure.pure () := by
  cases a <;> first | rfl | (cases op <;> rfl) | (cases op <;> first | rfl | exact absurd rfl ha' | exact absurd rfl (ha _))

theorem equalIn_bool (d : Nat) {ty : TypeId} (a b : Bool) (hd : P.underlying ty = some .bool) : (Op.equalIn (d + 1) ty (.bool a) (.bool b)).run P w = .ok (a == b) w := by
  simp only [Op.equalIn, Sem.run_bind, run_under hd, Result.andThen_ok, Sem.run_pure]

theorem equal_bool {ty : TypeId} (a b : Bool) (hd : P.underlying ty = some .bool) : (Op.equal ty (.bool a) (.bool b)).run P w = .ok (a == b) w :=
  equalIn_bool 9999 a b hd

theorem aBin_sound {op : BinOp} {ty : TypeId} {x y x' y' : Value} {ox oy : Operand} {n : Nat} (hx : aBin op x y = some v)
    (h1 : VRel ι n x x') (h2 : VRel ι n y y') :
    (do eqGuard op ty ox oy x' y'; binOp op ty x' y' : Sem Value).run P w = .ok v w ∧ VRel ι n v v := by
  unfold aBin at hx
  split at hx
  · cases h1.int_inv
    cases h2.int_inv
    rw [eqGuard_at_int]
    simp only [pure_bind]
    split at hx
    · refine ⟨aShift_sound hx, ?_⟩
      cases op <;> simp only [aShift] at hx <;> first | (cases hx; done) | (split at hx <;> first | (cases hx; done) | (injection hx with hx; subst hx; constructor))
    · rename_i hs
      split at hx
      · rename_i hk
        subst hk
        refine ⟨aInt_sound (by simpa using hs) hx, ?_⟩
        cases op <;> simp only [aInt] at hx <;> first | (cases hx; done) | (injection hx with hx; subst hx; constructor) | (split at hx <;> first | (cases hx; done) | (injection hx with hx; subst hx; constructor))
      · cases hx
  · cases h1.string_inv
    cases h2.string_inv
    rw [eqGuard_at_string]
    simp only [pure_bind]
    refine ⟨aStr_sound hx, ?_⟩
    cases op <;> simp only [aStr] at hx <;> first | (cases hx; done) | (injection hx with hx; subst hx; constructor) | (split at hx <;> first | (cases hx; done) | (injection hx with hx; subst hx; constructor))
  · cases hx

theorem aBinB_sound {op : BinOp} {ty : TypeId} {x y x' y' : Value} {ox oy : Operand} {n : Nat} (hd : P.underlying ty = some .bool) (hx : aBinB op x y = some v)
    (h1 : VRel ι n x x') (h2 : VRel ι n y y') :
    (do eqGuard op ty ox oy x' y'; binOp op ty x' y' : Sem Value).run P w = .ok v w ∧ VRel ι n v v := by
  unfold aBinB at hx
  split at hx
  · cases h1.bool_inv
    cases h2.bool_inv
    rw [eqGuard_at_bool]
    simp only [pure_bind]
    injection hx with hx
    subst hx
    exact ⟨by simp only [binOp, Sem.run_bind, equal_bool _ _ hd, Result.andThen_ok, Sem.run_pure], by constructor⟩
  · cases h1.bool_inv
    cases h2.bool_inv
    rw [eqGuard_at_bool]
    simp only [pure_bind]
    injection hx with hx
    subst hx
    exact ⟨by simp only [binOp, Sem.run_bind, equal_bool _ _ hd, Result.andThen_ok, Sem.run_pure], by constructor⟩
  · cases hx

theorem aUn_sound {op : UnOp} {x x' : Value} {n : Nat} (hx : aUn op x = some v) (h1 : VRel ι n x x') : (Op.unary op x').run P w = .ok v w ∧ VRel ι n v v := by
  unfold aUn at hx
  split at hx
  · injection hx with hx
    subst hx
    cases h1.int_inv
    exact ⟨by simp [Op.unary, Op.intArith], by constructor⟩
  · injection hx with hx
    subst hx
    cases h1.int_inv
    exact ⟨by simp [Op.unary, Op.intBits, bits], by constructor⟩
  · injection hx with hx
    subst hx
    cases h1.bool_inv
    exact ⟨by simp [Op.unary], by constructor⟩
  · cases hx

end
end Go.Wb

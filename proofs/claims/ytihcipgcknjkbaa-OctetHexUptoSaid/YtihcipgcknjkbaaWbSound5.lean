/- The abstract machine's operations are sound: slicing, lengths, what is built, functions. -/
import Derived.Test.YtihcipgcknjkbaaWbSound4
namespace Go.Wb
open Go
section
variable {P : Program} {ι : Inj} {h h' : Heap} {w : World} {t : T} {ρ : Operand → Value} {v : Value} {d : Option Tmp} {ty : TypeId} {pos : String} {af : Array Edge} {g : Option (Nat × Bool)}

theorem bound_hi {n : Nat} {dflt m hh : Nat} {x : Operand} {code : BoundsCode} (he : ERel ι n t ρ) (hox : operOk x = true) (hb : bound t dflt m (some x) = some hh) {m' : Nat} (hm : m ≤ m') :
    (Instr.sliceBound (ρ x) m' code).run P w = .ok hh w ∧ hh ≤ m := by
  unfold bound at hb
  have hxr := he x hox
  simp only at hb
  split at hb
  · rename_i k i heq
    split at hb
    · rename_i hc
      injection hb with hb
      subst hb
      rw [heq] at hxr
      rw [hxr.int_inv]
      refine ⟨?_, by omega⟩
      simp only [Instr.sliceBound, asIntOf, pure_bind]
      rw [if_pos (by omega)]
      rfl
    · cases hb
  · cases hb

theorem bound_none {dflt m hh : Nat} (hb : bound t dflt m none = some hh) : hh = dflt ∧ dflt ≤ m := by
  simp only [bound] at hb
  split at hb
  · injection hb with hb
    exact ⟨hb.symm, by assumption⟩
  · cases hb

/-- The bounds of a slice, as the model has them: 'len' and 'cap' are its own, the abstract ones are within 'len'. -/
theorem bounds_sound {n : Nat} {isSlice : Bool} {len cap hh l : Nat} {lo hi : Option Operand} (he : ERel ι n t ρ) (ol : ∀ x, lo = some x → operOk x = true) (oh : ∀ x, hi = some x → operOk x = true) (hcap : len ≤ cap)
    (h1 : bound t len len hi = some hh) (h2 : bound t 0 hh lo = some l) :
    (Instr.sliceBounds isSlice len cap (lo.map ρ) (hi.map ρ) none).run P w = .ok (l, hh, cap) w ∧ l ≤ hh ∧ hh ≤ len := by
  have e1 : ∃ (r : hh ≤ len), (match hi.map ρ with | some v => Instr.sliceBound v cap (if isSlice = true then .sliceAcap else .sliceAlen) | none => Pure.pure len : Sem Nat).run P w = .ok hh w := by
    cases hi with
    | none =>
      obtain ⟨q1, q2⟩ := bound_none h1
      subst q1
      exact ⟨q2, rfl⟩
    | some x =>
      obtain ⟨q1, q2⟩ := bound_hi (P := P) (w := w) (code := if isSlice = true then .sliceAcap else .sliceAlen) he (oh x rfl) h1 hcap
      exact ⟨q2, q1⟩
  obtain ⟨hle, e1⟩ := e1
  have e2 : ∃ (r : l ≤ hh), (match lo.map ρ with | some v => Instr.sliceBound v hh .sliceB | none => Pure.pure 0 : Sem Nat).run P w = .ok l w := by
    cases lo with
    | none =>
      obtain ⟨q1, q2⟩ := bound_none h2
      subst q1
      exact ⟨q2, rfl⟩
    | some x =>
      obtain ⟨q1, q2⟩ := bound_hi (P := P) (w := w) (code := .sliceB) he (ol x rfl) h2 (Nat.le_refl _)
      exact ⟨q2, q1⟩
  obtain ⟨hle2, e2⟩ := e2
  refine ⟨?_, hle2, hle⟩
  unfold Instr.sliceBounds
  cases hi <;> cases lo <;> simp only [Option.map_some, Option.map_none, pure_bind, Sem.run_bind, Sem.run_pure] at e1 e2 ⊢ <;>
    first
    | (injection e1 with e1; injection e2 with e2; subst e1 e2; simp)
    | (injection e1 with e1; subst e1; simp [e2])
    | (injection e2 with e2; subst e2; simp [e1])
    | simp [e1, e2]

theorem op_sliceSl {x : Operand} {lo hi : Option Operand} {s e : TypeId} {j : TypeInfo} (hr : Rel ι h w) (he : ERel ι h.length t ρ) (hox : operOk x = true) (ol : ∀ x, lo = some x → operOk x = true) (oh : ∀ x, hi = some x → operOk x = true)
    (hs : P.underlying s = some (.slice e)) (hj : P.info? e = some j) (hx : aOp (.sliceSl j.size x lo hi) t h = some (v, h')) :
    Does P (execOp ρ ⟨d, .slice s x lo hi none, ty, pos, af, g⟩) ι h w v h' := by
  simp only [aOp] at hx
  have hxr := he x hox
  split at hx
  · rename_i heq
    rw [heq] at hxr
    split at hx
    · rename_i hh hb1
      split at hx
      · rename_i l hb2
        injection hx with hx
        injection hx with h1 h2
        subst h1 h2
        obtain ⟨_, _, hp⟩ := hxr.nilSlice_inv
        obtain ⟨hrun, q1, q2⟩ := bounds_sound (P := P) (w := w) (isSlice := true) he ol oh (Nat.le_refl 0) hb1 hb2
        have z1 : hh = 0 := by omega
        have z2 : l = 0 := by omega
        subst z1 z2
        refine Does.pure hr (v' := .slice none 0 0) ?_ .nilSlice
        rw [hp]
        simp only [Instr.sliceAt, Sem.run_bind, run_under hs, Result.andThen_ok, Instr.slice, Option.map_none, hrun, run_size hj, Sem.run_pure]
        simp
      · cases hx
    · cases hx
  · rename_i b o n sz heq
    split at hx
    · rename_i hsz
      subst hsz
      split at hx
      · rename_i hh hb1
        split at hx
        · rename_i l hb2
          injection hx with hx
          injection hx with h1 h2
          subst h1 h2
          rw [heq] at hxr
          obtain ⟨hb, a, cap, hp, hl, hcap⟩ := hxr.slice_inv
          obtain ⟨hrun, q1, q2⟩ := bounds_sound (P := P) (w := w) (isSlice := true) he ol oh hl hb1 hb2
          refine Does.pure hr (v' := .slice (some (if cap = l then a else a.add (l * j.size))) (hh - l) (cap - l)) ?_ ?_
          · rw [hp]
            simp only [Instr.sliceAt, Sem.run_bind, run_under hs, Result.andThen_ok, Instr.slice, Option.map_none, hrun, run_size hj, Sem.run_pure]
            split
            · rfl
            · rfl
          · refine .slice b _ _ _ _ _ hb (by omega) fun hpos => ?_
            have hc3 := hcap (by omega)
            clear hcap
            obtain ⟨o', rfl, ho, hc2⟩ := hc3
            rw [if_neg (by omega)]
            refine ⟨o' + l * j.size, addr_add _ _ _, ?_, ?_⟩
            · intro hp2
              rw [ho (by omega)]
              omega
            · have : l * j.size + (cap - l) * j.size = cap * j.size := by rw [← Nat.add_mul]; congr 1; omega
              omega
        · cases hx
      · cases hx
    · cases hx
  · cases hx

theorem op_sliceStr {x : Operand} {lo hi : Option Operand} {s : TypeId} (hr : Rel ι h w) (he : ERel ι h.length t ρ) (hox : operOk x = true) (ol : ∀ x, lo = some x → operOk x = true) (oh : ∀ x, hi = some x → operOk x = true)
    (hs : P.underlying s = some .string) (hx : aOp (.sliceStr x lo hi) t h = some (v, h')) :
    Does P (execOp ρ ⟨d, .slice s x lo hi none, ty, pos, af, g⟩) ι h w v h' := by
  simp only [aOp] at hx
  have hxr := he x hox
  split at hx
  · rename_i str heq
    rw [heq] at hxr
    split at hx
    · rename_i hh hb1
      split at hx
      · rename_i l hb2
        injection hx with hx
        injection hx with h1 h2
        subst h1 h2
        obtain ⟨hrun, q1, q2⟩ := bounds_sound (P := P) (w := w) (isSlice := false) he ol oh (Nat.le_refl str.size) hb1 hb2
        refine Does.pure hr (v' := .string (str.extract l hh)) ?_ (.string _)
        rw [hxr.string_inv]
        simp only [Instr.sliceAt, Sem.run_bind, run_under hs, Result.andThen_ok, Instr.slice, Option.map_none, Option.isSome_none, Bool.false_eq_true, if_false, hrun, Sem.run_pure]
      · cases hx
    · cases hx
  · cases hx

theorem op_sliceArr {x : Operand} {lo hi : Option Operand} {s e : TypeId} {n : Nat} {j : TypeInfo} (hr : Rel ι h w) (he : ERel ι h.length t ρ) (hox : operOk x = true) (ol : ∀ x, lo = some x → operOk x = true) (oh : ∀ x, hi = some x → operOk x = true)
    (hs : P.underlying s = some (.array n e)) (hj : P.info? e = some j) (hx : aOp (.sliceArr n j.size x lo hi) t h = some (v, h')) :
    Does P (execOp ρ ⟨d, .slice s x lo hi none, ty, pos, af, g⟩) ι h w v h' := by
  simp only [aOp] at hx
  have hxr := he x hox
  split at hx
  · rename_i b o heq
    rw [heq] at hxr
    obtain ⟨hb, hp⟩ := hxr.ptr_inv
    split at hx
    · rename_i ro cs hcs
      split at hx
      · rename_i hle
        split at hx
        · rename_i hh hb1
          split at hx
          · rename_i l hb2
            injection hx with hx
            injection hx with h1 h2
            subst h1 h2
            obtain ⟨hrun, q1, q2⟩ := bounds_sound (P := P) (w := w) (isSlice := false) he ol oh (Nat.le_refl n) hb1 hb2
            have hfit := hr.fits b ro cs hcs
            refine Does.pure hr (v' := .slice (some ⟨(ι b).blk, if n = l then (ι b).off + o else (ι b).off + o + l * j.size, none⟩) (hh - l) (n - l)) ?_ ?_
            · rw [hp]
              simp only [Instr.sliceAt, Sem.run_bind, run_under hs, Result.andThen_ok, Instr.sureAddr, pure_bind, Option.map_none, hrun, run_size hj, Sem.run_pure]
              split
              · rfl
              · simp [addr_add]
            · refine .mkSlice b _ _ _ _ _ hb ?_ (by omega) ?_
              · intro hpos
                rw [if_neg (by omega)]
                omega
              · split
                · rename_i hcl
                  subst hcl
                  simp
                  have : 0 ≤ n * j.size := Nat.zero_le _
                  omega
                · have : l * j.size + (n - l) * j.size = n * j.size := by rw [← Nat.add_mul]; congr 1; omega
                  omega
          · cases hx
        · cases hx
      · cases hx
    · cases hx
  · cases hx

theorem op_func {fn : Fn} {f c : Array Operand} (hr : Rel ι h w) (he : ERel ι h.length t ρ) (hf : ∀ x ∈ f.toList, operOk x = true) (hc : ∀ x ∈ c.toList, operOk x = true) (hx : aOp (.func fn f.toList c.toList) t h = some (v, h')) :
    Does P (execOp ρ ⟨d, .makeFunc fn f c, ty, pos, af, g⟩) ι h w v h' := by
  simp only [aOp] at hx
  injection hx with hx
  injection hx with h1 h2
  subst h1 h2
  have key : ∀ (l : Array Operand), (∀ x ∈ l.toList, operOk x = true) → ∀ i, VRel ι h.length ((l.toList.map (Ev t)).toArray.getD i undef) ((l.map ρ).getD i undef) := by
    intro l hl i
    rcases Nat.lt_or_ge i l.size with h1 | h1
    · have e1 : (l.toList.map (Ev t)).toArray.getD i undef = Ev t l[i] := by simp [Array.getD, h1]
      have e2 : (l.map ρ).getD i undef = ρ l[i] := by simp [Array.getD, h1]
      rw [e1, e2]
      exact he _ (hl _ (by simp))
    · have e1 : (l.toList.map (Ev t)).toArray.getD i undef = undef := by simp [Array.getD, Nat.not_lt.2 h1]
      have e2 : (l.map ρ).getD i undef = undef := by simp [Array.getD, Nat.not_lt.2 h1]
      rw [e1, e2]
      exact .undef
  refine Does.pure hr (v' := .func fn (f.map ρ) (c.map ρ)) rfl (.func _ _ _ _ _ (by simp) (by simp) (key f hf) (key c hc))

theorem op_bin {op : BinOp} {x y : Operand} {e e' : TypeId} (hr : Rel ι h w) (he : ERel ι h.length t ρ) (hox : operOk x = true) (hoy : operOk y = true) (hx : aOp (.bin op x y) t h = some (v, h')) :
    Does P (execOp ρ ⟨d, .binOp op e x y e', ty, pos, af, g⟩) ι h w v h' := by
  simp only [aOp, Option.map_eq_some_iff] at hx
  obtain ⟨v1, hv, hx⟩ := hx
  injection hx with h1 h2
  subst h1 h2
  obtain ⟨q1, q2⟩ := aBin_sound (P := P) (w := w) (ty := e) (ox := x) (oy := y) hv (he x hox) (he y hoy)
  exact Does.pure hr q1 q2

theorem op_binB {op : BinOp} {x y : Operand} {e e' : TypeId} (hr : Rel ι h w) (he : ERel ι h.length t ρ) (hox : operOk x = true) (hoy : operOk y = true) (hu : P.underlying e = some .bool) (hx : aOp (.binB op x y) t h = some (v, h')) :
    Does P (execOp ρ ⟨d, .binOp op e x y e', ty, pos, af, g⟩) ι h w v h' := by
  simp only [aOp, Option.map_eq_some_iff] at hx
  obtain ⟨v1, hv, hx⟩ := hx
  injection hx with h1 h2
  subst h1 h2
  obtain ⟨q1, q2⟩ := aBinB_sound (P := P) (w := w) (ty := e) (ox := x) (oy := y) hu hv (he x hox) (he y hoy)
  exact Does.pure hr q1 q2

theorem op_eqv {neg : Bool} {ks : List CK} {x y : Operand} {e e' : TypeId} (hr : Rel ι h w) (he : ERel ι h.length t ρ) (hox : operOk x = true) (hoy : operOk y = true)
    (hk : plainKinds P 8 e = some ks) (hg : P.eqGuardType P.depth e = false) (ha : isAggT P e = true) (hx : aOp (.eqv neg ks x y) t h = some (v, h')) :
    Does P (execOp ρ ⟨d, .binOp (if neg then .neq else .eql) e x y e', ty, pos, af, g⟩) ι h w v h' := by
  simp only [aOp, Option.map_eq_some_iff] at hx
  obtain ⟨v1, hv, hx⟩ := hx
  injection hx with h1 h2
  subst h1 h2
  exact Does.pure hr (aEq_sound (P := P) (w := w) (ox := x) (oy := y) hk hg ha hv (he x hox) (he y hoy) neg) (.bool _)

theorem equalIn_slice_nil (D : Nat) {e : TypeId} {el : TypeId} (hu : P.underlying e = some (.slice el)) (a : Option Addr) (n m : Nat) : (Op.equalIn (D + 1) e (.slice a n m) (.slice none 0 0)).run P w = .ok a.isNone w := by
  simp only [Op.equalIn, Sem.run_bind, run_under hu, Result.andThen_ok]
  cases a <;> rfl

theorem equalIn_nil_slice (D : Nat) {e : TypeId} {el : TypeId} (hu : P.underlying e = some (.slice el)) (a : Option Addr) (n m : Nat) : (Op.equalIn (D + 1) e (.slice none 0 0) (.slice a n m)).run P w = .ok a.isNone w := by
  simp only [Op.equalIn, Sem.run_bind, run_under hu, Result.andThen_ok]
  cases a <;> rfl

theorem equal_slice_nil {e : TypeId} {el : TypeId} (hu : P.underlying e = some (.slice el)) (a : Option Addr) (n m : Nat) : (Op.equal e (.slice a n m) (.slice none 0 0)).run P w = .ok a.isNone w :=
  equalIn_slice_nil 9999 hu a n m

theorem equal_nil_slice {e : TypeId} {el : TypeId} (hu : P.underlying e = some (.slice el)) (a : Option Addr) (n m : Nat) : (Op.equal e (.slice none 0 0) (.slice a n m)).run P w = .ok a.isNone w :=
  equalIn_nil_slice 9999 hu a n m

theorem op_nilv {neg left : Bool} {x : Operand} {e e' el : TypeId} (hr : Rel ι h w) (he : ERel ι h.length t ρ) (hox : operOk x = true) (hu : P.underlying e = some (.slice el)) (hρ : ∀ v, ρ (.const v) = v)
    (hx : aOp (.nilv neg x) t h = some (v, h')) :
    Does P (execOp ρ ⟨d, .binOp (if neg then .neq else .eql) e (if left then .const (.slice none 0 0) else x) (if left then x else .const (.slice none 0 0)) e', ty, pos, af, g⟩) ι h w v h' := by
  have hxr := he x hox
  have key : ∀ (a : Option Addr) (n m : Nat), ρ x = .slice a n m → (do eqGuard (if neg then .neq else .eql) e (if left then .const (.slice none 0 0) else x) (if left then x else .const (.slice none 0 0)) (ρ (if left then .const (.slice none 0 0) else x)) (ρ (if left then x else .const (.slice none 0 0))); binOp (if neg then .neq else .eql) e (ρ (if left then .const (.slice none 0 0) else x)) (ρ (if left then x else .const (.slice none 0 0))) : Sem Value).run P w = .ok (.bool (neg != a.isNone)) w := by
    intro a n m hp
    cases left <;> cases neg <;> simp only [Bool.false_eq_true, if_false, if_true, hp, hρ, eqGuard_at_slice, pure_bind, binOp, Sem.run_bind, equal_slice_nil hu, equal_nil_slice hu, Result.andThen_ok, Sem.run_pure] <;> simp
  simp only [aOp] at hx
  split at hx
  · rename_i n m heq
    injection hx with hx
    injection hx with h1 h2
    subst h1 h2
    rw [heq] at hxr
    obtain ⟨_, _, hp⟩ := hxr.nilSlice_inv
    exact Does.pure hr (key none 0 0 hp) (.bool _)
  · rename_i a n m heq
    injection hx with hx
    injection hx with h1 h2
    subst h1 h2
    rw [heq] at hxr
    generalize hy : ρ x = y at hxr
    cases hxr with
    | slice b o len s a cap hb hl hc => exact Does.pure hr (key _ _ _ hy) (.bool _)
  · cases hx

end
end Go.Wb

/- '==' of structs and arrays, cell by cell. -/
import Derived.Test.YtihcipgcknjkbaaWbSound1
import Derived.Laws.StructEq
namespace Go.Wb
open Go
section
variable {P : Program} {w : World}

theorem eqCells_length {ks : List CK} : ∀ {xs ys : List Value} {r : Bool}, eqCells ks xs ys = some r → xs.length = ks.length ∧ ys.length = ks.length := by
  induction ks with
  | nil =>
    intro xs ys r h
    cases xs <;> cases ys <;> simp_all [eqCells]
  | cons k ks ih =>
    intro xs ys r h
    cases xs with
    | nil => cases ys <;> simp [eqCells] at h
    | cons x xs =>
      cases ys with
      | nil => simp [eqCells] at h
      | cons y ys =>
        simp only [eqCells] at h
        split at h
        · rename_i h2
          have := ih h2
          simp [this]
        · cases h

theorem eqCells_append {ks : List CK} : ∀ {ls : List CK} {xs ys : List Value} {r : Bool}, eqCells (ks ++ ls) xs ys = some r →
    ∃ r1 r2, eqCells ks (xs.take ks.length) (ys.take ks.length) = some r1 ∧ eqCells ls (xs.drop ks.length) (ys.drop ks.length) = some r2 ∧ r = (r1 && r2) := by
  induction ks with
  | nil =>
    intro ls xs ys r h
    exact ⟨true, r, by simp [eqCells], by simpa using h, by simp⟩
  | cons k ks ih =>
    intro ls xs ys r h
    cases xs with
    | nil => cases ys <;> simp [eqCells] at h
    | cons x xs =>
      cases ys with
      | nil => simp [eqCells] at h
      | cons y ys =>
        simp only [List.cons_append, eqCells] at h
        split at h
        · rename_i a b h1 h2
          injection h with h
          obtain ⟨r1, r2, g1, g2, g3⟩ := ih h2
          refine ⟨a && r1, r2, ?_, by simpa using g2, ?_⟩
          · simp [eqCells, h1, g1]
          · subst h g3
            rw [Bool.and_assoc]
        · cases h

abbrev isAggT := isAggC

def asVal (b : Bool) (l : List Value) : Value := if b then .agg l.toArray else l.headD undef

theorem run_isAgg {t : TypeId} {d : TypeDesc} (hd : P.underlying t = some d) : (Go.isAgg t).run P w = .ok (isAggT P t) w := by
  unfold Go.isAgg isAggT isAggC
  simp only [Sem.run_bind, run_under hd, Result.andThen_ok]
  rw [hd]
  cases d <;> rfl

theorem run_part {t : TypeId} {i : TypeInfo} {d : TypeDesc} (hd : P.underlying t = some d) (hi : P.info? t = some i) (cs : Array Value) (off : Nat) (h1 : 1 ≤ i.size) (hl : off + i.size ≤ cs.size) :
    (part t cs off).run P w = .ok (asVal (isAggT P t) ((cs.toList.drop off).take i.size)) w := by
  unfold part asVal
  simp only [Sem.run_bind, run_isAgg hd, Result.andThen_ok]
  cases isAggT P t with
  | true =>
    simp only [if_true, Sem.run_bind, run_size hi, Result.andThen_ok, Sem.run_pure]
    congr 2
    apply Array.ext'
    simp [Array.toList_extract, List.take_drop]
  | false =>
    simp only [Bool.false_eq_true, if_false]
    have hlt : off < cs.size := by omega
    have : cs[off]? = some cs[off] := Array.getElem?_eq_getElem hlt
    rw [this]
    simp only [Sem.run_pure]
    congr 1
    obtain ⟨m, hm⟩ : ∃ m, i.size = m + 1 := ⟨i.size - 1, by omega⟩
    rw [hm, List.drop_eq_getElem_cons (by simpa using hlt)]
    simp

theorem eqFields_run {recK : TypeId → Option (List CK)} {D : Nat}
    (ih : ∀ t ks xs ys r, recK t = some ks → eqCells ks xs ys = some r → (Op.equalIn D t (asVal (isAggT P t) xs) (asVal (isAggT P t) ys)).run P w = .ok r w)
    (hu : ∀ t ks, recK t = some ks → (P.underlying t).isSome) (xs ys : Array Value) :
    ∀ (fs : List Field) (off : Nat) (ks : List CK) (r : Bool), fieldsKinds P recK off fs = some ks → eqCells ks (xs.toList.drop off) (ys.toList.drop off) = some r →
      (Op.eqFields D xs ys fs).run P w = .ok r w
  | [], off, ks, r, hk, he => by
    simp only [fieldsKinds] at hk
    injection hk with hk
    subst hk
    have hl := eqCells_length he
    have e1 : xs.toList.drop off = [] := List.eq_nil_of_length_eq_zero (by simpa using hl.1)
    have e2 : ys.toList.drop off = [] := List.eq_nil_of_length_eq_zero (by simpa using hl.2)
    rw [e1, e2] at he
    simp only [eqCells] at he
    injection he with he
    subst he
    simp [Op.eqFields]
  | f :: fs, off, ks, r, hk, he => by
    simp only [fieldsKinds] at hk
    split at hk
    · rename_i hof
      obtain ⟨ho, hn⟩ := hof
      split at hk
      · rename_i k1 i h1 h2
        split at hk
        · rename_i hsz
          rw [Option.map_eq_some_iff] at hk
          obtain ⟨k2, h3, h4⟩ := hk
          subst h4
          obtain ⟨r1, r2, g1, g2, g3⟩ := eqCells_append he
          rw [List.drop_drop] at g2
          rw [List.drop_drop] at g2
          have hl := eqCells_length he
          simp only [List.length_append, List.length_drop, Array.length_toList] at hl
          obtain ⟨d, hd⟩ := Option.isSome_iff_exists.1 (hu _ _ h1)
          have p1 := run_part (w := w) hd h2 xs f.offset hsz.2 (by omega)
          have p2 := run_part (w := w) hd h2 ys f.offset hsz.2 (by omega)
          rw [hsz.1, ho] at p1 p2
          have he1 := ih f.type k1 _ _ r1 h1 g1
          have hrest := eqFields_run ih hu xs ys fs (off + k1.length) k2 r2 h3 g2
          simp only [Op.eqFields, if_pos hn, Sem.run_bind, ho, p1, p2, he1, Result.andThen_ok, Sem.run_ite, Sem.run_pure, hrest, g3]
          cases r1 <;> simp
        · cases hk
      · cases hk
    · cases hk

theorem equalIn_array {D : Nat} {t e : TypeId} {n : Nat} {i : TypeInfo} (ht : P.underlying t = some (.array n e)) (hi : P.info? e = some i) {d : TypeDesc} (hd : P.underlying e = some d) (h1 : 1 ≤ i.size)
    {ks : List CK} (hk : i.size = ks.length)
    (ih : ∀ xs ys r, eqCells ks xs ys = some r → (Op.equalIn D e (asVal (isAggT P e) xs) (asVal (isAggT P e) ys)).run P w = .ok r w)
    (xs ys : Array Value) (r : Bool) (he : eqCells (List.replicate n ks).flatten xs.toList ys.toList = some r) :
    (Op.equalIn (D + 1) t (.agg xs) (.agg ys)).run P w = .ok r w := by
  simp only [Op.equalIn, Sem.run_bind, run_under ht, Result.andThen_ok, run_size hi]
  rw [Std.Legacy.Range.forIn_eq_forIn_range']
  simp only [Std.Legacy.Range.size, Nat.sub_zero, Nat.add_sub_cancel, Nat.div_one]
  · have key : ∀ (m k : Nat) (r : Bool), eqCells (List.replicate m ks).flatten (xs.toList.drop (k * i.size)) (ys.toList.drop (k * i.size)) = some r →
        ((forIn (List.range' k m 1) ((none, ()) : Option Bool × Unit) fun i_1 _ => do
          let a ← part e xs (i_1 * i.size)
          let b ← part e ys (i_1 * i.size)
          let r ← Op.equalIn D e a b
          if (!r) = true then Pure.pure (ForInStep.done (some false, ())) else Pure.pure (ForInStep.yield (none, ()))) : Sem _).run P w = .ok (if r then (none, ()) else (some false, ())) w := by
      intro m
      induction m with
      | zero =>
        intro k r h
        simp only [List.replicate_zero, List.flatten_nil] at h
        have hl := eqCells_length h
        have e1 : xs.toList.drop (k * i.size) = [] := List.eq_nil_of_length_eq_zero (by simpa using hl.1)
        have e2 : ys.toList.drop (k * i.size) = [] := List.eq_nil_of_length_eq_zero (by simpa using hl.2)
        rw [e1, e2] at h
        simp only [eqCells] at h
        injection h with h
        subst h
        simp
      | succ m ihm =>
        intro k r h
        rw [List.replicate_succ, List.flatten_cons] at h
        obtain ⟨r1, r2, g1, g2, g3⟩ := eqCells_append h
        rw [List.drop_drop] at g2
        rw [List.drop_drop] at g2
        have hl := eqCells_length h
        simp only [List.length_append, List.length_drop, Array.length_toList] at hl
        have p1 := run_part (w := w) hd hi xs (k * i.size) h1 (by omega)
        have p2 := run_part (w := w) hd hi ys (k * i.size) h1 (by omega)
        rw [← hk] at g1 g2
        have e1 := ih _ _ r1 (by rw [← hk] at *; exact g1)
        rw [List.range'_succ, List.forIn_cons]
        have hnext := ihm (k + 1) r2 (by rw [Nat.succ_mul]; exact g2)
        subst g3
        simp only [Sem.run_bind, p1, p2, e1, Result.andThen_ok, Sem.run_ite, Sem.run_pure]
        cases r1
        · simp
        · simpa using hnext
    have := key n 0 r (by simpa using he)
    simp only [this, Result.andThen_ok]
    cases r <;> simp
theorem eqCells_one {k : CK} {xs ys : List Value} {r : Bool} (h : eqCells [k] xs ys = some r) : ∃ x y, xs = [x] ∧ ys = [y] ∧ eqCell k x y = some r := by
  have hl := eqCells_length h
  match xs, ys, hl, h with
  | [x], [y], _, h =>
    simp only [eqCells] at h
    split at h
    · rename_i a b h1 h2
      injection h2 with h2
      injection h with h
      subst h2
      subst h
      exact ⟨x, y, rfl, rfl, by rw [Bool.and_true]; exact h1⟩
    · cases h

theorem plainKinds_under {d : Nat} {t : TypeId} {ks : List CK} (h : plainKinds P d t = some ks) : (P.underlying t).isSome := by
  cases d with
  | zero => cases h
  | succ d =>
    simp only [plainKinds] at h
    split at h <;> first | (cases h; done) | simp [*]

theorem equalIn_plain : ∀ (d D : Nat) (t : TypeId) (ks : List CK) (xs ys : List Value) (r : Bool), plainKinds P d t = some ks → d ≤ D → eqCells ks xs ys = some r →
    (Op.equalIn D t (asVal (isAggT P t) xs) (asVal (isAggT P t) ys)).run P w = .ok r w := by
  intro d
  induction d with
  | zero => intro D t ks xs ys r h; cases h
  | succ d ih =>
    intro D t ks xs ys r h hD he
    obtain ⟨D, rfl⟩ : ∃ m, D = m + 1 := ⟨D - 1, by omega⟩
    simp only [plainKinds] at h
    split at h
    · rename_i hu
      injection h with h
      subst h
      obtain ⟨x, y, rfl, rfl, hc⟩ := eqCells_one he
      have ha : isAggT P t = false := by simp [isAggT, isAggC, hu]
      rw [ha]
      unfold eqCell at hc
      split at hc <;> first | (cases hc; done) | skip
      all_goals (first | contradiction | skip)
      · injection hc with hc
        subst hc
        simpa [asVal] using equalIn_bool D _ _ hu
    · rename_i k hu
      injection h with h
      subst h
      obtain ⟨x, y, rfl, rfl, hc⟩ := eqCells_one he
      have ha : isAggT P t = false := by simp [isAggT, isAggC, hu]
      rw [ha]
      unfold eqCell at hc
      split at hc <;> first | (cases hc; done) | skip
      all_goals (first | contradiction | skip)
      · split at hc
        · rename_i hk
          subst hk
          injection hc with hc
          subst hc
          simpa [asVal] using run_equalIn_int w D t _ _ _ _ hu
        · cases hc
    · rename_i hu
      injection h with h
      subst h
      obtain ⟨x, y, rfl, rfl, hc⟩ := eqCells_one he
      have ha : isAggT P t = false := by simp [isAggT, isAggC, hu]
      rw [ha]
      unfold eqCell at hc
      split at hc <;> first | (cases hc; done) | skip
      all_goals (first | contradiction | skip)
      · injection hc with hc
        subst hc
        simpa [asVal] using run_equalIn_string w D t _ _ hu
    · rename_i fs hu
      split at h
      · rename_i hst
        have ha : isAggT P t = true := by simp [isAggT, isAggC, hu]
        have hf : P.fieldsOf t = fs := by simp [Program.fieldsOf, hu]
        rw [ha]
        simp only [asVal, if_true]
        rw [run_equalIn_struct w D t _ _ (by rw [hf]; exact hu) hst, hf]
        exact eqFields_run (fun t ks xs ys r hk hc => ih D t ks xs ys r hk (by omega) hc) (fun t ks hk => plainKinds_under hk) xs.toArray ys.toArray fs.toList 0 ks r h (by simpa using he)
      · cases h
    · rename_i n e hu
      split at h
      · rename_i k1 i h1 h2
        split at h
        · rename_i hs
          injection h with h
          subst h
          have ha : isAggT P t = true := by simp [isAggT, isAggC, hu]
          rw [ha]
          simp only [asVal, if_true]
          obtain ⟨de, hde⟩ := Option.isSome_iff_exists.1 (plainKinds_under h1)
          exact equalIn_array hu h2 hde hs.2 hs.1 (fun xs ys r hc => ih D e k1 xs ys r h1 (by omega) hc) xs.toArray ys.toArray r (by simpa using he)
        · cases h
      · cases h
    · cases h

/-- Cells that are compared are the same in the model. -/
theorem eqCells_same {ι : Inj} {n : Nat} {ks : List CK} : ∀ {xs ys xs' ys' : List Value} {r : Bool}, eqCells ks xs ys = some r → CRel ι n xs xs' → CRel ι n ys ys' → xs' = xs ∧ ys' = ys := by
  induction ks with
  | nil =>
    intro xs ys xs' ys' r h h1 h2
    have hl := eqCells_length h
    have e1 : xs = [] := List.eq_nil_of_length_eq_zero hl.1
    have e2 : ys = [] := List.eq_nil_of_length_eq_zero hl.2
    subst e1 e2
    exact ⟨List.eq_nil_of_length_eq_zero (h1.1.symm), List.eq_nil_of_length_eq_zero (h2.1.symm)⟩
  | cons k ks ih =>
    intro xs ys xs' ys' r h h1 h2
    cases xs with
    | nil => cases ys <;> simp [eqCells] at h
    | cons x xs =>
      cases ys with
      | nil => simp [eqCells] at h
      | cons y ys =>
        cases xs' with
        | nil => have := h1.1; simp at this
        | cons x' xs' =>
          cases ys' with
          | nil => have := h2.1; simp at this
          | cons y' ys' =>
            simp only [eqCells] at h
            split at h
            · rename_i a b g1 g2
              have t1 : CRel ι n xs xs' := ⟨by simpa using h1.1, fun i => by simpa using h1.2 (i + 1)⟩
              have t2 : CRel ι n ys ys' := ⟨by simpa using h2.1, fun i => by simpa using h2.2 (i + 1)⟩
              obtain ⟨e1, e2⟩ := ih g2 t1 t2
              subst e1 e2
              have u1 : VRel ι n x x' := by simpa using h1.2 0
              have u2 : VRel ι n y y' := by simpa using h2.2 0
              unfold eqCell at g1
              split at g1
              · rw [u1.bool_inv, u2.bool_inv]; exact ⟨rfl, rfl⟩
              · rw [u1.int_inv, u2.int_inv]; exact ⟨rfl, rfl⟩
              · rw [u1.string_inv, u2.string_inv]; exact ⟨rfl, rfl⟩
              · cases g1
            · cases h

theorem aEq_sound {ι : Inj} {n : Nat} {ks : List CK} {x y x' y' : Value} {ty : TypeId} {r : Bool} {ox oy : Operand} (hk : plainKinds P 8 ty = some ks) (hg : P.eqGuardType P.depth ty = false) (ha : isAggT P ty = true)
    (hx : aEq ks x y = some r) (h1 : VRel ι n x x') (h2 : VRel ι n y y') (neg : Bool) :
    (do eqGuard (if neg then .neq else .eql) ty ox oy x' y'; binOp (if neg then .neq else .eql) ty x' y' : Sem Value).run P w = .ok (.bool (neg != r)) w := by
  unfold aEq at hx
  split at hx
  · rename_i a b
    obtain ⟨a', rfl, r1, _⟩ := h1.agg_inv
    obtain ⟨b', rfl, r2, _⟩ := h2.agg_inv
    obtain ⟨e1, e2⟩ := eqCells_same hx r1 r2
    have e1 : a' = a := Array.ext' e1
    have e2 : b' = b := Array.ext' e2
    subst e1 e2
    have hE := equalIn_plain (w := w) 8 10000 ty ks _ _ r hk (by omega) hx
    rw [ha] at hE
    simp only [asVal, if_true, Array.toArray_toList] at hE
    simp only [Sem.run_bind, run_eqGuard_agg w _ _ _ _ _ _ hg, Result.andThen_ok]
    cases neg
    · simp only [Bool.false_eq_true, if_false, run_eql_struct, hE, Result.andThen_ok]
      simp
    · simp only [if_true, run_neq_struct, hE, Result.andThen_ok]
      simp
  · cases hx

end
end Go.Wb

/- Chapter 11: extension headers are gone over as they were written: the plain law. -/
import Derived.Test.YtlbekhmgpfbgnaaWbvP11r
import Derived.Test.YtlbekhmgpfbgnaaWbvP11k
set_option maxRecDepth 100000
set_option linter.all false
namespace Go.Wb.P11
open Go Go.Wb Go.Wb.Code Go.Wb.P01
abbrev Ex := List (Int × List Nat)
def xAt (X : Ex) (i : Nat) : Int × List Nat := X.getD i (0, [])
def posX (X : Ex) : Nat → Nat
 | 0 => 0
 | i + 1 => posX X i + ((xAt X i).2.length + 2)
def flX (X : Ex) (pr : Int) : Nat → List Nat
 | 0 => []
 | i + 1 => flX X pr i ++ hdrX X pr i
def partsX (X : Ex) : Nat → List (Int × Nat × Nat)
 | 0 => []
 | i + 1 => partsX X i ++ [((xAt X i).1, posX X i, (xAt X i).2.length + 2)]
def fragX (X : Ex) : Nat → Int
 | 0 => -1
 | i + 1 => if (xAt X i).1 = 44 then (i : Int) else fragX X i
def stX (X : Ex) (pr : Int) (i : Nat) : St := ⟨partsX X i, fragX X i, (kindsX X pr).getD i 0, posX X i, false, false⟩
def offB (b : List Nat) : Nat := b.getD 0 0 * 256 + b.getD 1 0
def stopX (X : Ex) (i : Nat) : Prop := (xAt X i).1 = 44 ∧ 8 ≤ offB (xAt X i).2
instance (X : Ex) (i : Nat) : Decidable (stopX X i) := by unfold stopX; exact inferInstance
structure Wrote (X : Ex) (pr : Int) : Prop where
 n : X.length ≤ 8
 p0 : 0 ≤ pr
 p1 : pr ≤ 255
 p2 : isX pr = false
 err : ∀ i, i < X.length → errX X i = 0
theorem xAt_get {X : Ex} {i : Nat} (h : i < X.length) : X[i]? = some (xAt X i) := by
 unfold xAt
 rw [List.getD_eq_getElem?_getD, List.getElem?_eq_getElem h]
 rfl
theorem parts_len {X : Ex} : ∀ {i : Nat}, (partsX X i).length = i
 | 0 => rfl
 | i + 1 => by unfold partsX; rw [List.length_append, parts_len]; rfl
theorem parts_at {X : Ex} : ∀ {i j : Nat}, j < i → (partsX X i)[j]? = some ((xAt X j).1, posX X j, (xAt X j).2.length + 2)
 | i + 1, j, h => by
   unfold partsX
   by_cases hj : j < i
   ·rw [List.getElem?_append_left (by rw [parts_len]; exact hj)]
    exact parts_at hj
   ·have : j = i := by omega
    subst this
    rw [List.getElem?_append_right (by rw [parts_len]; exact Nat.le_refl _), parts_len, Nat.sub_self]
    rfl
theorem hdr_len {X : Ex} {pr : Int} {i : Nat} (h : i < X.length) : (hdrX X pr i).length = (xAt X i).2.length + 2 := by
 unfold hdrX
 rw [xAt_get h]
 simp
theorem fl_len {X : Ex} {pr : Int} : ∀ {i : Nat}, i ≤ X.length → (flX X pr i).length = posX X i
 | 0, _ => rfl
 | i + 1, h => by
   unfold flX posX
   rw [List.length_append, fl_len (by omega), hdr_len (by omega)]
theorem fl_pre {X : Ex} {pr : Int} {i : Nat} : ∀ {j : Nat}, i ≤ j → ∃ R, flX X pr j = flX X pr i ++ R
 | 0, h => ⟨[], by have : i = 0 := by omega
                   subst this; rfl⟩
 | j + 1, h => by
   by_cases hj : i ≤ j
   ·obtain ⟨R, hR⟩ := fl_pre hj
    exact ⟨R ++ hdrX X pr j, by rw [flX, hR, List.append_assoc]⟩
   ·have : i = j + 1 := by omega
    subst this
    exact ⟨[], by simp⟩
theorem pos_mono {X : Ex} {i : Nat} : ∀ {j : Nat}, i ≤ j → posX X i ≤ posX X j
 | 0, h => by have : i = 0 := by omega
              subst this; exact Nat.le_refl _
 | j + 1, h => by
   by_cases hj : i ≤ j
   ·have := pos_mono (X := X) hj
    rw [show posX X (j + 1) = posX X j + ((xAt X j).2.length + 2) from rfl]
    omega
   ·have : i = j + 1 := by omega
    subst this
    exact Nat.le_refl _
theorem pos_le {X : Ex} {pr : Int} (w : Wrote X pr) : ∀ {i : Nat}, i ≤ X.length → posX X i ≤ i * 2048
 | 0, _ => by unfold posX; omega
 | i + 1, h => by
   have := pos_le w (i := i) (by omega)
   have hf := err_form (by omega) (w.err i (by omega))
   have := form_le hf
   have hx := xAt_get (X := X) (i := i) (by omega)
   rw [List.getElem?_eq_getElem (by omega)] at hx
   injection hx with hx
   rw [hx] at this
   unfold posX
   omega
theorem wrX_ok (X : Ex) (pr : Int) : ∀ (m i : Nat), (wrX X pr m i (flX X pr i)).2.1 = 0 → (wrX X pr m i (flX X pr i)).1 = flX X pr (i + m) ∧ ∀ j, i ≤ j → j < i + m → errX X j = 0
 | 0, i, h => ⟨rfl, fun j h1 h2 => by omega⟩
 | m + 1, i, h => by
   unfold wrX at h ⊢
   by_cases he : errX X i = 0
   ·rw [if_pos he] at h ⊢
    have e1 : flX X pr i ++ hdrX X pr i = flX X pr (i + 1) := rfl
    rw [e1] at h ⊢
    obtain ⟨g1, g2⟩ := wrX_ok X pr m (i + 1) h
    refine ⟨by rw [g1]; congr 1; omega, fun j h1 h2 => ?_⟩
    by_cases hj : j = i
    ·rw [hj]; exact he
    ·exact g2 j (by omega) (by omega)
   ·rw [if_neg he] at h
    exact absurd h he
theorem writeX_ok {X : Ex} {pr : Int} (h : (writeX X pr).2.1 = 0) : Wrote X pr ∧ (writeX X pr).1 = flX X pr X.length := by
 unfold writeX at h ⊢
 split at h
 ·cases h
 ·rename_i h1
  rw [if_neg h1]
  split at h
  ·cases h
  ·rename_i h2
   rw [if_neg h2]
   obtain ⟨g1, g2⟩ := wrX_ok X pr X.length 0 h
   refine ⟨⟨by omega, by by_cases hp : pr < 0; exact absurd (.inl hp) h1; omega, by by_cases hp : 255 < pr; exact absurd (.inr (.inl hp)) h1; omega, ?_, fun i hi => g2 i (Nat.zero_le _) (by omega)⟩, by rw [Nat.zero_add] at g1; exact g1⟩
   cases hx : isX pr with
   | false => rfl
   | true => exact absurd (.inr (.inr hx)) h1
theorem err_facts {X : Ex} {i : Nat} (hi : i < X.length) (h : errX X i = 0) : isX (xAt X i).1 = true ∧ formX (xAt X i).1 ((xAt X i).2.length + 2) = true ∧ ¬ ((xAt X i).1 = 0 ∧ 0 < i) ∧ ¬ ((xAt X i).1 = 44 ∧ 44 ∈ (X.take i).map (·.1)) := by
 unfold errX at h
 rw [xAt_get hi] at h
 simp only at h
 split at h
 ·cases h
 ·rename_i h1
  split at h
  ·cases h
  ·rename_i h2
   split at h
   ·cases h
   ·rename_i h3
    split at h
    ·cases h
    ·rename_i h4
     exact ⟨by simpa using h1, by simpa using h2, h3, h4⟩
theorem no_twice {X : Ex} {pr : Int} (w : Wrote X pr) {i j : Nat} (hij : j < i) (hi : i < X.length) (h : (xAt X i).1 = 44) : (xAt X j).1 ≠ 44 := by
 intro hj
 refine (err_facts hi (w.err i hi)).2.2.2 ⟨h, ?_⟩
 have : (X.take i)[j]? = some (xAt X j) := by rw [List.getElem?_take_of_lt hij]; exact xAt_get (by omega)
 exact List.mem_map.2 ⟨_, List.mem_of_getElem? this, hj⟩
theorem frag_cases (X : Ex) : ∀ i, (fragX X i = -1 ∧ ∀ j, j < i → (xAt X j).1 ≠ 44) ∨ (∃ j, j < i ∧ fragX X i = (j : Int) ∧ (xAt X j).1 = 44)
 | 0 => .inl ⟨rfl, fun j h => by omega⟩
 | i + 1 => by
   unfold fragX
   by_cases h : (xAt X i).1 = 44
   ·rw [if_pos h]
    exact .inr ⟨i, by omega, rfl, h⟩
   ·rw [if_neg h]
    rcases frag_cases X i with ⟨h1, h2⟩ | ⟨j, h1, h2, h3⟩
    ·refine .inl ⟨h1, fun j hj => ?_⟩
     by_cases hji : j = i
     ·rw [hji]; exact h
     ·exact h2 j (by omega)
    ·exact .inr ⟨j, by omega, h2, h3⟩
theorem kinds_at {X : Ex} {pr : Int} {i : Nat} (h : i < X.length) : (kindsX X pr).getD i 0 = (xAt X i).1 := by
 unfold kindsX
 rw [List.getD_eq_getElem?_getD, List.getElem?_append_left (by rw [List.length_map]; exact h), List.getElem?_map, xAt_get h]
 rfl
theorem kinds_end {X : Ex} {pr : Int} : (kindsX X pr).getD X.length 0 = pr := by
 unfold kindsX
 rw [List.getD_eq_getElem?_getD, List.getElem?_append_right (by rw [List.length_map]; exact Nat.le_refl _), List.length_map, Nat.sub_self]
 rfl
theorem isX_rng {k : Int} (h : isX k = true) : 0 ≤ k ∧ k < 256 := by
 unfold isX at h
 simp only [decide_eq_true_eq] at h
 omega
theorem kinds_rng {X : Ex} {pr : Int} (w : Wrote X pr) {i : Nat} (h : i ≤ X.length) : 0 ≤ (kindsX X pr).getD i 0 ∧ (kindsX X pr).getD i 0 < 256 := by
 by_cases hi : i < X.length
 ·rw [kinds_at hi]
  exact isX_rng (err_facts hi (w.err i hi)).1
 ·have : i = X.length := by omega
  subst this
  rw [kinds_end]
  have := w.p0; have := w.p1
  omega
theorem want_hdr {X : Ex} {pr : Int} (w : Wrote X pr) {i : Nat} (hi : i < X.length) {b : List Nat} (hb : b.getD 1 0 = (hdrX X pr i).getD 1 0) : wantX (xAt X i).1 b = (xAt X i).2.length + 2 := by
 obtain ⟨_, hf, _, _⟩ := err_facts hi (w.err i hi)
 have h1 : (hdrX X pr i).getD 1 0 = (lenI (xAt X i).1 ((xAt X i).2.length + 2) % 256).toNat := by
  unfold hdrX
  rw [xAt_get hi]
  rfl
 unfold wantX
 rw [hb, h1]
 generalize (xAt X i).1 = k at *
 generalize (xAt X i).2.length = n at *
 by_cases k4 : k = 44
 ·subst k4
  rw [form44] at hf
  rw [if_pos rfl]
  simp at hf
  omega
 ·rw [if_neg k4]
  by_cases k5 : k = 51
  ·subst k5
   rw [form51] at hf
   rw [if_pos rfl, lenI51]
   simp only [decide_eq_true_eq] at hf
   omega
  ·rw [form8 k4 k5] at hf
   rw [if_neg k5, lenI8 k4 k5]
   simp only [decide_eq_true_eq] at hf
   omega
theorem form_ge {k : Int} {n : Nat} (h : formX k n = true) : 8 ≤ n := by
 unfold formX at h
 split at h
 ·simp at h; omega
 ·split at h <;> simp at h <;> omega
end Go.Wb.P11

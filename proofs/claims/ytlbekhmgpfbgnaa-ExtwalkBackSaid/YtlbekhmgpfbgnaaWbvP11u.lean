/- Chapter 11: extension headers are gone over as they were written: what is told of them. -/
import Derived.Test.YtlbekhmgpfbgnaaWbvP11t
set_option maxRecDepth 100000
set_option linter.all false
namespace Go.Wb.P11
open Go Go.Wb Go.Wb.Code Go.Wb.P01
def upX (X : Ex) : Nat → Nat → Nat
 | 0, i => i
 | m + 1, i => if stopX X i then i + 1 else upX X m (i + 1)
theorem up_ok {X : Ex} : ∀ (m i : Nat), i + m = X.length → (∀ j, j < i → ¬ stopX X j) → Upto X (upX X m i)
 | 0, i, hm, h => ⟨by unfold upX; omega, fun j hj => h j (by unfold upX at hj; omega), .inl (by unfold upX; omega)⟩
 | m + 1, i, hm, h => by
   unfold upX
   by_cases hs : stopX X i
   ·rw [if_pos hs]
    exact ⟨by omega, fun j hj => h j (by omega), .inr ⟨by omega, by rw [Nat.add_sub_cancel]; exact hs⟩⟩
   ·rw [if_neg hs]
    exact up_ok m (i + 1) (by omega) fun j hj => by
     by_cases hji : j = i
     ·rw [hji]; exact hs
     ·exact h j (by omega)
theorem hopX_no : ∀ {l : List (Int × Nat × Nat)} {a : Nat} {h : Bool}, (∀ j p, l[j]? = some p → ¬ (p.1 = 0 ∧ 0 < a + j)) → hopX l a h = h
 | [], a, h, _ => rfl
 | p :: l, a, h, hh => by
   unfold hopX
   have h0 := hh 0 p rfl
   rw [hopX_no (l := l) (a := a + 1) (fun j q hq => by have := hh (j + 1) q (by simpa using hq); rw [show a + 1 + j = a + (j + 1) by omega]; exact this)]
   by_cases h1 : p.1 = 0
   ·have : a = 0 := by
     by_cases ha : a = 0
     ·exact ha
     ·exact absurd ⟨h1, by omega⟩ h0
    subst this
    simp
   ·simp [h1]
theorem twX_no {fr : Int} : ∀ {l : List (Int × Nat × Nat)} {a : Nat} {t : Bool}, (∀ j p, l[j]? = some p → p.1 = 44 → ((a + j : Nat) : Int) = fr) → twX fr l a t = t
 | [], a, t, _ => rfl
 | p :: l, a, t, hh => by
   unfold twX
   have h0 := hh 0 p rfl
   rw [twX_no (l := l) (a := a + 1) (fun j q hq hk => by have := hh (j + 1) q (by simpa using hq) hk; rw [show a + 1 + j = a + (j + 1) by omega]; exact this)]
   by_cases h1 : p.1 = 44
   ·have := h0 h1
    simp only [Nat.add_zero] at this
    simp [this]
   ·simp [h1]
theorem st_hop {X : Ex} {pr : Int} (w : Wrote X pr) {k : Nat} (hk : k ≤ X.length) : hopX (partsX X k) 0 false = false := by
 refine hopX_no fun j p hp h => ?_
 have hj : j < k := by
  have := (List.getElem?_eq_some_iff.1 hp).1
  rw [parts_len] at this
  exact this
 rw [parts_at hj] at hp
 injection hp with hp
 subst hp
 exact (err_facts (by omega) (w.err j (by omega))).2.2.1 ⟨h.1, by omega⟩
theorem frag_uniq {X : Ex} {pr : Int} (w : Wrote X pr) {k : Nat} (hk : k ≤ X.length) {j : Nat} (hj : j < k) (h : (xAt X j).1 = 44) : fragX X k = (j : Int) := by
 rcases frag_cases X k with ⟨_, h2⟩ | ⟨j', h1, h2, h3⟩
 ·exact absurd h (h2 j hj)
 ·by_cases hlt : j < j'
  ·exact absurd h (no_twice w hlt (by omega) h3)
  ·by_cases hgt : j' < j
   ·exact absurd h3 (no_twice w hgt (by omega) h)
   ·have : j = j' := by omega
    rw [this]; exact h2
theorem st_tw {X : Ex} {pr : Int} (w : Wrote X pr) {k : Nat} (hk : k ≤ X.length) : twX (fragX X k) (partsX X k) 0 false = false := by
 refine twX_no fun j p hp h => ?_
 have hj : j < k := by
  have := (List.getElem?_eq_some_iff.1 hp).1
  rw [parts_len] at this
  exact this
 rw [parts_at hj] at hp
 injection hp with hp
 subst hp
 rw [Nat.zero_add]
 exact (frag_uniq w hk hj h).symm
theorem path0 {X : Ex} {pr : Int} {W : List Nat} : pathX ((kindsX X pr).getD 0 0) W = walkX W 9 (stX X pr 0) := rfl
theorem path_up {X : Ex} {pr : Int} (w : Wrote X pr) {U : Nat} (u : Upto X U) {W R : List Nat} (hW : W = flX X pr U ++ R) : pathX ((kindsX X pr).getD 0 0) W = stX X pr U := by
 rw [path0]
 refine walk_up w u hW U 0 9 (by omega) (by omega) fun h => ?_
 rcases u.end_ with h1 | ⟨h1, _⟩
 ·exact h1
 ·omega
theorem pt_at {X : Ex} {pr : Int} {U : Nat} (hU : U ≤ X.length) {W R : List Nat} (hW : W = flX X pr U ++ R) {j : Nat} (hj : j < U) : ptB W ((xAt X j).1, posX X j, (xAt X j).2.length + 2) = hdrX X pr j := by
 obtain ⟨R2, hR2⟩ := fl_pre (X := X) (pr := pr) (show j + 1 ≤ U by omega)
 exact pt_hdr (by omega) (R := R2 ++ R) (by rw [hW, hR2, List.append_assoc])
theorem list_back {X : Ex} {pr : Int} (w : Wrote X pr) {U : Nat} (u : Upto X U) {W R : List Nat} (hW : W = flX X pr U ++ R) : listX ((kindsX X pr).getD 0 0) W = X.take U := by
 have := u.le
 unfold listX
 rw [path_up w u hW]
 apply List.ext_getElem?
 intro j
 show ((partsX X U).map _)[j]? = _
 rw [List.getElem?_map]
 by_cases hj : j < U
 ·rw [parts_at hj, List.getElem?_take_of_lt hj, xAt_get (by omega)]
  simp only [Option.map_some]
  rw [pt_at this hW hj, hdr_is (by omega)]
  rfl
 ·rw [List.getElem?_eq_none (by rw [parts_len]; omega), List.getElem?_eq_none (by rw [List.length_take]; omega)]
  rfl
theorem go_back {X : Ex} {pr : Int} (w : Wrote X pr) {U : Nat} (u : Upto X U) {W R : List Nat} (hW : W = flX X pr U ++ R) :
 goX ((kindsX X pr).getD 0 0) W = ([0, 0, 0, 0, 0], [14]) ∨ ∃ a b, goX ((kindsX X pr).getD 0 0) W = ([(kindsX X pr).getD U 0, (posX X U : Int), a, b, (U : Int)], []) := by
 have hU := u.le
 unfold goX
 rw [path_up w u hW]
 simp only
 have hw : wrongX W (stX X pr U) W.length = if endX W (stX X pr U) W.length then [14] else [] := by
  unfold wrongX
  rw [show (stX X pr U).parts = partsX X U from rfl, show (stX X pr U).frag = fragX X U from rfl, st_hop w hU, st_tw w hU]
  generalize endX W (stX X pr U) W.length = b
  cases b <;> rfl
 rw [hw]
 cases endX W (stX X pr U) W.length with
 | true => exact .inl rfl
 | false =>
   right
   rw [if_neg Bool.false_ne_true, if_pos rfl]
   unfold goW
   have hl : (stX X pr U).parts.length = U := parts_len
   split
   ·exact ⟨_, _, by rw [hl]; rfl⟩
   ·exact ⟨_, _, by rw [hl]; rfl⟩
theorem cut_back {X : Ex} {pr : Int} (w : Wrote X pr) {U : Nat} (u : Upto X U) {n : Nat} (hn : n < posX X U) :
 goX ((kindsX X pr).getD 0 0) ((flX X pr X.length).take n) = ([0, 0, 0, 0, 0], [10]) := by
 have hU := u.le
 obtain ⟨k, hk, hp, hk2⟩ := wcut w u hn U 0 9 (by omega) (by omega) (Nat.zero_le _)
 have hpU := pos_le w hU
 have := w.n
 have hlen : (flX X pr X.length).length = posX X X.length := fl_len (Nat.le_refl _)
 have hm := pos_mono (X := X) hU
 have hVl : ((flX X pr X.length).take n).length = n := by rw [List.length_take]; omega
 unfold goX
 rw [path0, hk2]
 simp only
 have he : endX ((flX X pr X.length).take n) { stX X pr k with cut := true } ((flX X pr X.length).take n).length = false := by
  unfold endX
  simp only
  rw [hVl]
  rw [show (stX X pr k).parts = partsX X k from rfl, show (stX X pr k).frag = fragX X k from rfl]
  rcases frag_cases X k with ⟨h1, _⟩ | ⟨j, h1, h2, h3⟩
  ·rw [h1]; rfl
  ·rw [h2, if_pos (by omega), Int.toNat_natCast, parts_at h1]
   simp only
   obtain ⟨R2, hR2⟩ := fl_pre (X := X) (pr := pr) (show j + 1 ≤ X.length by omega)
   have hpj : posX X (j + 1) ≤ n := Nat.le_trans (pos_mono (by omega)) hp
   have hV : (flX X pr X.length).take n = flX X pr (j + 1) ++ R2.take (n - posX X (j + 1)) := by
    rw [hR2, List.take_append, fl_len (by omega), List.take_of_length_le (by rw [fl_len (by omega)]; exact hpj)]
   rw [pt_hdr (by omega) hV, off_hdr (by omega)]
   have hns := u.no j (by omega)
   have : ¬ 8 ≤ offB (xAt X j).2 := fun h => hns ⟨h3, h⟩
   simp only [decide_eq_false_iff_not]
   omega
 have hw : wrongX ((flX X pr X.length).take n) { stX X pr k with cut := true } ((flX X pr X.length).take n).length = [10] := by
  unfold wrongX
  rw [he]
  simp only
  rw [show (stX X pr k).parts = partsX X k from rfl, show (stX X pr k).frag = fragX X k from rfl, st_hop w (by omega), st_tw w (by omega)]
  rfl
 rw [hw]
 rfl
end Go.Wb.P11

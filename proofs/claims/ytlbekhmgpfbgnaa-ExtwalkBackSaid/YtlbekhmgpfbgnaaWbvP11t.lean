/- Chapter 11: extension headers are gone over as they were written: the walk. -/
import Derived.Test.YtlbekhmgpfbgnaaWbvP11s
set_option maxRecDepth 100000
set_option linter.all false
namespace Go.Wb.P11
open Go Go.Wb Go.Wb.Code Go.Wb.P01
theorem hdr_is {X : Ex} {pr : Int} {i : Nat} (h : i < X.length) : hdrX X pr i = (((kindsX X pr).getD (i + 1) 0) % 256).toNat :: (lenI (xAt X i).1 ((xAt X i).2.length + 2) % 256).toNat :: (xAt X i).2 := by
 unfold hdrX
 rw [xAt_get h]
 rfl
theorem off_hdr {X : Ex} {pr : Int} {i : Nat} (h : i < X.length) : offX (hdrX X pr i) = offB (xAt X i).2 := by
 rw [hdr_is h]
 rfl
theorem at_hdr {X : Ex} {pr : Int} {i : Nat} (h : i < X.length) {W R : List Nat} (hW : W = flX X pr (i + 1) ++ R) : W.drop (posX X i) = hdrX X pr i ++ R := by
 rw [hW, flX, List.append_assoc, ← fl_len (pr := pr) (show i ≤ X.length by omega), List.drop_left]
theorem pt_hdr {X : Ex} {pr : Int} {i : Nat} (h : i < X.length) {W R : List Nat} (hW : W = flX X pr (i + 1) ++ R) : ptB W ((xAt X i).1, posX X i, (xAt X i).2.length + 2) = hdrX X pr i := by
 unfold ptB
 simp only
 rw [at_hdr h hW, ← hdr_len (pr := pr) h, List.take_left]
theorem getD_head {W : List Nat} {n : Nat} {x : Nat} {l : List Nat} (h : W.drop n = x :: l) : W.getD n 0 = x := by
 have : W[n]? = some x := by
  have h2 : (W.drop n)[0]? = some x := by rw [h]; rfl
  simpa using h2
 rw [List.getD_eq_getElem?_getD, this]
 rfl
theorem st_next {X : Ex} {pr : Int} (w : Wrote X pr) {i : Nat} (h : i < X.length) {W R : List Nat} (hW : W = flX X pr (i + 1) ++ R) :
 nextX W (stX X pr i) ((xAt X i).2.length + 2) = { stX X pr (i + 1) with frag := fragX X i } := by
 have h1 : W.getD (posX X i) 0 = (((kindsX X pr).getD (i + 1) 0) % 256).toNat := getD_head (l := (lenI (xAt X i).1 ((xAt X i).2.length + 2) % 256).toNat :: (xAt X i).2 ++ R) (by rw [at_hdr h hW, hdr_is h]; rfl)
 have h2 := kinds_rng w (i := i + 1) (by omega)
 have h3 : ((W.getD (posX X i) 0 : Nat) : Int) = (kindsX X pr).getD (i + 1) 0 := by rw [h1]; omega
 unfold nextX stX
 simp only [h3, kinds_at h]
 rfl
theorem st_size {X : Ex} {pr : Int} (w : Wrote X pr) {i : Nat} (h : i < X.length) {W R : List Nat} (hW : W = flX X pr (i + 1) ++ R) :
 sizeX (stX X pr i).next (W.drop (stX X pr i).at_) = some ((xAt X i).2.length + 2) := by
 obtain ⟨f1, f2, _, _⟩ := err_facts h (w.err i h)
 have f3 := form_ge f2
 have e1 : (stX X pr i).next = (xAt X i).1 := kinds_at h
 have e2 : (stX X pr i).at_ = posX X i := rfl
 have hl : (hdrX X pr i ++ R).length = (xAt X i).2.length + 2 + R.length := by rw [List.length_append, hdr_len h]
 have hw : wantX (xAt X i).1 (hdrX X pr i ++ R) = (xAt X i).2.length + 2 := want_hdr w h (by rw [hdr_is h]; rfl)
 rw [e1, e2, at_hdr h hW]
 unfold sizeX
 rw [if_neg (by rw [f1, hl]; rintro (h | h); cases h; omega), hw, if_neg (by omega)]
theorem walk_eq {W : List Nat} {f : Nat} {s : St} : walkX W (f + 1) s = if isX s.next = false then s else if s.parts.length = 8 then { s with many := true } else
 match sizeX s.next (W.drop s.at_) with
 | none => { s with cut := true }
 | some n =>
   if s.next ≠ 44 ∨ 0 ≤ s.frag then walkX W f (nextX W s n) else
   if 0 < offX (ptB W (s.next, s.at_, n)) / 8 then { nextX W s n with frag := s.parts.length } else walkX W f { nextX W s n with frag := s.parts.length } := rfl
theorem st_step {X : Ex} {pr : Int} (w : Wrote X pr) {i : Nat} (h : i < X.length) {W R : List Nat} (hW : W = flX X pr (i + 1) ++ R) (f : Nat) :
 walkX W (f + 1) (stX X pr i) = if stopX X i then stX X pr (i + 1) else walkX W f (stX X pr (i + 1)) := by
 obtain ⟨f1, f2, _, _⟩ := err_facts h (w.err i h)
 have e1 : (stX X pr i).next = (xAt X i).1 := kinds_at h
 have e3 : (stX X pr i).parts.length = i := parts_len
 have e4 : (stX X pr i).frag = fragX X i := rfl
 have := w.n
 rw [walk_eq]
 rw [if_neg (by rw [e1, f1]; decide), if_neg (by omega), st_size w h hW]
 simp only
 rw [st_next w h hW, e1, e3, e4]
 by_cases k4 : (xAt X i).1 = 44
 ·have hf : fragX X i = -1 := by
   rcases frag_cases X i with ⟨h1, _⟩ | ⟨j, h1, _, h3⟩
   ·exact h1
   ·exact absurd h3 (no_twice w h1 h k4)
  have e5 : { stX X pr (i + 1) with frag := (i : Int) } = stX X pr (i + 1) := by
   have h1 : fragX X (i + 1) = (i : Int) := by rw [fragX, if_pos k4]
   rw [← h1]
   rfl
  rw [if_neg (by rw [hf]; rintro (h | h); exact h k4; omega)]
  rw [show (stX X pr i).at_ = posX X i from rfl, pt_hdr h hW, off_hdr h]
  by_cases hs : stopX X i
  ·rw [if_pos hs, if_pos (by have := hs.2; omega)]
   exact e5
  ·rw [if_neg hs, if_neg (by unfold stopX at hs; have : ¬ 8 ≤ offB (xAt X i).2 := fun h => hs ⟨k4, h⟩; omega)]
   exact congrArg (walkX W f) e5
 ·have e5 : { stX X pr (i + 1) with frag := fragX X i } = stX X pr (i + 1) := by
   have h1 : fragX X (i + 1) = fragX X i := by rw [fragX, if_neg k4]
   rw [← h1]
   rfl
  rw [if_pos (.inl k4), if_neg (fun hs => k4 hs.1)]
  exact congrArg (walkX W f) e5
structure Upto (X : Ex) (U : Nat) : Prop where
 le : U ≤ X.length
 no : ∀ j, j + 1 < U → ¬ stopX X j
 end_ : U = X.length ∨ (0 < U ∧ stopX X (U - 1))
theorem wend {X : Ex} {pr : Int} (w : Wrote X pr) {W : List Nat} : ∀ f, walkX W f (stX X pr X.length) = stX X pr X.length
 | 0 => rfl
 | f + 1 => by
   unfold walkX
   rw [if_pos (by show isX ((kindsX X pr).getD X.length 0) = false; rw [kinds_end]; exact w.p2)]
theorem walk_up {X : Ex} {pr : Int} (w : Wrote X pr) {U : Nat} (u : Upto X U) {W R : List Nat} (hW : W = flX X pr U ++ R) : ∀ (m i f : Nat), i + m = U → 9 ≤ f + i → (i = U → U = X.length) → walkX W f (stX X pr i) = stX X pr U
 | 0, i, f, hm, hf, hU => by
   have : i = U := by omega
   subst this
   have := hU rfl
   subst this
   exact wend w f
 | m + 1, i, f, hm, hf, _ => by
   have := u.le
   have := w.n
   obtain ⟨f, rfl⟩ : ∃ g, f = g + 1 := ⟨f - 1, by omega⟩
   obtain ⟨R2, hR2⟩ := fl_pre (X := X) (pr := pr) (show i + 1 ≤ U by omega)
   rw [st_step w (i := i) (by omega) (R := R2 ++ R) (by rw [hW, hR2, List.append_assoc]) f]
   by_cases hs : stopX X i
   ·rw [if_pos hs]
    have : i + 1 = U := by
     by_cases h : i + 1 < U
     ·exact absurd hs (u.no i h)
     ·omega
    rw [this]
   ·rw [if_neg hs]
    refine walk_up w u hW m (i + 1) f (by omega) (by omega) fun h => ?_
    rcases u.end_ with h1 | ⟨h1, h2⟩
    ·exact h1
    ·exfalso
     rw [← h, Nat.add_sub_cancel] at h2
     exact hs h2
theorem wcut {X : Ex} {pr : Int} (w : Wrote X pr) {U : Nat} (u : Upto X U) {n : Nat} (hn : n < posX X U) : ∀ (m i f : Nat), i + m = U → 9 ≤ f + i → posX X i ≤ n →
 ∃ k, k < U ∧ posX X k ≤ n ∧ walkX ((flX X pr X.length).take n) f (stX X pr i) = { stX X pr k with cut := true }
 | 0, i, f, hm, hf, hp => by
   have : i = U := by omega
   subst this
   omega
 | m + 1, i, f, hm, hf, hp => by
   have hU := u.le
   have := w.n
   have hi : i < X.length := by omega
   obtain ⟨f, rfl⟩ : ∃ g, f = g + 1 := ⟨f - 1, by omega⟩
   obtain ⟨f1, f2, _, _⟩ := err_facts hi (w.err i hi)
   have f3 := form_ge f2
   have hpi : posX X (i + 1) = posX X i + ((xAt X i).2.length + 2) := rfl
   obtain ⟨R2, hR2⟩ := fl_pre (X := X) (pr := pr) (show i + 1 ≤ X.length by omega)
   by_cases hlt : posX X (i + 1) ≤ n
   ·have hi1 : i + 1 < U := by
     by_cases h : i + 1 < U
     ·exact h
     ·have := pos_mono (X := X) (show U ≤ i + 1 by omega)
      omega
    have hV : (flX X pr X.length).take n = flX X pr (i + 1) ++ R2.take (n - posX X (i + 1)) := by
     rw [hR2, List.take_append, fl_len (by omega), List.take_of_length_le (by rw [fl_len (by omega)]; exact hlt)]
    rw [st_step w hi hV f, if_neg (u.no i hi1)]
    exact wcut w u hn m (i + 1) f (by omega) (by omega) hlt
   ·refine ⟨i, by omega, hp, ?_⟩
    have hd : ((flX X pr X.length).take n).drop (posX X i) = (hdrX X pr i).take (n - posX X i) := by
     rw [List.drop_take, at_hdr hi hR2, List.take_append_of_le_length (by rw [hdr_len hi]; omega)]
    have e1 : (stX X pr i).next = (xAt X i).1 := kinds_at hi
    have e3 : (stX X pr i).parts.length = i := parts_len
    have hs : sizeX (stX X pr i).next (((flX X pr X.length).take n).drop (stX X pr i).at_) = none := by
     rw [e1, show (stX X pr i).at_ = posX X i from rfl, hd]
     unfold sizeX
     have hl : ((hdrX X pr i).take (n - posX X i)).length = n - posX X i := by rw [List.length_take, hdr_len hi]; omega
     by_cases h8 : n - posX X i < 8
     ·rw [if_pos (.inr (by omega))]
     ·rw [if_neg (by rw [f1, hl]; rintro (h | h); cases h; omega)]
      rw [want_hdr (pr := pr) w hi (by rw [hdr_is hi]; rw [show n - posX X i = (n - posX X i - 2) + 1 + 1 by omega]; rfl), hl, if_pos (by omega)]
    unfold walkX
    rw [if_neg (by rw [e1, f1]; decide), if_neg (by omega), hs]
end Go.Wb.P11

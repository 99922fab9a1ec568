/- Chapter 11: the document's way. -/
import Derived.Test.YtlbekhmgpfbgnaaWbvP11f
set_option maxRecDepth 100000
set_option linter.all false
namespace Go.Wb.P11
open Go Go.Wb Go.Wb.Code Go.Wb.P01
theorem first_range : ∀ (l : List (Int × Nat × Nat)) (i : Nat), firstX l i = -1 ∨ ((i : Int) ≤ firstX l i ∧ firstX l i < i + l.length)
 | [], i => .inl rfl
 | p :: l, i => by
   rw [firstX]
   split
   ·right; simp; omega
   ·rcases first_range l (i + 1) with h | h
    ·exact .inl h
    ·right; simp; omega
theorem first_add : ∀ (l : List (Int × Nat × Nat)) (i : Nat) (p : Int × Nat × Nat), firstX (l ++ [p]) i = if firstX l i = -1 then (if p.1 = 44 then (i : Int) + l.length else -1) else firstX l i
 | [], i, p => by simp [firstX]
 | q :: l, i, p => by
   rw [List.cons_append, firstX, firstX]
   split
   ·rw [if_neg (by omega)]
   ·rw [first_add l (i + 1) p]
    split
    ·split
     ·simp; omega
     ·rfl
    ·rfl
theorem off_eq {B : List Nat} {k : Int} {a n : Nat} (hn : 4 ≤ n) : offX (ptB B (k, a, n)) = B.getD (a + 2) 0 * 256 + B.getD (a + 3) 0 := by
 unfold offX ptB
 simp only [List.getD_eq_getElem?_getD, List.getElem?_take, List.getElem?_drop]
 rw [if_pos (by omega), if_pos (by omega)]
def wayR (s : St) (r : AExit × TT) : Prop :=
 (s.cut = false ∧ s.many = false ∧ r = (.exit 0, updT (updT botT 8 (.own s.parts.length 3 (stC s.parts))) 0 (ti .i64 s.next))) ∨ r = (.ret, wyR s.next s.parts.length (stC s.parts) s.cut s.many)
section
variable {E : EnvW} (e : WbvC11Env E)
include e in
theorem way_loop (B : List Nat) (hB : B.length ≤ room) (h256 : ∀ x ∈ B, x < 256) : ∀ (f : Nat) (s : St), 9 ≤ f + s.parts.length → Inv B s → s.frag = firstX s.parts 0 →
 ∃ r, runV E (.loop [0, 1, 8, 9] ref11_way_L0) (wyT B s.next s.at_ s.parts.length (stC s.parts)) = some r ∧ wayR (walkX B f s) r
 | 0, s, hf, i, _ => by have := i.p; omega
 | f + 1, s, hf, i, hfx => by
   obtain ⟨l, fr, k, a, cut, many⟩ := s
   have hcut : cut = false := i.c
   have hmany : many = false := i.m
   have ha : a ≤ B.length := i.a
   have hl : l.length ≤ 8 := i.p
   have hf : 9 ≤ f + 1 + l.length := hf
   have hfx2 : fr = firstX l 0 := hfx
   clear hfx
   have hfx := hfx2
   subst hcut hmany
   have q := ref11_Is e k
   have q2 := ref11_Size e k (B.drop a) (by rw [List.length_drop]; omega) (fun x hx => h256 x (List.mem_of_mem_drop hx))
   have q2 : callV E "ref11.Size" [vi k, .v (.sl (B.length - a) (bp (B.drop a)))] [] = some ([ri ((sizeX k (B.drop a)).getD 0 : Nat), rB (sizeX k (B.drop a)).isSome], [na, na], []) := by
    rw [← List.length_drop]; exact q2
   have hfr := first_range l 0
   unfold walkX
   simp only
   cases hk : isX k with
   | false =>
     rw [if_pos rfl]
     rw [hk] at q
     exact ⟨_, way_end q, .inl ⟨rfl, rfl, rfl⟩⟩
   | true =>
     rw [if_neg (by simp)]
     rw [hk] at q
     by_cases h8 : l.length = 8
     ·rw [if_pos h8]
      have r := way_many (B := B) (C := stC l) (a := a) q
      refine ⟨(.ret, wyR k 8 (stC l) false true), ?_, .inr ?_⟩
      ·simp only [h8]; exact r
      ·show (AExit.ret, wyR k 8 (stC l) false true) = (AExit.ret, wyR k l.length (stC l) false true)
       rw [h8]
     ·rw [if_neg h8]
      cases hs : sizeX k (B.drop a) with
      | none =>
        rw [hs] at q2
        simp only
        exact ⟨_, way_cut hB ha (by omega) q q2, .inr rfl⟩
      | some n =>
        rw [hs] at q2
        have q2 : callV E "ref11.Size" [vi k, .v (.sl (B.length - a) (bp (B.drop a)))] [] = some ([ri (n : Int), rB true], [na, na], []) := q2
        obtain ⟨n8, nl, _⟩ := sizeX_some hs
        rw [List.length_drop] at nl
        have han : a + n ≤ B.length := by omega
        have hn4 : 4 ≤ n := by omega
        have hl8 : l.length < 8 := by omega
        simp only
        have hx2 : B.getD a 0 < 256 := h256 _ (getD_mem (show a < B.length by omega))
        have hy2 : B.getD (a + 2) 0 < 256 := h256 _ (getD_mem (show a + 2 < B.length by omega))
        have hz2 : B.getD (a + 3) 0 < 256 := h256 _ (getD_mem (show a + 3 < B.length by omega))
        have hi : Inv B (nextX B ⟨l, fr, k, a, false, false⟩ n) := ⟨by show a + n ≤ B.length; omega, by show (l ++ [(k, a, n)]).length ≤ 8; simp; omega, rfl, rfl⟩
        have hnl : ∀ fr', (⟨(nextX B ⟨l, fr, k, a, false, false⟩ n).parts, fr', (nextX B ⟨l, fr, k, a, false, false⟩ n).next, (nextX B ⟨l, fr, k, a, false, false⟩ n).at_, false, false⟩ : St).parts.length = l.length + 1 := fun fr' => by simp [nextX]
        have hfa := first_add l 0 (k, a, n)
        have more : ∀ fr', fr' = firstX (l ++ [(k, a, n)]) 0 → ∃ r, runV E (.loop [0, 1, 8, 9] ref11_way_L0) (wyT B (B.getD a 0 : Nat) (a + n) (l.length + 1) (stC l ++ stV k a n)) = some r ∧ wayR (walkX B f { nextX B ⟨l, fr, k, a, false, false⟩ n with frag := fr' }) r := by
         intro fr' hfr'
         have ih := way_loop B hB h256 f { nextX B ⟨l, fr, k, a, false, false⟩ n with frag := fr' } (by show 9 ≤ f + (l ++ [(k, a, n)]).length; simp; omega) ⟨hi.a, hi.p, rfl, rfl⟩ hfr'
         simp only [nextX, stC_add, List.length_append, List.length_cons, List.length_nil] at ih
         exact ih
        by_cases hk44 : k = 44
        ·subst hk44
         have hoff := off_eq (B := B) (k := 44) (a := a) (n := n) hn4
         have q3 := ref11_first e (l ++ [(44, a, n)]) (by simp; omega)
         rw [stC_add, hfa] at q3
         have q3 : callV E "ref11.first" [.v (.sl (l.length + 1) (stC l ++ stV 44 a n))] [] = some ([ri (if firstX l 0 = -1 then (l.length : Int) else firstX l 0)], [na], []) := by
          have e1 : (l ++ [((44 : Int), a, n)]).length = l.length + 1 := by simp
          rw [e1] at q3
          simpa using q3
         by_cases ho : 8 ≤ B.getD (a + 2) 0 * 256 + B.getD (a + 3) 0
         ·by_cases hfr0 : firstX l 0 = -1
          ·rw [if_pos hfr0] at q3
           rw [if_neg (by intro h; rcases h with h | h; exact h rfl; omega), if_pos (by rw [hoff]; omega)]
           refine ⟨_, way_later hB stC_len hl8 hn4 han rfl hx2 rfl hy2 rfl hz2 q q2 q3 ho, .inr ?_⟩
           simp only [nextX, stC_add, List.length_append, List.length_cons, List.length_nil]
          ·rw [if_neg hfr0] at q3
           rw [if_pos (.inr (by omega))]
           obtain ⟨r, h1, h2⟩ := more fr (by rw [hfa, if_neg hfr0]; exact hfx)
           refine ⟨r, way_again hB stC_len hl8 hn4 han rfl hx2 rfl hy2 rfl hz2 q q2 q3 ho (by omega) h1, ?_⟩
           exact h2
         ·by_cases hfr0 : firstX l 0 = -1
          ·rw [if_neg (by intro h; rcases h with h | h; exact h rfl; omega), if_neg (by rw [hoff]; omega)]
           obtain ⟨r, h1, h2⟩ := more l.length (by rw [hfa, if_pos hfr0]; simp)
           refine ⟨r, way_frag hB stC_len hl8 hn4 han rfl hx2 rfl hy2 rfl hz2 q q2 (by omega) h1, ?_⟩
           exact h2
          ·rw [if_pos (.inr (by omega))]
           obtain ⟨r, h1, h2⟩ := more fr (by rw [hfa, if_neg hfr0]; exact hfx)
           refine ⟨r, way_frag hB stC_len hl8 hn4 han rfl hx2 rfl hy2 rfl hz2 q q2 (by omega) h1, ?_⟩
           exact h2
        ·rw [if_pos (.inl hk44)]
         obtain ⟨r, h1, h2⟩ := more fr (by
          rw [hfa, hfx]
          by_cases h : firstX l 0 = -1
          ·rw [if_pos h, if_neg hk44, h]
          ·rw [if_neg h])
         refine ⟨r, way_next hB stC_len hl8 hn4 han rfl hx2 q q2 hk44 h1, ?_⟩
         exact h2
include e in
theorem ref11_way (k : Int) (B : List Nat) (hB : B.length ≤ room) (h256 : ∀ x ∈ B, x < 256) :
 callV E "ref11.way" [vi k, vb B] [] = some ([.o (pathX k B).parts.length 3 (stC (pathX k B).parts), ri (pathX k B).next, rB (pathX k B).cut, rB (pathX k B).many], [na, na], []) := by
 obtain ⟨r, h, hr⟩ := way_loop e B hB h256 9 (st0 k) (by simp [st0]) ⟨Nat.zero_le _, by simp [st0], rfl, rfl⟩ rfl
 have e0 : walkX B 9 (st0 k) = pathX k B := rfl
 rw [e0] at hr
 have h : runV E (.loop [0, 1, 8, 9] ref11_way_L0) (updT (updT (updT (updT botT 9 (ti .i64 0)) 8 (.own 0 3 [])) 1 (.val (.sl B.length (bp B)))) 0 (ti .i64 k)) = some r := h
 generalize pathX k B = s at *
 obtain ⟨l, fr, nx, a, cut, many⟩ := s
 unfold wayR at hr
 simp only at hr ⊢
 generalize stC l = C at *
 rcases hr with ⟨rfl, rfl, rfl⟩ | rfl
 ·refine callV_fn e.ref11_way fun nd hnd => ?_
  simp (maxSteps := 1000000) (disch := first | omega | (simp only [lnS] <;> omega) | assumption | fail) [ref11_way_B, wwS, -List.getD_eq_getElem?_getD, -List.drop_drop, ref11_way_K7, h]
 ·refine callV_fn e.ref11_way fun nd hnd => ?_
  simp (maxSteps := 1000000) (disch := first | omega | (simp only [lnS] <;> omega) | assumption | fail) [ref11_way_B, wwS, -List.getD_eq_getElem?_getD, -List.drop_drop, ref11_way_K7, h]
end
end Go.Wb.P11

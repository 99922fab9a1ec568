/- Chapter 11: the walk. -/
import Derived.Test.YtlbekhmgpfbgnaaWbvP11b
set_option maxRecDepth 100000
set_option linter.all false
namespace Go.Wb.P11
open Go Go.Wb Go.Wb.Code Go.Wb.P01
structure St where
 parts : List (Int × Nat × Nat)
 frag : Int
 next : Int
 at_ : Nat
 cut : Bool
 many : Bool
def ptB (B : List Nat) (p : Int × Nat × Nat) : List Nat := (B.drop p.2.1).take p.2.2
def ptsC (B : List Nat) (l : List (Int × Nat × Nat)) : List PV := (l.map fun p => ptV p.1 p.2.1 p.2.2 (ptB B p)).flatten
def cellW (B : List Nat) (l : List (Int × Nat × Nat)) : CV := if l = [] then nilC else .o l.length 3 (ptsC B l)
def boxW (B : List Nat) (s : St) : TV := wkB (cellW B s.parts) s.frag s.next s.at_ s.cut s.many
def cellP' (B : List Nat) (l : List (Int × Nat × Nat)) : PV := if l = [] then .sc (.slice none 0 0) else .sl l.length (ptsC B l)
def pathC (B : List Nat) (s : St) : List PV := [cellP' B s.parts, .sc (.int .i64 s.frag), .sc (.int .i64 s.next), .sc (.int .i64 (s.at_ : Int)), .sc (.bool s.cut), .sc (.bool s.many)]
theorem ptsC_len {B : List Nat} : ∀ {l : List (Int × Nat × Nat)}, (ptsC B l).length = l.length * 3
 | [] => rfl
 | p :: l => by
   have := ptsC_len (B := B) (l := l)
   unfold ptsC at *
   simp only [List.map_cons, List.flatten_cons, List.length_append, List.length_cons, List.length_nil] at *
   omega
theorem ptsC_add {B : List Nat} {l : List (Int × Nat × Nat)} {p : Int × Nat × Nat} : ptsC B (l ++ [p]) = ptsC B l ++ ptV p.1 p.2.1 p.2.2 (ptB B p) := by
 unfold ptsC
 simp
def nextX (B : List Nat) (s : St) (n : Nat) : St := ⟨s.parts ++ [(s.next, s.at_, n)], s.frag, (B.getD s.at_ 0 : Nat), s.at_ + n, false, false⟩
def walkX (B : List Nat) : Nat → St → St
 | 0, s => s
 | f + 1, s =>
   if isX s.next = false then s else if s.parts.length = 8 then { s with many := true } else
   match sizeX s.next (B.drop s.at_) with
   | none => { s with cut := true }
   | some n =>
     if s.next ≠ 44 ∨ 0 ≤ s.frag then walkX B f (nextX B s n) else
     if 0 < offX (ptB B (s.next, s.at_, n)) / 8 then { nextX B s n with frag := s.parts.length } else walkX B f { nextX B s n with frag := s.parts.length }
theorem sizeX_some {k : Int} {b : List Nat} {n : Nat} (h : sizeX k b = some n) : 8 ≤ n ∧ n ≤ b.length ∧ isX k = true := by
 unfold sizeX at h
 split at h
 ·cases h
 ·rename_i hc
  split at h
  ·cases h
  ·injection h with h
   have h1 : isX k = true := by
    cases hk : isX k with
    | true => rfl
    | false => exact (hc (.inl hk)).elim
   subst h
   refine ⟨?_, by omega, h1⟩
   unfold wantX
   split
   ·omega
   ·split <;> omega
theorem off_lt {b : List Nat} (h256 : ∀ x ∈ b, x < 256) (h : 4 ≤ b.length) : offX b < 65536 := by
 have h2 := h256 _ (getD_mem (show 2 < b.length by omega))
 have h3 := h256 _ (getD_mem (show 3 < b.length by omega))
 unfold offX
 omega
section
variable {E : EnvW} (e : WbvC11Env E)
structure Inv (B : List Nat) (s : St) : Prop where
 a : s.at_ ≤ B.length
 p : s.parts.length ≤ 8
 c : s.cut = false
 m : s.many = false
include e in
theorem walk_loop (B : List Nat) (hB : B.length ≤ room) (h256 : ∀ x ∈ B, x < 256) : ∀ (f : Nat) (s : St), 9 ≤ f + s.parts.length → Inv B s →
 runV E (.loop [1, 4, 5] extwalk_walk_L0) (wkT B (boxW B s)) = some (.exit 0, updT (updT botT 5 (boxW B (walkX B f s))) 4 wk0)
 | 0, s, hf, i => by have := i.p; omega
 | f + 1, s, hf, i => by
   obtain ⟨l, fr, k, a, cut, many⟩ := s
   have hcut : cut = false := i.c
   have hmany : many = false := i.m
   have ha : a ≤ B.length := i.a
   have hl : l.length ≤ 8 := i.p
   have hf : 9 ≤ f + 1 + l.length := hf
   subst hcut hmany
   have q := extwalk_Is e k
   have q2 := extwalk_Size e k (B.drop a) (by rw [List.length_drop]; omega) (fun x hx => h256 x (List.mem_of_mem_drop hx))
   have q2 : callV E "extwalk.Size" [vi k, .v (.sl (B.length - a) (bp (B.drop a)))] [] = some ([ri ((sizeX k (B.drop a)).getD 0 : Nat), rB (sizeX k (B.drop a)).isSome], [na, na], []) := by
    rw [← List.length_drop]; exact q2
   unfold walkX
   simp only
   cases hk : isX k with
   | false =>
     rw [if_pos rfl]
     rw [hk] at q
     exact walk_end q
   | true =>
     rw [if_neg (by simp)]
     rw [hk] at q
     by_cases h8 : l.length = 8
     ·rw [if_pos h8]
      have hne : l ≠ [] := by intro h; rw [h] at h8; cases h8
      have r := walk_many (B := B) (C := ptsC B l) (fr := fr) hB ha q q2
      unfold boxW cellW
      simp only [if_neg hne, h8]
      exact r
     ·rw [if_neg h8]
      cases hs : sizeX k (B.drop a) with
      | none =>
        rw [hs] at q2
        simp only
        unfold boxW cellW
        simp only
        by_cases hne : l = []
        ·rw [if_pos hne]
         exact walk_cut0 hB ha q q2
        ·rw [if_neg hne]
         exact walk_cut hB ha ptsC_len (by omega) q q2
      | some n =>
        rw [hs] at q2
        have q2 : callV E "extwalk.Size" [vi k, .v (.sl (B.length - a) (bp (B.drop a)))] [] = some ([ri (n : Int), rB true], [na, na], []) := q2
        obtain ⟨n8, nl, _⟩ := sizeX_some hs
        rw [List.length_drop] at nl
        have han : a + n ≤ B.length := by omega
        have hn4 : 4 ≤ n := by omega
        have hl8 : l.length < 8 := by omega
        simp only
        have hx2 : B.getD a 0 < 256 := h256 _ (getD_mem (show a < B.length by omega))
        have hpl : (ptB B (k, a, n)).length = n := by unfold ptB; simp; omega
        have hp256 : ∀ x ∈ ptB B (k, a, n), x < 256 := fun x hx => h256 x (List.mem_of_mem_drop (List.mem_of_mem_take hx))
        have hi : Inv B (nextX B ⟨l, fr, k, a, false, false⟩ n) := ⟨by show a + n ≤ B.length; omega, by show (l ++ [(k, a, n)]).length ≤ 8; simp; omega, rfl, rfl⟩
        have hcell : cellW B (l ++ [(k, a, n)]) = .o (l.length + 1) 3 (ptsC B l ++ ptV k a n ((B.drop a).take n)) := by
         unfold cellW
         rw [if_neg (by simp), ptsC_add]
         simp [ptB]
        by_cases hk44 : k = 44
        ·subst hk44
         by_cases hfr : 0 ≤ fr
         ·rw [if_pos (.inr hfr)]
          have ih := walk_loop B hB h256 f (nextX B ⟨l, fr, 44, a, false, false⟩ n) (by show 9 ≤ f + (l ++ [((44 : Int), a, n)]).length; simp; omega) hi
          unfold boxW at ih ⊢
          simp only [nextX, hcell] at ih
          unfold cellW at ih ⊢
          by_cases hne : l = []
          ·subst hne
           exact walk_twice0 (a := a) (n := n) hB hn4 han rfl hx2 q q2 hfr ih
          ·simp only [if_neg hne]
           exact walk_twice (a := a) (n := n) hB ptsC_len hl8 hn4 han rfl hx2 q q2 hfr ih
         ·rw [if_neg (by intro h; rcases h with h | h; exact h rfl; exact hfr h)]
          have hm2 := off_lt hp256 (by omega)
          have hfn : fr < 0 := by omega
          have q3 := part_offset e 44 a n (ptB B (44, a, n)) (by rw [hpl]; omega) hp256 (by omega)
          rw [hpl] at q3
          by_cases ho : 0 < offX (ptB B (44, a, n)) / 8
          ·rw [if_pos ho]
           unfold boxW
           simp only [nextX, hcell]
           unfold cellW
           by_cases hne : l = []
           ·subst hne
            exact walk_later0 (a := a) (n := n) hB hn4 han rfl hx2 q q2 q3 hfn ho hm2
           ·simp only [if_neg hne]
            exact walk_later (a := a) (n := n) hB ptsC_len hl8 hn4 han rfl hx2 q q2 q3 hfn ho hm2
          ·rw [if_neg ho]
           have ho0 : offX (ptB B (44, a, n)) / 8 = 0 := by omega
           have ih := walk_loop B hB h256 f { nextX B ⟨l, fr, 44, a, false, false⟩ n with frag := l.length } (by show 9 ≤ f + (l ++ [((44 : Int), a, n)]).length; simp; omega) ⟨hi.a, hi.p, rfl, rfl⟩
           unfold boxW at ih ⊢
           simp only [nextX, hcell] at ih
           unfold cellW at ih ⊢
           by_cases hne : l = []
           ·subst hne
            exact walk_frag0 (a := a) (n := n) hB hn4 han rfl hx2 q q2 q3 hfn ho0 hm2 ih
           ·simp only [if_neg hne]
            exact walk_frag (a := a) (n := n) hB ptsC_len hl8 hn4 han rfl hx2 q q2 q3 hfn ho0 hm2 ih
        ·rw [if_pos (.inl hk44)]
         have ih := walk_loop B hB h256 f (nextX B ⟨l, fr, k, a, false, false⟩ n) (by show 9 ≤ f + (l ++ [(k, a, n)]).length; simp; omega) hi
         unfold boxW at ih ⊢
         simp only [nextX, hcell] at ih
         unfold cellW at ih ⊢
         by_cases hne : l = []
         ·subst hne
          exact walk_next0 (a := a) (n := n) hB hn4 han rfl hx2 q q2 hk44 ih
         ·simp only [if_neg hne]
          exact walk_next (a := a) (n := n) hB ptsC_len hl8 hn4 han rfl hx2 q q2 hk44 ih
def st0 (k : Int) : St := ⟨[], -1, k, 0, false, false⟩
include e in
theorem extwalk_walk (k : Int) (B : List Nat) (hB : B.length ≤ room) (h256 : ∀ x ∈ B, x < 256) : callV E "extwalk.walk" [vi k, vb B] [] = some ([.v (.agg (pathC B (walkX B 9 (st0 k))))], [na, na], []) := by
 have h := walk_loop e B hB h256 9 (st0 k) (by simp [st0]) ⟨Nat.zero_le _, by simp [st0], rfl, rfl⟩
 generalize walkX B 9 (st0 k) = s at *
 obtain ⟨l, fr, k', a, cut, many⟩ := s
 unfold boxW st0 at h
 unfold pathC
 simp only at h ⊢
 unfold cellW cellP' at *
 rw [if_pos rfl] at h
 change runV E (.loop [1, 4, 5] extwalk_walk_L0) (updT (updT (updT botT 5 (.box [nilC, .v (.sc (.int .i64 (-1))), .v (.sc (.int .i64 k)), .v (.sc (.int .i64 0)), .v (.sc (.bool false)), .v (.sc (.bool false))])) 4 wk0) 1 (.val (.sl B.length (bp B)))) = _ at h
 by_cases hl : l = []
 ·rw [if_pos hl] at h ⊢
  refine callV_fn e.extwalk_walk fun nd hnd => ?_
  simp (maxSteps := 1000000) (disch := first | omega | (simp only [lnS] <;> omega) | assumption | fail) [extwalk_walk_B, wwS, -List.getD_eq_getElem?_getD, -List.drop_drop, extwalk_walk_K6, h]
 ·rw [if_neg hl] at h ⊢
  have hc := ptsC_len (B := B) (l := l)
  generalize ptsC B l = C at *
  refine callV_fn e.extwalk_walk fun nd hnd => ?_
  simp (maxSteps := 1000000) (disch := first | omega | (simp only [lnS] <;> omega) | assumption | fail) [extwalk_walk_B, wwS, -List.getD_eq_getElem?_getD, -List.drop_drop, extwalk_walk_K6, h]
end
end Go.Wb.P11

/- Chapter 11: what is wrong rises by its rank. -/
import Derived.Test.YtlbekhmgpfbgnaaWbvP11j
set_option maxRecDepth 100000
set_option linter.all false
namespace Go.Wb.P11
open Go Go.Wb Go.Wb.Code Go.Wb.P01
theorem defs_rise (F : List Bool) : ∀ i, (∀ x ∈ defsX F i, (10 : Int) + i ≤ x ∧ x < 10 + i + F.length) ∧ (defsX F i).Pairwise (· < ·) := by
 induction F with
 | nil => intro i; exact ⟨fun x hx => (by cases hx), .nil⟩
 | cons f F ih =>
   intro i
   obtain ⟨h1, h2⟩ := ih (i + 1)
   have h1 : ∀ x ∈ defsX F (i + 1), (10 : Int) + i + 1 ≤ x ∧ x < 10 + i + 1 + F.length := fun x hx => by have := h1 x hx; omega
   cases f with
   | false =>
     rw [show defsX (false :: F) i = defsX F (i + 1) by simp [defsX]]
     exact ⟨fun x hx => by have := h1 x hx; rw [List.length_cons]; omega, h2⟩
   | true =>
     rw [show defsX (true :: F) i = (10 + (i : Int)) :: defsX F (i + 1) by simp [defsX]]
     refine ⟨fun x hx => ?_, List.pairwise_cons.2 ⟨fun x hx => by have := h1 x hx; omega, h2⟩⟩
     rw [List.length_cons]
     cases hx with
     | head => omega
     | tail _ hx => have := h1 x hx; omega
theorem walk_stop (B : List Nat) : ∀ (f : Nat) (s : St), 9 ≤ f + s.parts.length → s.parts.length ≤ 8 → (walkX B f s).cut = false → (walkX B f s).many = false →
 isX (walkX B f s).next = false ∨ (0 ≤ (walkX B f s).frag ∧ 0 < fragO B (walkX B f s) / 8)
 | 0, s, hf, h8, _, _ => by omega
 | f + 1, s, hf, h8, hc, hm => by
   unfold walkX at hc hm ⊢
   split
   ·rename_i h; exact .inl h
   ·rename_i h
    rw [if_neg h] at hc hm
    split
    ·rename_i h9
     rw [if_pos h9] at hm
     cases hm
    ·rename_i h9
     rw [if_neg h9] at hc hm
     cases hs : sizeX s.next (B.drop s.at_) with
     | none => rw [hs] at hc; cases hc
     | some n =>
       rw [hs] at hc hm
       simp only at hc hm ⊢
       have hlen : (nextX B s n).parts.length = s.parts.length + 1 := by simp [nextX]
       split
       ·rename_i h2
        rw [if_pos h2] at hc hm
        exact walk_stop B f _ (by rw [hlen]; omega) (by omega) hc hm
       ·rename_i h2
        rw [if_neg h2] at hc hm
        split
        ·rename_i h3
         right
         refine ⟨by show (0 : Int) ≤ (s.parts.length : Int); omega, ?_⟩
         have : fragO B { nextX B s n with frag := s.parts.length } = offX (ptB B (s.next, s.at_, n)) := by
          unfold fragO
          simp [nextX]
         rw [this]
         exact h3
        ·rename_i h3
         rw [if_neg h3] at hc hm
         exact walk_stop B f _ (by show 9 ≤ f + (nextX B s n).parts.length; rw [hlen]; omega) (by show (nextX B s n).parts.length ≤ 8; omega) hc hm
theorem walk_grow (B : List Nat) : ∀ (f : Nat) (s : St), s.parts.length ≤ (walkX B f s).parts.length ∧ ((walkX B f s).parts.length = s.parts.length → (walkX B f s).next = s.next ∧ (walkX B f s).at_ = s.at_)
 | 0, s => ⟨Nat.le_refl _, fun _ => ⟨rfl, rfl⟩⟩
 | f + 1, s => by
   unfold walkX
   split
   ·exact ⟨Nat.le_refl _, fun _ => ⟨rfl, rfl⟩⟩
   ·split
    ·exact ⟨Nat.le_refl _, fun _ => ⟨rfl, rfl⟩⟩
    ·split
     ·exact ⟨Nat.le_refl _, fun _ => ⟨rfl, rfl⟩⟩
     ·rename_i n hs
      have hlen : (nextX B s n).parts.length = s.parts.length + 1 := by simp [nextX]
      split
      ·have := (walk_grow B f (nextX B s n)).1
       exact ⟨by omega, fun h => by omega⟩
      ·split
       ·exact ⟨by show s.parts.length ≤ (nextX B s n).parts.length; omega, fun h => by have h : (nextX B s n).parts.length = s.parts.length := h; omega⟩
       ·have h2 := (walk_grow B f { nextX B s n with frag := s.parts.length }).1
        have h2 : (nextX B s n).parts.length ≤ _ := h2
        exact ⟨by omega, fun h => by omega⟩
section
variable {E : EnvW} (e : WbvC11Env E)
theorem rk_step0 {Y : List PV} {N : Nat} {w : TV} {b k : TV} {x : Int} {R} (hN : 0 < N) (hN2 : N ≤ 5) (hY : Y.length = N) (hx : cellP Y 0 = some (.sc (.int .i64 x))) (h1 : 10 ≤ x) (h2 : x ≤ 14) {a1 a2 a3 a4 a5 : Int} {B : List Nat} {kk : Int}
 (h : runV E (.loop [0, 1, 5, 6, 7] law11_ExtwalkRanks_L0) (updT (updT (updT (updT (updT botT 7 (ti .i64 1)) 6 (.own N 1 Y)) 5 (gw a1 a2 a3 a4 a5)) 1 (.val (.sl B.length (bp B)))) 0 (ti .i64 kk)) = R) :
 runV E (.loop [0, 1, 5, 6, 7] law11_ExtwalkRanks_L0) (updT (updT (updT (updT (updT botT 7 (ti .i64 0)) 6 (.own N 1 Y)) 5 (gw a1 a2 a3 a4 a5)) 1 (.val (.sl B.length (bp B)))) 0 (ti .i64 kk)) = R := by
 have c1 : 0 < (N : Int) := by omega
 have c2 : ¬ x < 10 := by omega
 have c3 : ¬ 14 < x := by omega
 subst h
 refine loop_go (by simp (maxSteps := 1000000) (disch := first | omega | (simp only [lnS] <;> omega) | assumption | fail) [law11_ExtwalkRanks_L0, wwS, -List.getD_eq_getElem?_getD, -List.drop_drop, hY, hx, hN, c1, c2, c3]; rfl) ?_
 rfl
theorem rk_step {Y : List PV} {N j : Nat} {x y : Int} {R} (hj : j + 1 < N) (hN2 : N ≤ 5) (hY : Y.length = N) (hx : cellP Y (j + 1) = some (.sc (.int .i64 x))) (hy : cellP Y j = some (.sc (.int .i64 y))) (h1 : 10 ≤ x) (h2 : x ≤ 14) (h3 : y < x) {a1 a2 a3 a4 a5 : Int} {B : List Nat} {kk : Int}
 (h : runV E (.loop [0, 1, 5, 6, 7] law11_ExtwalkRanks_L0) (updT (updT (updT (updT (updT botT 7 (ti .i64 (j + 1 + 1 : Nat))) 6 (.own N 1 Y)) 5 (gw a1 a2 a3 a4 a5)) 1 (.val (.sl B.length (bp B)))) 0 (ti .i64 kk)) = R) :
 runV E (.loop [0, 1, 5, 6, 7] law11_ExtwalkRanks_L0) (updT (updT (updT (updT (updT botT 7 (ti .i64 (j + 1 : Nat))) 6 (.own N 1 Y)) 5 (gw a1 a2 a3 a4 a5)) 1 (.val (.sl B.length (bp B)))) 0 (ti .i64 kk)) = R := by
 have c1 : (j : Int) + 1 < N := by omega
 have c2 : ¬ x < 10 := by omega
 have c3 : ¬ 14 < x := by omega
 have c4 : ¬ x ≤ y := by omega
 have c5 : 0 < (j : Int) + 1 := by omega
 have c6 : (j : Int) + 1 - 1 = j := by omega
 have c7 : ((j : Int) + 1).toNat = j + 1 := by omega
 subst h
 refine loop_go (by simp (maxSteps := 1000000) (disch := first | omega | (simp only [lnS] <;> omega) | assumption | fail) [law11_ExtwalkRanks_L0, wwS, -List.getD_eq_getElem?_getD, -List.drop_drop, hY, hx, hy, hj, c1, c2, c3, c4, c5, c6, c7]; rfl) ?_
 rfl
theorem rk_out {Y : List PV} {N : Nat} {a1 a2 a3 a4 a5 : Int} {B : List Nat} {kk : Int} :
 runV E (.loop [0, 1, 5, 6, 7] law11_ExtwalkRanks_L0) (updT (updT (updT (updT (updT botT 7 (ti .i64 (N : Int))) 6 (.own N 1 Y)) 5 (gw a1 a2 a3 a4 a5)) 1 (.val (.sl B.length (bp B)))) 0 (ti .i64 kk)) =
  some (.exit 0, updT (updT (updT (updT botT 6 (.own N 1 Y)) 5 (gw a1 a2 a3 a4 a5)) 1 (.val (.sl B.length (bp B)))) 0 (ti .i64 kk)) := by
 have c1 : ¬ (N : Int) < N := by omega
 refine loop_out (by simp (maxSteps := 1000000) (disch := first | omega | (simp only [lnS] <;> omega) | assumption | fail) [law11_ExtwalkRanks_L0, wwS, -List.getD_eq_getElem?_getD, -List.drop_drop, c1]; first | exact ⟨rfl, rfl⟩ | exact rfl) ?_ (by simp)
 rfl
theorem rk_loop (D : List Int) (hD : D.length ≤ 5) (h1 : ∀ x ∈ D, (10 : Int) ≤ x ∧ x < 15) (h2 : D.Pairwise (· < ·)) {a1 a2 a3 a4 a5 : Int} {B : List Nat} {kk : Int} : ∀ (m i : Nat), i + m = D.length →
 runV E (.loop [0, 1, 5, 6, 7] law11_ExtwalkRanks_L0) (updT (updT (updT (updT (updT botT 7 (ti .i64 (i : Int))) 6 (.own D.length 1 (ip D))) 5 (gw a1 a2 a3 a4 a5)) 1 (.val (.sl B.length (bp B)))) 0 (ti .i64 kk)) =
  some (.exit 0, updT (updT (updT (updT botT 6 (.own D.length 1 (ip D))) 5 (gw a1 a2 a3 a4 a5)) 1 (.val (.sl B.length (bp B)))) 0 (ti .i64 kk))
 | 0, i, hm => by
   have hi : i = D.length := by omega
   subst hi
   exact rk_out
 | m + 1, i, hm => by
   have ih := rk_loop D hD h1 h2 (a1 := a1) (a2 := a2) (a3 := a3) (a4 := a4) (a5 := a5) (B := B) (kk := kk) m (i + 1) (by omega)
   have hi : i < D.length := by omega
   have cl : ∀ j (hj : j < D.length), cellP (ip D) j = some (.sc (.int .i64 D[j])) := fun j hj => by simp [cellP, mp, hj]
   have hx := h1 D[i] (List.getElem_mem hi)
   cases i with
   | zero => exact rk_step0 (w := .undef) (b := .undef) (k := .undef) hi hD (by simp [mp]) (cl 0 hi) hx.1 (by omega) ih
   | succ j =>
     have hp := List.pairwise_iff_getElem.1 h2 j (j + 1) (by omega) hi (by omega)
     exact rk_step hi hD (by simp [mp]) (cl (j + 1) hi) (cl j (by omega)) hx.1 (by omega) hp ih
include e in
theorem ranks_bad {k : Int} {B : List Nat} {N : Nat} {Y : List PV} (hB : B.length ≤ room) (hN : 0 < N) (hlive : callV E "law11.live" [] [] = some ([rB true], [], []))
 (g : callV E "extwalk.Go" [vi k, vb B] [] = some ([.v (.agg [.sc (.int .i64 0), .sc (.int .i64 0), .sc (.int .i64 0), .sc (.int .i64 0), .sc (.int .i64 0)]), .o N 1 Y], [na, na], []))
 (l : runV E (.loop [0, 1, 5, 6, 7] law11_ExtwalkRanks_L0) (updT (updT (updT (updT (updT botT 7 (ti .i64 0)) 6 (.own N 1 Y)) 5 (gw 0 0 0 0 0)) 1 (.val (.sl B.length (bp B)))) 0 (ti .i64 k)) =
  some (.exit 0, updT (updT (updT (updT botT 6 (.own N 1 Y)) 5 (gw 0 0 0 0 0)) 1 (.val (.sl B.length (bp B)))) 0 (ti .i64 k))) :
 callV E "law11.ExtwalkRanks" [vi k, vb B] [] = some ([rB true], [na, na], []) := by
 unfold room at hB
 have c1 : 0 < (N : Int) := by omega
 refine callV_fn e.law11_ExtwalkRanks fun nd hnd => ?_
 simp (maxSteps := 1000000) (disch := first | omega | (simp only [lnS] <;> omega) | assumption | fail) [law11_ExtwalkRanks_B, wwS, -List.getD_eq_getElem?_getD, -List.drop_drop, g, l, hN, c1, hlive]
include e in
theorem ranks_good {k nx a N f o : Int} {B : List Nat} {is : Bool} (hB : B.length ≤ room) (hlive : callV E "law11.live" [] [] = some ([rB true], [], [])) (ha0 : 0 ≤ a) (ha : a ≤ B.length) (hN0 : 0 ≤ N) (hN : N ≤ 8) (h0 : 0 < N ∨ (nx = k ∧ a = 0)) (hf : is = true → f = 2) (ho : (0 < o) = (f = 2))
 (i1 : callV E "extwalk.Is" [vi nx] [] = some ([rB is], [na], []))
 (g : callV E "extwalk.Go" [vi k, vb B] [] = some ([.v (.agg [.sc (.int .i64 nx), .sc (.int .i64 a), .sc (.int .i64 f), .sc (.int .i64 o), .sc (.int .i64 N)]), .o 0 1 []], [na, na], []))
 (l : runV E (.loop [0, 1, 5, 6, 7] law11_ExtwalkRanks_L0) (updT (updT (updT (updT (updT botT 7 (ti .i64 0)) 6 (.own 0 1 [])) 5 (gw nx a f o N)) 1 (.val (.sl B.length (bp B)))) 0 (ti .i64 k)) =
  some (.exit 0, updT (updT (updT (updT botT 6 (.own 0 1 [])) 5 (gw nx a f o N)) 1 (.val (.sl B.length (bp B)))) 0 (ti .i64 k))) :
 callV E "law11.ExtwalkRanks" [vi k, vb B] [] = some ([rB true], [na, na], []) := by
 unfold room at hB
 by_cases hn : N = 0
 ·subst hn
  obtain ⟨h1, h2⟩ : nx = k ∧ a = 0 := by omega
  subst h1 h2
  cases is with
  | true =>
    have hf := hf rfl
    subst hf
    have c6 : 0 < o := ho.mpr rfl
    refine callV_fn e.law11_ExtwalkRanks fun nd hnd => ?_
    simp (maxSteps := 1000000) (disch := first | omega | (simp only [lnS] <;> omega) | assumption | fail) [law11_ExtwalkRanks_B, wwS, -List.getD_eq_getElem?_getD, -List.drop_drop, g, l, i1, hlive, c6]
  | false =>
    refine callV_fn e.law11_ExtwalkRanks fun nd hnd => ?_
    simp (maxSteps := 1000000) (disch := first | omega | (simp only [lnS] <;> omega) | assumption | fail) [law11_ExtwalkRanks_B, wwS, -List.getD_eq_getElem?_getD, -List.drop_drop, g, l, i1, hlive, ho]
 ·have c6 : 0 < N := by omega
  cases is with
  | true =>
    have hf := hf rfl
    subst hf
    have c7 : 0 < o := ho.mpr rfl
    refine callV_fn e.law11_ExtwalkRanks fun nd hnd => ?_
    simp (maxSteps := 1000000) (disch := first | omega | (simp only [lnS] <;> omega) | assumption | fail) [law11_ExtwalkRanks_B, wwS, -List.getD_eq_getElem?_getD, -List.drop_drop, g, l, i1, hlive, ha0, ha, hN0, hN, c6, c7]
  | false =>
    refine callV_fn e.law11_ExtwalkRanks fun nd hnd => ?_
    simp (maxSteps := 1000000) (disch := first | omega | (simp only [lnS] <;> omega) | assumption | fail) [law11_ExtwalkRanks_B, wwS, -List.getD_eq_getElem?_getD, -List.drop_drop, g, l, i1, hlive, ha0, ha, hN0, hN, ho, c6]
include e in
theorem law_ExtwalkRanks (B : Nat) (avs : List PV) (ha : PArgs B [.int .i64, .sl 1 1 (.int .u8)] avs) : ∃ o ho, callV E "law11.ExtwalkRanks" (avs.map .v) [] = some ([rB true], o, ho) := by
 simp only [PArgs] at ha
 obtain ⟨v0, _, rfl, a0, v1, _, rfl, a1, rfl⟩ := ha
 obtain ⟨k, rfl, _⟩ := pv_int a0
 obtain ⟨b, rfl, h256, hB, _⟩ := pv_bytesR a1
 refine ⟨[na, na], [], ?_⟩
 have g := extwalk_Go e k b hB h256
 obtain ⟨ok, hat⟩ := path_ok k b
 have hgo : goX k b = if wrongX b (pathX k b) b.length = [] then (goW b (pathX k b), []) else ([0, 0, 0, 0, 0], wrongX b (pathX k b) b.length) := rfl
 have hgrow := (walk_grow b 9 (st0 k)).2
 have hstop := walk_stop b 9 (st0 k) (by simp [st0]) (by simp [st0])
 have e0 : walkX b 9 (st0 k) = pathX k b := rfl
 rw [e0] at hgrow hstop
 have hD : ∃ F, F.length = 5 ∧ wrongX b (pathX k b) b.length = defsX F 0 := ⟨_, rfl, rfl⟩
 by_cases hw : wrongX b (pathX k b) b.length = []
 ·rw [hgo, if_pos hw] at g
  have hcm : (pathX k b).cut = false ∧ (pathX k b).many = false := by
   unfold wrongX at hw
   simp only [defsX] at hw
   refine ⟨?_, ?_⟩
   ·cases h : (pathX k b).cut with
    | false => rfl
    | true => rw [h] at hw; simp at hw
   ·cases h : (pathX k b).many with
    | false => rfl
    | true => rw [h] at hw; simp at hw
  have hstop := hstop hcm.1 hcm.2
  have i1 := extwalk_Is e (pathX k b).next
  have h8 : (pathX k b).parts.length ≤ 8 := ok.n
  have hl : ∀ x2 x3 x4 x5 : Int, runV E (.loop [0, 1, 5, 6, 7] law11_ExtwalkRanks_L0) (updT (updT (updT (updT (updT botT 7 (ti .i64 0)) 6 (.own 0 1 [])) 5 (gw (pathX k b).next x2 x3 x4 x5)) 1 (.val (.sl b.length (bp b)))) 0 (ti .i64 k)) =
   some (.exit 0, updT (updT (updT (updT botT 6 (.own 0 1 [])) 5 (gw (pathX k b).next x2 x3 x4 x5)) 1 (.val (.sl b.length (bp b)))) 0 (ti .i64 k)) := fun x2 x3 x4 x5 => rk_out (N := 0)
  have h0 : (0 : Int) < (pathX k b).parts.length ∨ ((pathX k b).next = k ∧ ((pathX k b).at_ : Int) = 0) := by
   by_cases h : (pathX k b).parts.length = 0
   ·have := hgrow (by rw [h]; rfl)
    right
    exact ⟨this.1, by rw [this.2]; rfl⟩
   ·left; omega
  unfold goW at g
  by_cases hf : 0 ≤ (pathX k b).frag
  ·rw [if_pos hf] at g
   by_cases ho : 0 < fragO b (pathX k b) / 8
   ·rw [if_pos ho] at g
    exact ranks_good e hB (live e) (by omega) (by omega) (by omega) (by omega) h0 (fun _ => rfl) (propext ⟨fun _ => rfl, fun _ => by omega⟩) i1 g (hl _ _ _ _)
   ·rw [if_neg ho] at g
    have his : isX (pathX k b).next = false := by
     rcases hstop with h | h
     ·exact h
     ·exact (ho h.2).elim
    by_cases h2 : fragO b (pathX k b) % 2 = 0
    ·rw [if_pos h2] at g
     exact ranks_good e hB (live e) (by omega) (by omega) (by omega) (by omega) h0 (fun h => by rw [his] at h; cases h) (propext ⟨fun h => by omega, fun h => by cases h⟩) i1 g (hl _ _ _ _)
    ·rw [if_neg h2] at g
     exact ranks_good e hB (live e) (by omega) (by omega) (by omega) (by omega) h0 (fun h => by rw [his] at h; cases h) (propext ⟨fun h => by omega, fun h => by cases h⟩) i1 g (hl _ _ _ _)
  ·rw [if_neg hf] at g
   have his : isX (pathX k b).next = false := by
    rcases hstop with h | h
    ·exact h
    ·exact (hf h.1).elim
   exact ranks_good e hB (live e) (by omega) (by omega) (by omega) (by omega) h0 (fun h => by rw [his] at h; cases h) (propext ⟨fun h => by omega, fun h => by cases h⟩) i1 g (hl _ _ _ _)
 ·rw [hgo, if_neg hw] at g
  obtain ⟨F, hF, hDF⟩ := hD
  obtain ⟨r1, r2⟩ := defs_rise F 0
  have hlen := defs_len F 0
  rw [← hDF] at r1 r2 hlen
  generalize wrongX b (pathX k b) b.length = D at *
  have hpos : 0 < D.length := List.length_pos_iff.2 hw
  have l := rk_loop (E := E) D (by omega) (fun x hx => by have := r1 x hx; omega) r2 (a1 := 0) (a2 := 0) (a3 := 0) (a4 := 0) (a5 := 0) (B := b) (kk := k) D.length 0 (by omega)
  exact ranks_bad e hB hpos (live e) g l
end
end Go.Wb.P11
